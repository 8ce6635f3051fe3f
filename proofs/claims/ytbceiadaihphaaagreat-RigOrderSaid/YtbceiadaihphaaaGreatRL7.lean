/-
  A part of the proof: contracts of inner functions.
-/
import Derived.Test.YtbceiadaihphaaaGreatRG6
set_option linter.unusedVariables false
set_option linter.unusedSimpArgs false
namespace Go.Proofs.YtbceiadaihphaaaGreat
open Go.Am
variable {e:gT} {ex:eG e} {rep:e.σ→List Value→(Rl→Nat)→(Rl→Option aj)→Prop} {aO guard fresh:e.σ→Nat→Nat→Prop} {kd nb nw xp:Nat} {s0:e.σ}
theorem MY {h:PT aj} {N q q2:Nat} {ps s:Value} {As:List (List (List Int))} {A:List (List Int)} (hW:iG h N) (hP:dV xj h q ps As) (hs:pR Gq h q2 s A) (hq:0<As.length→q+As.length<q2):∃ d C,St h N d C∧(0<As.length→Pa d C ps As)∧jw d C s A∧∀ a b,a≠62→a≠64→a≠65→C (a,b)=none:=by
 let d:Rl→Nat:=fun r=>if r=(62,0) then q2 else if r=(64,0) then q else q+1+r.2
 let C:Rl→Option aj:=fun r=>if r=(62,0) then h.get q2 else if r=(64,0)∧0<As.length then h.get q else if r.1=65∧r.2<As.length then h.get (q+1+r.2) else none
 have cases:∀ r,C r≠none→(r=(62,0)∧d r=q2)∨(r=(64,0)∧d r=q∧0<As.length)∨(r.1=65∧r.2<As.length∧d r=q+1+r.2):=by
  intro r hr
  by_cases c1:r=(62,0)
  ·left;exact⟨c1,if_pos c1⟩
  by_cases c2:r=(64,0)∧0<As.length
  ·right;left;exact⟨c2.1,by show (if _ then _ else _)=_;rw[if_neg c1,if_pos c2.1],c2.2⟩
  by_cases c3:r.1=65∧r.2<As.length
  ·right;right;refine⟨c3.1,c3.2,?_⟩
   show (if _ then _ else _)=_
   rw[if_neg c1,if_neg (fun c=>by rw[c] at c3;simp at c3)]
  ·exact absurd (by show (if _ then _ else _)=_;rw[if_neg c1,if_neg c2,if_neg c3]) hr
 have Zu:d (62,0)=q2:=if_pos rfl
 have Zv:d (64,0)=q:=rfl
 have Zw:∀ i,d (65,i)=q+1+i:=fun i=>rfl
 have Sk:C (62,0)=h.get q2:=if_pos rfl
 refine⟨d,C,⟨fun r B hB=>?_,fun r t h1 h2 h3=>?_,hW⟩,fun h0=>?_,?_,fun a b c1 c2 c3=>?_⟩
 ·have hr:C r≠none:=by rw[hB];simp
  rcases cases r hr with ⟨rfl,e⟩ | ⟨rfl,e,h0⟩ | ⟨e1,e2,e⟩
  ·rw[e,←Sk];exact hB
  ·rw[e]
   have:C (64,0)=h.get q:=by show (if _ then _ else _)=_;rw[if_neg (by decide),if_pos ⟨rfl,h0⟩]
   rw[←this];exact hB
  ·rw[e]
   obtain⟨ra,rb⟩:=r
   simp only at e1 e2
   subst e1
   have:C (65,rb)=h.get (q+1+rb):=by show (if _ then _ else _)=_;rw[if_neg (by simp),if_neg (by simp),if_pos ⟨rfl,e2⟩]
   rw[←this];exact hB
 ·obtain⟨ra,rb⟩:=r
  obtain⟨ta,tb⟩:=t
  rcases cases _ h1 with ⟨e1,e2⟩ | ⟨e1,e2,e3⟩ | ⟨e1,e2,e3⟩<;>rcases cases _ h2 with ⟨f1,f2⟩ | ⟨f1,f2,f3⟩ | ⟨f1,f2,f3⟩
  ·rw[e1,f1]
  ·have:=hq f3;omega
  ·have:=hq (by omega);simp only at f2;omega
  ·have:=hq e3;omega
  ·rw[e1,f1]
  ·simp only at f2 f3;omega
  ·have:=hq (by omega);simp only at e2;omega
  ·simp only at e2 e3;omega
  ·simp only at e1 f1 e3 f3
   have:rb=tb:=by omega
   rw[e1,f1,this]
 ·rcases hP with ⟨-,rfl⟩ | ⟨cap,vs,e1,e2,e3,e4,e5,e6⟩
  ·simp at h0
  ·refine⟨cap,vs,by rw[Zv];exact e1,?_,e5,fun i A hA=>?_⟩
   ·show (if _ then _ else _)=_
    rw[if_neg (by decide),if_pos ⟨rfl,h0⟩];exact e4
   ·obtain⟨a1,a2,a3,a4⟩:=e6 i A hA
    have hi:=(List.getElem?_eq_some_iff.1 hA).1
    refine⟨a1,?_,?_⟩
    ·show (if _ then _ else _)=_
     rw[if_neg (by simp),if_neg (by simp),if_pos ⟨rfl,hi⟩];exact a3
    ·rcases a4 with a4 | ⟨cp,a4,-⟩
     ·exact .inl a4
     ·exact .inr ⟨cp,by rw[Zw];exact a4⟩
 ·obtain⟨Cy,e | ⟨cap,e1,e2,e3,e4⟩⟩:=hs
  ·exact⟨Cy,.inl e⟩
  ·exact⟨Cy,.inr ⟨cap,by rw[Zu];exact e1,by rw[Sk];exact e4⟩⟩
 ·show (if _ then _ else _)=_
  rw[if_neg (by simp[c1]),if_neg (by simp[c2]),if_neg (by simp[c3])]
theorem Pa.of {d d':Rl→Nat} {C C':Rl→Option aj} {ps:Value} {As:List (List (List Int))} (p:Pa d C ps As) (hx:∀ a b,a=64∨a=65→d' (a,b)=d (a,b)∧C' (a,b)=C (a,b)):Pa d' C' ps As:=by
 obtain⟨cap,vs,e1,e2,e3,e4⟩:=p.out
 refine⟨cap,vs,by rw[(hx 64 0 (.inl rfl)).1];exact e1,by rw[(hx 64 0 (.inl rfl)).2];exact e2,e3,fun i A hA=>?_⟩
 obtain⟨a1,a2,a3⟩:=e4 i A hA
 refine⟨a1,by rw[(hx 65 i (.inr rfl)).2];exact a2,?_⟩
 rw[(hx 65 i (.inr rfl)).1];exact a3
end Go.Proofs.YtbceiadaihphaaaGreat
namespace Go.Am
section
variable {P:Program}
def I9 (a o m:Nat) (l:List Value):aj→AP Value
 | .cells d false=>match bQ d o l with
  |some d' => .set a (.cells d' false) (.pure (.int .i64 (m:Nat)))
  |none => .fail "copy"
 | _ => .fail "copy"
def I_ (b bo a o s m:Nat):aj→AP Value
 | .cells c _=>match bp c bo (m*s) with
  |some l => .get a (I9 a o m l)
  |none => .fail "copy"
 | _ => .fail "copy"
def Zy (k:Option (Option Nat×Nat)) (a o b bo len n:Nat) (fb:AP aJ):AP aJ:=match k with
 |some (none,s)=>cond (Nat.beq (min n len) 0) (.pure (.value (.int .i64 0))) ((AP.get b (I_ b bo a o s (min n len))).bind fun v => .pure (.value v))
 | _=>fb
@[go_sem] theorem O4 {t u:TypeId} {a o b bo len n c c':Nat} {p q:Option Nat}:uN P .copy [t,u] [.slice (some ⟨a,o,p⟩) len c,.slice (some ⟨b,bo,q⟩) n c']=Zy (sS P t) a o b bo len n ((tD P [t,u] [.slice (some ⟨a,o,p⟩) len c,.slice (some ⟨b,bo,q⟩) n c']).bind fun v => .pure (.value v)):=by
 show (tD P [t,u] [.slice (some ⟨a,o,p⟩) len c,.slice (some ⟨b,bo,q⟩) n c']).bind (fun v=>AP.pure (aJ.value v))=_
 unfold Zy sS
 cases hu:P.underlying t with
 |none=>rfl
 |some w=>
  cases w with
  |slice e=>
   dsimp only
   cases hi:P.info? e with
   |none=>rfl
   |some i=>
    simp only[Option.map_some,tD,hu,hi]
    cases Nat.beq (min n len) 0<;>rfl
  |array l e=>dsimp only;cases P.info? e<;>rfl
  | _=>rfl
@[go_sem] theorem Sl {s a o b bo len n:Nat} {fb:AP aJ}:Zy (some (none,s)) a o b bo len n fb=cond (Nat.beq (min n len) 0) (.pure (.value (.int .i64 0))) ((AP.get b (I_ b bo a o s (min n len))).bind fun v => .pure (.value v)):=rfl
@[go_sem] theorem Sm {b bo a o s m:Nat} {L:List Value} {ro:Bool}:I_ b bo a o s m (.cells (PT.ofList .leaf 0 L) ro)=cond (Nat.ble (bo+m*s) L.length||Nat.beq (m*s) 0) (.get a (I9 a o m ((L.drop bo).take (m*s)))) (.fail "copy"):=by
 simp only[I_,dO]
 cases (Nat.ble (bo+m*s) L.length||Nat.beq (m*s) 0)<;>rfl
@[go_sem] theorem Sn {a o m:Nat} {l L:List Value}:I9 a o m l (.cells (PT.ofList .leaf 0 L) false)=cond ((Nat.ble (o+l.length) L.length||l.isEmpty)&&l.all bn) (.set a (.cells (PT.ofList .leaf 0 (nQ L o l)) false) (.pure (.int .i64 (m:Nat)))) (.fail "copy"):=by
 simp only[I9,gn]
 cases ((Nat.ble (o+l.length) L.length||l.isEmpty)&&l.all bn)<;>rfl
end
end Go.Am
namespace Go.Proofs.YtbceiadaihphaaaGreat
open Go.Am
variable {e:gT} {ex:eG e} {rep:e.σ→List Value→(Rl→Nat)→(Rl→Option aj)→Prop}
theorem xq {α:Type} {f g:Rl→α} {a:Rl} (h:∀ s,s≠a→g s=f s):g=upd f a (g a):=by
 funext s
 by_cases c:s=a
 ·subst c;rw[ah]
 ·rw[ay c,h s c]
theorem bP.only {ns:Nat} (F:gp e ex ns rep) {ops:Ops} {k:List Value} {a b:Nat} {r:RS e} {d d':Rl→Nat} {C C':Rl→Option aj} (ha:45≤a) (R:bP rep ops ns (aM ops d r) r k d C) (hx:∀ s,s≠(a,b)→d' s=d s∧C' s=C s):bP rep ops ns (aM ops d' r) r k d' C':=by
 have e1:=xq (f:=d) (g:=d') (a:=(a,b)) fun s c=>(hx s c).1
 have e2:=xq (f:=C) (g:=C') (a:=(a,b)) fun s c=>(hx s c).2
 have:=bP.MG (a:=a) (b:=b) (i:=d' (a,b)) (B:=C' (a,b)) F ha R
 rw[←e1,←e2] at this;exact this
def Cz (ex:eG e) (r:RS e) (i:Nat):List Value:=(List.range i).map fun t=>U8 (RS.nx ex.hJ ex.h_ r t)
theorem sO {r:RS e} {i:Nat}:(Cz ex r i).length=i:=by simp[Cz]
theorem FL {r:RS e} {i:Nat}:Cz ex r i++[U8 (RS.nx ex.hJ ex.h_ r i)]=Cz ex r (i+1):=by
 unfold Cz;rw[List.range_succ,List.map_append];rfl
theorem Ja {r:RS e} {i t:Nat} (h:t<i):(Cz ex r i)[t]? = some (U8 (RS.nx ex.hJ ex.h_ r t)):=by
 unfold Cz;rw[List.getElem?_map,List.getElem?_range h];rfl
set_option maxRecDepth 100000 in
set_option maxHeartbeats 4000000 in
theorem Jb {ns:Nat} (F:gp e ex ns rep) (N:qu e ns rep ex.hJ ex.h_) (cq:0<ns∧ns≤64) {ops:Ops} {n:Nat} {k:List Value} {r:RS e} {d:Rl→Nat} {C:Rl→Option aj} {h:PT aj} (S:St h n d C) (R:bP rep ops ns (aM ops d r) r k d C):
  b9 Tryz.prog OP 12 [pt (d (40,0))] h n fun v h' n'=>∃ d' C',v = .slice (some ⟨d' (66,1),0,none⟩) ns (aB+1)∧St h' n' d' C'∧C' (66,1)=row (Cz ex r ns)∧∀ s,s≠(66,1)→d' s=d s∧C' s=C s:=by
 obtain⟨p,hp⟩:∃ p,d (40,0)=p:=⟨_,rfl⟩
 have dQ:=S.at R.bA
 rw[hp] at dQ
 simp only[cS] at dQ
 rw[hp]
 refine aC (N:=27) Tryz.func12 rfl rfl fun z hP hO hro hN hQ=>?_
 repeat' first |simp(disch:=first |omega |assumption) only[go_sem, *] | (apply xs<;>intro _)<;>try omega
 refine dG (fun t m h' n'=>∃ i:Nat,i≤ns∧t=ns-i∧m.n=27∧m.gD=[]∧m.get 0=pt p∧m.get 11=I6 ns∧m.get 12=I6 i∧∃ d' C',m.get 3=(if i=0 then .slice none 0 0 else .slice (some ⟨d' (66,1),0,none⟩) i (aB+1))∧St h' n' d' C'∧(i≠0→C' (66,1)=row (Cz ex r i))∧∀ s,s≠(66,1)→d' s=d s∧C' s=C s) ns ?_ ?_
 ·refine⟨0,by omega,by omega,?_⟩
  simp(disch:=first |omega |assumption) only[go_sem, *]
  exact⟨d,C,S,fun c=>c.elim,fun s _=>⟨rfl,rfl⟩⟩
 ·clear dQ
  rintro t m h' n' ih ⟨i,hi,rfl,m1,m2,m3,m4,m5,d',C',m6,S3,MZ,hx⟩
  rcases Nat.lt_or_ge i ns with hlt |hge
  ·have e7:(i:Int)<ns:=by omega
   have qt:((i+1:Nat):Int)=(i:Int)+1:=by omega
   have R3:=R.only F (by omega) hx
   have en:=Fz N S3 R3 hlt
   have dQ:=S3.at R3.bA
   rw[(hx (40,0) (by simp)).1,hp] at dQ
   simp only[cS] at dQ
   by_cases c0:i=0
   ·subst c0
    rw[if_pos rfl] at m6
    repeat' first |simp(disch:=first |omega |assumption) only[go_sem, *] | (apply xs<;>intro _)<;>try omega
    refine eJ (en) (by simp only[*]) (by simp only[*]) (by simp only[go_sem, *]) (by simp only[go_sem, *]) ?_
    rintro v h4 n4 ⟨rfl,S4⟩
    clear en dQ
    repeat' first |simp(disch:=first |omega |assumption) only[go_sem, *] | (apply xs<;>intro _)<;>try omega
    refine ih (ns-1) _ _ _ (by omega) ⟨1,by omega,rfl,?_⟩
    clear ih
    simp(disch:=first |omega |assumption) only[go_sem, *]
    refine⟨_,_,?_,(S4.junk bG bH).new (66,1) _ bG bH,fun _=>rS,fun s c=>⟨by rw[ay c];exact(hx s c).1,by rw[ay c];exact(hx s c).2⟩⟩
    rw[ah]
   ·rw[if_neg c0] at m6
    have Wa:=S3.at (MZ c0)
    have hlen:=sO (ex:=ex) (r:=r) (i:=i)
    have YP:=FL (ex:=ex) (r:=r) (i:=i)
    have tZ:List.take i (Cz ex r i)=Cz ex r i:=List.take_of_length_le (by omega)
    repeat' first |simp(disch:=first |omega |assumption) only[go_sem, *] | (apply xs<;>intro _)<;>try omega
    refine eJ (en) (by simp only[*]) (by simp only[*]) (by simp only[go_sem, *]) (by simp only[go_sem, *]) ?_
    rintro v h4 n4 ⟨rfl,S4⟩
    clear en dQ Wa
    have Wa:=S4.at (MZ c0)
    have n66:=S4.lt (MZ c0)
    repeat' first |simp(disch:=first |omega |assumption) only[go_sem, *] | (apply xs<;>intro _)<;>try omega
    refine ih (ns-(i+1)) _ _ _ (by omega) ⟨i+1,by omega,rfl,?_⟩
    rw[qt]
    clear ih
    simp(disch:=first |omega |assumption) only[go_sem, *]
    refine⟨_,_,?_,(((S4.junk bG bH).kill (66,1) (MZ c0) rfl).new (66,1) _ bG bH).eq (by rw[aN]) rfl,fun _=>?_,fun s c=>⟨by rw[ay c];exact(hx s c).1,by rw[ay c];exact(hx s c).2⟩⟩
    ·rw[ah]
    ·rw[ah]
  ·have e7: ¬ (i:Int)<ns:=by omega
   obtain rfl:i=ns:=by omega
   rw[if_neg (by omega)] at m6
   clear ih
   repeat' first |simp(disch:=first |omega |assumption) only[go_sem, *] | (apply xs<;>intro _)<;>try omega
   exact⟨d',C',rfl,S3,MZ (by omega),hx⟩
end Go.Proofs.YtbceiadaihphaaaGreat
namespace Go.Proofs.YtbceiadaihphaaaGreat
open Go.Am
variable {e:gT} {ex:eG e} {rep:e.σ→List Value→(Rl→Nat)→(Rl→Option aj)→Prop}
theorem xu:∀ (vs A B:List Value),B.length=vs.length→nQ (A++B) A.length vs=A++vs
 | [],A,B,h=>by
  rw[List.eq_nil_of_length_eq_zero h];rfl
 |v::vs,A,[],h=>by simp at h
 |v::vs,A,b::B,h=>by
  have q:(A++b::B).set A.length v=(A++[v])++B:=by simp
  have:=xu vs (A++[v]) B (by simpa using h)
  rw[List.length_append] at this
  rw[nQ,q]
  simpa using this
@[go_sem] theorem CB {L vs:List Value} (h:vs.length=L.length):nQ L 0 vs=vs:=by
 have:=xu vs [] L h.symm
 simpa using this
attribute [go_sem] Nat.min_self
@[go_sem] theorem xw {a b c d e f:Value} {k:Nat}:(Go.Am.rep [a,b,c,d,e,f] k).length=k*6:=rz _ _
theorem FM {L:List Value} {i:Nat} (h:L.all bn=true):(L.drop i).all bn=true:=by
 rw[List.all_eq_true] at h ⊢
 exact fun x hx=>h x (List.mem_of_mem_drop hx)
set_option maxRecDepth 100000 in
set_option maxHeartbeats 4000000 in
theorem So {n kk fr:Nat} {W:List Int} {L:List Value} {d:Rl→Nat} {C:Rl→Option aj} {h:PT aj} (S:St h n d C) (M:dP d C W L kk) (hk:kk≤100000) (hw:W.length≤100000) (hf:fr≤kk) (hone:L.all bn=true):
  b9 Tryz.prog OP 25 [pt (d rM),I6 fr] h n fun v h' n'=>∃ d' C',v=(if fr<kk then .slice (some ⟨d' (67,0),0,none⟩) (kk-fr) (kk-fr) else .slice none 0 0)∧St h' n' d' C'∧(fr<kk→C' (67,0)=row (L.drop (fr*6)))∧∀ s,s≠(67,0)→d' s=d s∧C' s=C s:=by
 have gM:=S.at M.mem
 have nM:=S.lt M.mem
 have f0: ¬ (fr:Int)<0:=by omega
 by_cases c:fr<kk
 ·have hl:zf (d rL) kk = .slice (some ⟨d rL,0,none⟩) kk (aB+6):=if_neg (by omega)
  rw[hl] at gM
  have hL:C rL=row L:=by
   rcases M.log with ⟨q,_⟩ | ⟨_,q⟩
   ·omega
   ·exact q
  have gL:=S.at hL
  have nL:=S.lt hL
  have hlen:=M.len
  have f1: ¬ (fr:Int)≥kk:=by omega
  have f2:(kk:Int)-fr=((kk-fr:Nat):Int):=by omega
  have tZ:List.take ((kk-fr)*6) (List.drop (fr*6) L)=List.drop (fr*6) L:=List.take_of_length_le (by rw[List.length_drop];omega)
  have hdl:(List.drop (fr*6) L).length=(kk-fr)*6:=by rw[List.length_drop];omega
  have hal:=FM (i:=fr*6) hone
  have hpos:0<kk-fr:=by omega
  clear hl hL
  refine aC (N:=31) Tryz.func25 rfl rfl fun z hP hO hro hN hQ=>?_
  repeat' first |simp(disch:=first |omega |assumption) only[go_sem, *] | (apply xs<;>intro _)<;>try omega |refine fun (_ _:List Nat)=>?_ | (first |refine aT Tryz.func52 rfl ?_ ?_ ?_ ?_ |fail)<;>intros
  exact⟨_,_,rS,(S.new (67,0) (.cells (PT.ofList .leaf 0 (Go.Am.rep [.int .i64 0,.int .i64 0,.int .u8 0,.int .u64 0,.int .u64 0,.bool false] (kk-fr))) false) bG bH).set (67,0) _ ah ah,fun _=>by rw[ah,CB (by rw[hdl];exact xw.symm)],fun s hs=>⟨ay hs,by rw[ay hs,ay hs]⟩⟩
 ·have f1:(fr:Int)≥kk:=by omega
  rcases M.log with ⟨q,rfl⟩ | ⟨q,hL⟩
  ·subst q
   have hl:zf (d rL) 0 = .slice none 0 0:=if_pos rfl
   rw[hl] at gM
   clear hl
   refine aC (N:=31) Tryz.func25 rfl rfl fun z hP hO hro hN hQ=>?_
   repeat' first |simp(disch:=first |omega |assumption) only[go_sem, *] | (apply xs<;>intro _)<;>try omega |refine fun (_ _:List Nat)=>?_ | (first |refine aT Tryz.func52 rfl ?_ ?_ ?_ ?_ |fail)<;>intros
   refine⟨d,C,?_⟩
   simp[S]
  ·have hl:zf (d rL) kk = .slice (some ⟨d rL,0,none⟩) kk (aB+6):=if_neg (by omega)
   rw[hl] at gM
   clear hl
   refine aC (N:=31) Tryz.func25 rfl rfl fun z hP hO hro hN hQ=>?_
   repeat' first |simp(disch:=first |omega |assumption) only[go_sem, *] | (apply xs<;>intro _)<;>try omega |refine fun (_ _:List Nat)=>?_ | (first |refine aT Tryz.func52 rfl ?_ ?_ ?_ ?_ |fail)<;>intros
   refine⟨d,C,?_⟩
   simp[S]
set_option maxRecDepth 100000 in
set_option maxHeartbeats 4000000 in
theorem FN {ns:Nat} (F:gp e ex ns rep) {ops:Ops} {n kk fr:Nat} {L:List Value} {r:RS e} {d:Rl→Nat} {C:Rl→Option aj} {h:PT aj} (S:St h n d C) (R:bP rep ops ns (aM ops d r) r L d C) (hkk:L.length=kk*6) (hk:kk≤90000) (hf:fr≤kk) (hone:L.all bn=true):
  b9 Tryz.prog OP 11 [pt (d (40,0)),I6 fr] h n fun v h' n'=>∃ d' C',v=(if fr<kk then .slice (some ⟨d' (67,0),0,none⟩) (kk-fr) (kk-fr) else .slice none 0 0)∧St h' n' d' C'∧(fr<kk→C' (67,0)=row (L.drop (fr*6)))∧∀ s,s≠(67,0)→d' s=d s∧C' s=C s:=by
 obtain⟨W,k,M,hW⟩:=F.mem R.rep
 obtain rfl:k=kk:=by have:=M.len;omega
 have dQ:=S.at R.bA
 simp only[cS] at dQ
 have en:=So S M (by omega) hW hf hone
 refine aC (N:=13) Tryz.func11 rfl rfl fun z hP hO hro hN hQ=>?_
 repeat' first |simp(disch:=first |omega |assumption) only[go_sem, *] | (apply xs<;>intro _)<;>try omega
 refine eJ (en) (by simp only[*]) (by simp only[*]) (by simp only[go_sem, *]) (by simp only[go_sem, *]) ?_
 rintro v h4 n4 ⟨d',C',rfl,q⟩
 clear en dQ
 repeat' first |simp(disch:=first |omega |assumption) only[go_sem, *] | (apply xs<;>intro _)<;>try omega
 exact⟨d',C',rfl,q⟩
end Go.Proofs.YtbceiadaihphaaaGreat
namespace Go.Proofs.YtbceiadaihphaaaGreat
open Go.Am
variable {e:gT} {ops:Ops} {xp ns:Nat} {aO guard fresh:e.σ→Nat→Nat→Prop}
structure WS where
 i:Bool
 v:Nat
 o:List (Nat×Nat)
def WS.go (w:WS) (p:Nat×Nat):WS:=
 if p.1=1∧w.i=false∧p.2<64 then ⟨true,p.2,w.o++[(1,p.2)]⟩
 else if p.1=2∧w.i=true∧p.2=0 then ⟨false,w.v,w.o++[(2,w.v)]⟩
 else if p.1=3∧w.i=false∧p.2≠0 then ⟨w.i,w.v,w.o++[(3,p.2),(4,p.2)]⟩
 else w
def kQ (l:List (Nat×Nat)) (n:Nat):WS:=(l.take n).foldl WS.go ⟨false,0,[]⟩
theorem oV {l:List (Nat×Nat)}:kQ l 0=⟨false,0,[]⟩:=by simp[kQ]
theorem j8 {l:List (Nat×Nat)} {n:Nat} {p:Nat×Nat} (h:l[n]? = some p):kQ l (n+1)=(kQ l n).go p:=by
 unfold kQ
 rw[List.take_add_one,h,List.foldl_append];rfl
def ia (l:List Ev) (t:Nat):List (Nat×Nat):=(l.filter fun x=>x.2.1==t).map fun x=>x.2.2
theorem vk {l:List Ev} {x:Ev} {t:Nat}:ia (l++[x]) t=ia l t++(if x.2.1=t then [x.2.2] else []):=by
 unfold ia
 rw[List.filter_append,List.map_append]
 congr 1
 by_cases c:x.2.1=t
 ·rw[if_pos c];simp[c]
 ·rw[if_neg c];simp[c]
theorem oW {l:List Ev} {a b:Nat} {p:Nat×Nat}:ia (l++[(a,b,p)]) b=ia l b++[p]:=by rw[vk,if_pos rfl]
theorem qS {l:List Ev} {a b t:Nat} {p:Nat×Nat} (h:b≠t):ia (l++[(a,b,p)]) t=ia l t:=by rw[vk,if_neg h,List.append_nil]
def suf (ops:Ops) (r:RS e) (t:Nat):List (Nat×Nat):=if e.wt r.s t=true∧r.bg t=true then [(3,r.setOf ops t)] else []
theorem fS {r:RS e} {t:Nat} (h:e.wt r.s t=false∨r.bg t=false):suf ops r t=[]:=by
 unfold suf
 rw[if_neg]
 rintro ⟨a,b⟩
 rcases h with h |h
 ·rw[h] at a;simp at a
 ·rw[h] at b;simp at b
theorem vl {r:RS e} {t v:Nat} (h1:e.wt r.s t=true) (h2:r.bg t=true) (h3:r.setOf ops t=v):suf ops r t=[(3,v)]:=by
 unfold suf
 rw[if_pos ⟨h1,h2⟩,h3]
structure WT (ops:Ops) (r:RS e) (t i:Nat):Prop where
 bB:(kQ (ops t) i).i=e.bB r.s t
 val:e.bB r.s t=true→(kQ (ops t) i).v=r.val t
 ev:ia r.ev t=(kQ (ops t) i).o++suf ops r t
theorem xx {r r':RS e} {t:Nat} (h:r'.idx t=r.idx t):r'.setOf ops t=r.setOf ops t:=by unfold RS.setOf;rw[h]
theorem M0 {r r':RS e} {t:Nat} (h3:e.wt r'.s t=e.wt r.s t) (h4:r'.bg t=r.bg t) (h6:r'.idx t=r.idx t):suf ops r' t=suf ops r t:=by unfold suf;rw[h3,h4,xx h6]
def RF (ops:Ops) (r:RS e) (t:Nat):Prop:=r.pc t=1→∀ p,(ops t)[r.idx t]? = some p→(kQ (ops t) (r.idx t)).go p=kQ (ops t) (r.idx t)
theorem WT.of {r r':RS e} {t i:Nat} (h:WT ops r t i) (h1:e.bB r'.s t=e.bB r.s t) (h2:r'.val t=r.val t) (h3:e.wt r'.s t=e.wt r.s t) (h4:r'.bg t=r.bg t) (h5:ia r'.ev t=ia r.ev t) (h6:r'.idx t=r.idx t):WT ops r' t i:=
 ⟨by rw[h1];exact h.bB,by rw[h1,h2];exact h.val,by rw[h5,M0 h3 h4 h6];exact h.ev⟩
theorem RF.of {r r':RS e} {t:Nat} (h:RF ops r t) (h1:r'.pc t=r.pc t) (h6:r'.idx t=r.idx t):RF ops r' t:=by
 unfold RF;rw[h1,h6];exact h
theorem mg {w:WS} {p:Nat×Nat} (h1: ¬ (p.1=1∧p.2<64∧w.i=false)) (h2: ¬ (p.1=2∧p.2=0∧w.i=true)) (h3: ¬ (p.1=3∧p.2≠0∧w.i=false)):w.go p=w:=by
 unfold WS.go
 rw[if_neg (fun c=>h1 ⟨c.1,c.2.2,c.2.1⟩),if_neg (fun c=>h2 ⟨c.1,c.2.2,c.2.1⟩),if_neg (fun c=>h3 ⟨c.1,c.2.2,c.2.1⟩)]
theorem WT.ct (fit:e.Fits) (hx:xp≠0∧xp≠1) {r:RS e} {t:Nat} (h:WT ops r t (r.idx t)) (h2:e.wt r.s t=false):WT ops (RS.ct ops xp r t) t (r.idx t)∧RF ops (RS.ct ops xp r t) t:=by
 have cR:=h.ev
 rw[fS (.inl h2),List.append_nil] at cR
 unfold RS.ct
 cases ho:(ops t)[r.idx t]? with
 |none=>exact⟨h.of rfl rfl rfl rfl rfl rfl,fun c=>by
   have c':fs r.pc t 0 t=1:=c
   rw[aA] at c';omega⟩
 |some p=>
  obtain⟨kd,v⟩:=p
  simp only
  by_cases c1:kd=1∧v<64∧e.bB r.s t=false
  ·rw[if_pos c1]
   obtain⟨f1,f2,f3⟩:=fit.enter r.s t v c1.2.2
   refine⟨⟨(h.bB).trans (f2 t).symm,fun q=>?_,?_⟩,fun c=>?_⟩
   ·have q':e.bB (e.enter r.s t v) t=true:=q
    rw[f2,c1.2.2] at q';simp at q'
   ·rw[fS (.inl ((f3 t).trans h2)),List.append_nil];exact cR
   ·have c':fs r.pc t 0 t=1:=c
    rw[aA] at c';omega
  ·rw[if_neg c1]
   by_cases c2:kd=2∧v=0∧e.bB r.s t=true
   ·rw[if_pos c2]
    exact⟨h.of rfl rfl rfl rfl rfl rfl,fun c=>by
     have c':fs r.pc t xp t=1:=c
     rw[aA] at c';exact absurd c' hx.2⟩
   ·rw[if_neg c2]
    by_cases c3:kd=3∧v≠0∧e.bB r.s t=false
    ·rw[if_pos c3]
     obtain⟨f1,f2,f3⟩:=fit.wait r.s t v
     refine⟨⟨(h.bB).trans (f2 t).symm,fun q=>?_,?_⟩,fun c=>?_⟩
     ·have q':e.bB (e.wait r.s t v) t=true:=q
      rw[f2,c3.2.2] at q';simp at q'
     ·rw[fS (.inr aA),List.append_nil];exact cR
     ·have c':fs r.pc t 0 t=1:=c
      rw[aA] at c';omega
    ·rw[if_neg c3]
     refine⟨h.of rfl rfl rfl rfl rfl rfl,fun _ p hp=>?_⟩
     have wD:(ops t)[r.idx t]? = some p:=hp
     rw[ho] at wD
     obtain rfl:=Option.some.inj wD
     exact mg (by rw[h.bB];exact c1) (by rw[h.bB];exact c2) (by rw[h.bB];exact c3)
theorem FO {r:RS e} {k:Nat}:(RS.ct ops xp r k).idx=r.idx:=by
 unfold RS.ct;split
 ·rfl
 ·split
  ·rfl
  ·split
   ·rfl
   ·split<;>rfl
theorem sP (fit:e.Fits) {r:RS e} {t u:Nat} (c:u≠t):e.bB (RS.ct ops xp r t).s u=e.bB r.s u∧e.wt (RS.ct ops xp r t).s u=e.wt r.s u∧(RS.ct ops xp r t).val u=r.val u∧(RS.ct ops xp r t).bg u=r.bg u∧(RS.ct ops xp r t).pc u=r.pc u∧(RS.ct ops xp r t).idx=r.idx∧(RS.ct ops xp r t).ev=r.ev:=by
 unfold RS.ct
 split
 ·exact⟨rfl,rfl,rfl,rfl,az c,rfl,rfl⟩
 ·split
  ·rename_i q
   obtain⟨f1,f2,f3⟩:=fit.enter r.s t _ q.2.2
   exact⟨f2 u,f3 u,az c,rfl,az c,rfl,rfl⟩
  ·split
   ·exact⟨rfl,rfl,rfl,rfl,az c,rfl,rfl⟩
   ·split
    ·obtain⟨f1,f2,f3⟩:=fit.wait r.s t _
     exact⟨f2 u,(f3 u).trans (if_neg c),rfl,az c,az c,rfl,rfl⟩
    ·exact⟨rfl,rfl,rfl,rfl,az c,rfl,rfl⟩
theorem AF (fit:e.Fits) {r:RS e} {t u:Nat} (one:One e r.s) (a:At ops xp r t) (act:r.d_ t) (hx:xp≠0∧xp≠1) (c:u≠t):e.bB (r.mid ops t).s u=e.bB r.s u∧e.wt (r.mid ops t).s u=e.wt r.s u∧(r.mid ops t).val u=r.val u∧(r.mid ops t).bg u=r.bg u∧(r.mid ops t).pc u=r.pc u∧(r.mid ops t).idx=r.idx∧ia (r.mid ops t).ev u=ia r.ev u:=by
 unfold RS.mid
 cases a with
 |over a0 a1 a2 a3=>rcases act with q |q |q<;>simp_all
 |br v a0 a1 a2 a3 a4 a5=>
  rw[if_pos a2]
  obtain⟨f1,f2,f3⟩:=fit.aP r.s t a2 ((one t).1 a2).1
  refine⟨(f2 u).trans (if_neg c),f3 u,rfl,rfl,rfl,rfl,?_⟩
  show ia (if _ then r.ev else _) u=_
  split
  ·rfl
  ·exact qS (Ne.symm c)
 |wait v a0 a1 a2 a3 a4=>
  rw[if_neg (show ¬e.br r.s t=true by rw[a2];simp),if_pos a3]
  obtain⟨f1,f2,f3⟩:=fit.aQ r.s t
  refine⟨f2 u,f3 u c,rfl,az c,rfl,rfl,?_⟩
  have h1:ia (if r.bg t=true then r.ev else r.ev++[(r.n,t,3,r.setOf ops t)]) u=ia r.ev u:=by
   split
   ·rfl
   ·exact qS (Ne.symm c)
  have h2:∀ l,ia (l++(if e.wt (e.aQ r.s t) t=true then [] else [(r.n,t,4,r.setOf ops t)])) u=ia l u:=fun l=>by
   split
   ·rw[List.append_nil]
   ·exact qS (Ne.symm c)
  exact(h2 _).trans h1
 |exit a0 a1 a2 a3 a4=>
  rw[if_neg (show ¬e.br r.s t=true by rw[a1];simp),if_neg (show ¬e.wt r.s t=true by rw[a2];simp),if_neg (show ¬r.pc t=1 by rw[a3];exact hx.2)]
  obtain⟨f1,f2,f3⟩:=fit.exit r.s t a4
  exact⟨(f2 u).trans (if_neg c),f3 u,rfl,rfl,rfl,rfl,qS (Ne.symm c)⟩
 |refuse o a0 a1 a2 a3=>
  rw[if_neg (show ¬e.br r.s t=true by rw[a1];simp),if_neg (show ¬e.wt r.s t=true by rw[a2];simp),if_pos a3]
  exact⟨rfl,rfl,rfl,rfl,rfl,rfl,rfl⟩
theorem WT.mid (fit:e.Fits) {r:RS e} {t:Nat} (one:One e r.s) (a:At ops xp r t) (act:r.d_ t) (hx:xp≠0∧xp≠1) (h:WT ops r t (r.idx t)) (rf:RF ops r t):WT ops (r.mid ops t) t (if r.dn t=true then r.idx t+1 else r.idx t)∧(r.dn t=false→(r.mid ops t).pc t=r.pc t):=by
 obtain⟨hi,hv,cR⟩:=h
 unfold RS.mid RS.dn
 cases a with
 |over a0 a1 a2 a3=>rcases act with q |q |q<;>simp_all
 |br v a0 a1 a2 a3 a4 a5=>
  rw[if_pos a2,if_pos a2]
  have hn:=((one t).1 a2).1
  obtain⟨f1,f2,f3⟩:=fit.aP r.s t a2 hn
  rw[fS (.inl a3),List.append_nil] at cR
  have sL:=f2 t
  rw[if_pos rfl] at sL
  refine⟨?_,fun _=>rfl⟩
  cases hd:e.br (e.aP r.s t) t with
  |true=>
   rw[hd] at sL
   simp only[Bool.not_true,Bool.false_eq_true,if_false,if_true]
   refine⟨by rw[hi,hn];exact sL.symm,fun q=>?_,?_⟩
   ·have q':e.bB (e.aP r.s t) t=true:=q
    rw[sL] at q';simp at q'
   ·rw[fS (.inl ((f3 t).trans a3)),List.append_nil];exact cR
  |false=>
   rw[hd] at sL
   simp only[Bool.not_false,if_true,Bool.false_eq_true,if_false]
   have hg:kQ (ops t) (r.idx t+1)=⟨true,v,(kQ (ops t) (r.idx t)).o++[(1,v)]⟩:=by
    rw[j8 a0];unfold WS.go;rw[if_pos ⟨rfl,by rw[hi,hn],a1⟩]
   refine⟨by rw[hg];exact sL.symm,fun q=>by rw[hg];exact a5.symm,?_⟩
   rw[fS (.inl ((f3 t).trans a3)),List.append_nil]
   show ia (r.ev++[(r.n,t,1,r.val t)]) t=_
   rw[oW,hg,cR,a5]
 |wait v a0 a1 a2 a3 a4=>
  have n1: ¬ e.br r.s t=true:=by rw[a2];simp
  rw[if_neg n1,if_pos a3,if_neg n1,if_pos a3]
  obtain⟨f1,f2,f3⟩:=fit.aQ r.s t
  have hn:e.bB r.s t=false:=by
   cases q:e.bB r.s t with
   |false=>rfl
   |true=>have:=(one t).2 q;rw[a3] at this;simp at this
  have hs:r.setOf ops t=v:=by unfold RS.setOf;rw[a0]
  rw[hs]
  have h1:ia (if r.bg t=true then r.ev else r.ev++[(r.n,t,3,v)]) t=(kQ (ops t) (r.idx t)).o++[(3,v)]:=by
   cases hb:r.bg t with
   |true=>rw[vl a3 hb hs] at cR;rw[if_pos rfl];exact cR
   |false=>rw[fS (.inr hb),List.append_nil] at cR;rw[if_neg (by simp),oW,cR]
  refine⟨?_,fun _=>rfl⟩
  cases hd:e.wt (e.aQ r.s t) t with
  |true=>
   simp only[Bool.not_true,Bool.false_eq_true,if_false,if_true,List.append_nil]
   refine⟨by rw[hi];exact(f2 t).symm,fun q=>?_,?_⟩
   ·have q':e.bB (e.aQ r.s t) t=true:=q
    rw[f2,hn] at q';simp at q'
   ·refine h1.trans ?_
    congr 1
    exact Eq.symm (vl (v:=v) hd aA (Eq.trans (xx (r:=r) rfl) hs))
  |false=>
   simp only[Bool.not_false,if_true,Bool.false_eq_true,if_false]
   have hg:kQ (ops t) (r.idx t+1)=⟨false,(kQ (ops t) (r.idx t)).v,(kQ (ops t) (r.idx t)).o++[(3,v),(4,v)]⟩:=by
    rw[j8 a0];unfold WS.go
    rw[if_neg (fun c=>by have:=c.1;simp at this),if_neg (fun c=>by have:=c.1;simp at this),if_pos ⟨rfl,by rw[hi,hn],a1⟩,hi,hn]
   refine⟨by rw[hg];exact((f2 t).trans hn).symm,fun q=>?_,?_⟩
   ·have q':e.bB (e.aQ r.s t) t=true:=q
    rw[f2,hn] at q';simp at q'
   ·rw[fS (.inl hd),List.append_nil]
    show ia (_++[(r.n,t,4,v)]) t=_
    rw[oW,h1,hg,List.append_assoc];rfl
 |exit a0 a1 a2 a3 a4=>
  have p1: ¬ r.pc t=1:=by rw[a3];exact hx.2
  have n1: ¬ e.br r.s t=true:=by rw[a1];simp
  have n2: ¬ e.wt r.s t=true:=by rw[a2];simp
  rw[if_neg n1,if_neg n2,if_neg p1,if_neg n1,if_neg n2]
  obtain⟨f1,f2,f3⟩:=fit.exit r.s t a4
  have hg:kQ (ops t) (r.idx t+1)=⟨false,(kQ (ops t) (r.idx t)).v,(kQ (ops t) (r.idx t)).o++[(2,(kQ (ops t) (r.idx t)).v)]⟩:=by
   rw[j8 a0];unfold WS.go
   rw[if_neg (fun c=>by have:=c.1;simp at this),if_pos ⟨rfl,by rw[hi,a4],rfl⟩]
  rw[fS (.inl a2),List.append_nil] at cR
  have sL:=f2 t
  rw[if_pos rfl] at sL
  refine⟨?_,fun q=>by simp at q⟩
  rw[if_pos rfl]
  refine⟨by rw[hg];exact sL.symm,fun q=>?_,?_⟩
  ·have q':e.bB (e.exit r.s t) t=true:=q
   rw[sL] at q';simp at q'
  ·rw[fS (.inl ((f3 t).trans a2)),List.append_nil]
   show ia (r.ev++[(r.n,t,2,r.val t)]) t=_
   rw[oW,hg,cR,hv a4]
 |refuse o a0 a1 a2 a3=>
  have n1: ¬ e.br r.s t=true:=by rw[a1];simp
  have n2: ¬ e.wt r.s t=true:=by rw[a2];simp
  rw[if_neg n1,if_neg n2,if_pos a3,if_neg n1,if_neg n2,if_pos rfl]
  have hg:kQ (ops t) (r.idx t+1)=kQ (ops t) (r.idx t):=by rw[j8 a0];exact rf a3 _ a0
  exact⟨⟨by rw[hg];exact hi,by rw[hg];exact hv,by rw[hg];exact cR⟩,fun _=>rfl⟩
def WI (ops:Ops) (ns:Nat) (r:RS e):Prop:=∀ t,t<ns→WT ops r t (r.idx t)∧RF ops r t
theorem WI.pick (G:e.fq ns aO guard) {r:RS e} {t:Nat} (h:WI ops ns r) (I:gQ ops xp aO fresh ns r) (ht:t<ns) (hx:xp≠0∧xp≠1):WI ops ns (RS.pick ops xp r t):=by
 unfold RS.pick
 split
 ·rename_i act
  obtain⟨m1,m2⟩:=WT.mid G.fits I.one (I.at_ t ht) act hx (h t ht).1 (h t ht).2
  rw[l6 act]
  have hidx:(r.mid ops t).idx=r.idx:=by
   unfold RS.mid;split
   ·rfl
   ·split
    ·rfl
    ·split<;>rfl
  cases hd:r.dn t with
  |true=>
   obtain⟨i1,i2,i3,i4⟩:=sM (ops:=ops) G.fits I.one (I.at_ t ht) act hd
   rw[hd,if_pos rfl] at m1
   rw[if_pos rfl]
   intro u hu
   by_cases c:u=t
   ·subst c
    have m3:WT ops ({ (r.mid ops u) with idx:=fs (r.mid ops u).idx u ((r.mid ops u).idx u+1) }:RS e) u (fs (r.mid ops u).idx u ((r.mid ops u).idx u+1) u):=by
     rw[aA,hidx]
     refine⟨m1.bB,m1.val,?_⟩
     have:=m1.ev
     rw[fS (.inl i2)] at this
     refine this.trans ?_
     congr 1
     exact Eq.symm (fS (.inl i2))
    obtain⟨b1,b2⟩:=WT.ct (xp:=xp) G.fits hx m3 i2
    have hb:=FO (ops:=ops) (xp:=xp) (r:=({ (r.mid ops u) with idx:=fs (r.mid ops u).idx u ((r.mid ops u).idx u+1) }:RS e)) (k:=u)
    refine⟨?_,b2.of rfl rfl⟩
    have b3:WT ops (RS.up (RS.next ops xp (r.mid ops u) u)) u (fs (r.mid ops u).idx u ((r.mid ops u).idx u+1) u):=b1.of rfl rfl rfl rfl rfl rfl
    have hq:(RS.up (RS.next ops xp (r.mid ops u) u)).idx u=fs (r.mid ops u).idx u ((r.mid ops u).idx u+1) u:=congrFun hb u
    rw[hq];exact b3
   ·obtain⟨o1,o2,o3,o4,o5,o6,o7⟩:=AF (ops:=ops) G.fits I.one (I.at_ t ht) act hx c
    obtain⟨p1,p2,p3,p4,p5,p6,p7⟩:=sP (ops:=ops) (xp:=xp) G.fits (r:=({ (r.mid ops t) with idx:=fs (r.mid ops t).idx t ((r.mid ops t).idx t+1) }:RS e)) c
    have hq:(RS.up (RS.next ops xp (r.mid ops t) t)).idx u=r.idx u:=(congrFun p6 u).trans ((az c).trans (congrFun hidx u))
    rw[hq]
    exact⟨(h u hu).1.of (p1.trans o1) (p3.trans o3) (p2.trans o2) (p4.trans o4) ((congrArg (fun l=>ia l u) p7).trans o7) hq,(h u hu).2.of (p5.trans o5) hq⟩
  |false=>
   rw[hd,if_neg (by simp)] at m1
   rw[if_neg (by simp)]
   intro u hu
   have hq:(RS.up (r.mid ops t)).idx u=r.idx u:=congrFun hidx u
   rw[hq]
   by_cases c:u=t
   ·subst c
    exact⟨m1.of rfl rfl rfl rfl rfl rfl,(h u hu).2.of (m2 hd) hq⟩
   ·obtain⟨o1,o2,o3,o4,o5,o6,o7⟩:=AF (ops:=ops) G.fits I.one (I.at_ t ht) act hx c
    exact⟨(h u hu).1.of o1 o3 o2 o4 o7 hq,(h u hu).2.of o5 hq⟩
 ·exact fun u hu=>⟨(h u hu).1.of rfl rfl rfl rfl rfl rfl,(h u hu).2.of rfl rfl⟩
theorem WI.eK (G:e.fq ns aO guard) (Fe:e.gC ns aO guard fresh) {s0:e.σ} (idle:∀ t,e.br s0 t=false∧e.wt s0 t=false∧e.bB s0 t=false) (hx:xp≠0∧xp≠1):∀ i,(∀ t,WT ops (RS.eK ops xp (RS.zero s0) i) t 0)∧∀ t,RF ops (RS.eK ops xp (RS.zero s0) i) t
 |0=>by
  refine⟨fun t=>?_,fun t c=>?_⟩
  ·obtain⟨i1,i2,i3⟩:=idle t
   refine⟨by rw[oV];exact i3.symm,fun q=>?_,?_⟩
   ·have q':e.bB s0 t=true:=q
    rw[i3] at q';simp at q'
   ·rw[fS (.inl i2),oV];rfl
  ·have c':(0:Nat)=1:=c
   omega
 |i+1=>by
  obtain⟨w1,w2⟩:=WI.eK G Fe idle hx i
  obtain⟨I,q1,q2,q3,q4,q5⟩:=gu G Fe idle (ops:=ops) (xp:=xp) i
  have hz:(RS.eK ops xp (RS.zero s0) i).idx i=0:=congrFun q3 i
  have hwi:=w1 i
  rw[←hz] at hwi
  obtain⟨b1,b2⟩:=WT.ct (xp:=xp) G.fits hx hwi (q1 i (Nat.le_refl _)).2
  rw[hz] at b1
  refine⟨fun t=>?_,fun t=>?_⟩
  ·by_cases c:t=i
   ·subst c;exact b1
   ·obtain⟨p1,p2,p3,p4,p5,p6,p7⟩:=sP (ops:=ops) (xp:=xp) G.fits (r:=RS.eK ops xp (RS.zero s0) i) c
    exact(w1 t).of p1 p3 p2 p4 (congrArg (fun l=>ia l t) p7) (congrFun p6 t)
  ·by_cases c:t=i
   ·subst c;exact b2
   ·obtain⟨p1,p2,p3,p4,p5,p6,p7⟩:=sP (ops:=ops) (xp:=xp) G.fits (r:=RS.eK ops xp (RS.zero s0) i) c
    exact(w2 t).of p5 (congrFun p6 t)
theorem WI.zero (G:e.fq ns aO guard) (Fe:e.gC ns aO guard fresh) {s0:e.σ} (idle:∀ t,e.br s0 t=false∧e.wt s0 t=false∧e.bB s0 t=false) (hx:xp≠0∧xp≠1):WI ops ns (RS.eK ops xp (RS.zero s0) ns):=fun t _=>by
 obtain⟨w1,w2⟩:=WI.eK (ops:=ops) (xp:=xp) G Fe idle hx ns
 obtain⟨I,q1,q2,q3,q4,q5⟩:=gu G Fe idle (ops:=ops) (xp:=xp) ns
 have hz:(RS.eK ops xp (RS.zero s0) ns).idx t=0:=congrFun q3 t
 rw[hz]
 exact⟨w1 t,w2 t⟩
end Go.Proofs.YtbceiadaihphaaaGreat
namespace Go.Proofs.YtbceiadaihphaaaGreat
open Go.Am
variable {e:gT} {ex:eG e} {rep:e.σ→List Value→(Rl→Nat)→(Rl→Option aj)→Prop} {aO guard fresh:e.σ→Nat→Nat→Prop} {kd nb nw xp:Nat} {s0:e.σ}
@[go_sem] theorem afq:(true==true)=true:=rfl
@[go_sem] theorem afr:(true==false)=false:=rfl
@[go_sem] theorem afs:(false==true)=false:=rfl
@[go_sem] theorem aft:(false==false)=true:=rfl
attribute [go_sem] Bool.not_true Bool.not_false
theorem _root_.Go.Am.St.back {h:PT aj} {n:Nat} {d d':Rl→Nat} {C C':Rl→Option aj} {a:Rl} (S:St h n d' C') (hx:∀ s,s≠a→d' s=d s∧C' s=C s) (hn:C a=none):St h n d C:=by
 have S1:=(S.drop a).nC (d':=upd d' a (d a)) a ah (fun s c=>ay c)
 have e1:upd d' a (d a)=d:=by
  funext s
  by_cases c:s=a
  ·subst c;exact ah
  ·rw[ay c];exact(hx s c).1
 have e2:upd C' a none=C:=by
  funext s
  by_cases c:s=a
  ·subst c;rw[ah];exact hn.symm
  ·rw[ay c];exact(hx s c).2
 rw[e1,e2] at S1
 exact S1
theorem Rg.back {ns:Nat} (F:gp e ex ns rep) {ops:Ops} {d0 d1:Rl→Nat} {C0 C1:Rl→Option aj} {p i n:Nat} {k:List Value} {r:RS e} {d:Rl→Nat} {C:Rl→Option aj} {h:PT aj} (g:Rg rep ops ns d1 C1 p i r k d C h n) (c6:C0 (66,1)=none) (c7:C0 (67,0)=none) (c8:C0 (68,0)=none) (hx:∀ s:Rl,60≤s.1→s≠(66,1)→s≠(67,0)→s≠(68,0)→d s=d0 s∧C s=C0 s):∃ d' C',Rg rep ops ns d0 C0 p i r k d' C' h n:=by
 have S1:=(g.S.drop (66,1)).nC (d':=upd d (66,1) (d0 (66,1))) (66,1) ah (fun s c=>ay c)
 have S2:=(S1.drop (67,0)).nC (d':=upd (upd d (66,1) (d0 (66,1))) (67,0) (d0 (67,0))) (67,0) ah (fun s c=>ay c)
 have S3:=(S2.drop (68,0)).nC (d':=upd (upd (upd d (66,1) (d0 (66,1))) (67,0) (d0 (67,0))) (68,0) (d0 (68,0))) (68,0) ah (fun s c=>ay c)
 refine⟨_,_,S3,rE g.at_,?_,g.k,g.ev,g.n,fun a b ha=>?_⟩
 ·rw[iI (by omega),iI (by omega),iI (by omega)]
  exact((g.R.FB F (by omega)).FB F (by omega)).FB F (by omega)
 ·by_cases c3:((a,b):Rl)=(68,0)
  ·rw[c3,ah,ah];exact⟨rfl,c8.symm⟩
  rw[ay c3,ay c3]
  by_cases c1:((a,b):Rl)=(67,0)
  ·rw[c1,ah,ah];exact⟨rfl,c7.symm⟩
  ·rw[ay c1,ay c1]
   by_cases c2:((a,b):Rl)=(66,1)
   ·rw[c2,ah,ah];exact⟨rfl,c6.symm⟩
   ·rw[ay c2,ay c2];exact hx _ ha c2 c1 c3
theorem Sr {ns:Nat} (F:gp e ex ns rep) {r:RS e} {t:Nat} (hp:r.pc t<256):(1<RS.nx ex.hJ ex.h_ r t∧RS.nx ex.hJ ex.h_ r t<256∧jc t (RS.ac ex r t))∨((RS.nx ex.hJ ex.h_ r t=0∨RS.nx ex.hJ ex.h_ r t=1)∧RS.ac ex r t=[]):=by
 unfold RS.nx RS.ac
 split
 ·exact .inl ⟨(F.OL.1 r.s t).1,(F.OL.1 r.s t).2,(F.Fa r.s t).1⟩
 ·split
  ·exact .inl ⟨(F.OL.2.1 r.s t).1,(F.OL.2.1 r.s t).2,(F.Fa r.s t).2.1⟩
  ·by_cases c:r.pc t≤1
   ·rw[if_pos c];exact .inr ⟨by omega,rfl⟩
   ·rw[if_neg c]
    exact .inl ⟨by omega,by omega,(F.Fa r.s t).2.2⟩
theorem Jc {t:Nat} {l:List Value} (h:jc t l):l.all bn=true:=by
 obtain⟨_,_,_,_,_,rfl⟩:=h;rfl
theorem Ss {ops:Ops} {r:RS e} {t:Nat} (a:At ops xp r t) (hx:xp<256):r.pc t<256:=by
 cases a with
 |over h h1 h2 h3=>rw[h3];decide
 |br v h hv h1 h2 h3 h4=>rw[h3];decide
 |wait v h hv h1 h2 h3=>rw[h3];decide
 |exit h h1 h2 h3 h4=>rw[h3];exact hx
 |refuse o h h1 h2 h3=>rw[h3];decide
end Go.Proofs.YtbceiadaihphaaaGreat
namespace Go.Proofs.YtbceiadaihphaaaGreat
open Go.Am
variable {e:gT} {ex:eG e} {rep:e.σ→List Value→(Rl→Nat)→(Rl→Option aj)→Prop} {aO guard fresh:e.σ→Nat→Nat→Prop} {kd nb nw xp:Nat} {s0:e.σ}
def wL (o:List (Nat×Nat)):List Value:=o.flatMap fun p=>[I6 0,I6 0,U8 p.1,U6 p.2]
theorem iJ:∀ o,(wL o).length=o.length*4
 | []=>rfl
 |p::o=>by
  have q:wL (p::o)=[I6 0,I6 0,U8 p.1,U6 p.2]++wL o:=rfl
  rw[q,List.length_append,iJ o]
  show 4+_=(o.length+1)*4
  omega
theorem AG {o:List (Nat×Nat)} {a b:Nat}:wL o++[I6 0,I6 0,U8 a,U6 b]=wL (o++[(a,b)]):=by simp[wL]
theorem FP {o:List (Nat×Nat)} {a b c d:Nat}:wL o++[I6 0,I6 0,U8 a,U6 b,I6 0,I6 0,U8 c,U6 d]=wL (o++[(a,b),(c,d)]):=by simp[wL]
theorem FQ:∀ {o:List (Nat×Nat)} {i:Nat} {z:Nat×Nat},o[i]? = some z→(wL o)[i*4+2]? = some (U8 z.1)∧(wL o)[i*4+3]? = some (U6 z.2)
 | [],i,z,h=>by simp at h
 |p::l,0,z,h=>by simp at h;subst h;exact⟨rfl,rfl⟩
 |p::l,i+1,z,h=>by
  have:=FQ (o:=l) (i:=i) (by simpa using h)
  have q:wL (p::l)=I6 0::I6 0::U8 p.1::U6 p.2::wL l:=rfl
  rw[q,show (i+1)*4=i*4+1+1+1+1 by omega]
  obtain⟨h3,h4⟩:=this
  exact⟨by simpa using h3,by simpa using h4⟩
def wS (d:Rl→Nat) (o:List (Nat×Nat)):Value:=if o=[] then .slice none 0 0 else .slice (some ⟨d (69,0),0,none⟩) o.length (aB+4)
structure Wn (d0:Rl→Nat) (C0:Rl→Option aj) (o:List (Nat×Nat)) (v:Value) (d:Rl→Nat) (C:Rl→Option aj) (h:PT aj) (n:Nat):Prop where
 S:St h n d C
 v:v=wS d o
 row:o≠[]→C (69,0)=row (wL o)
 ep:∀ s,s≠(69,0)→d s=d0 s∧C s=C0 s
theorem Wn.of {d0 d:Rl→Nat} {C0 C:Rl→Option aj} {o:List (Nat×Nat)} {v:Value} {h h2:PT aj} {n n2:Nat} (w:Wn d0 C0 o v d C h n) (S:St h2 n2 d C):Wn d0 C0 o v d C h2 n2:=⟨S,w.v,w.row,w.ep⟩
theorem Wn.nil {d0 d:Rl→Nat} {C0 C:Rl→Option aj} {o:List (Nat×Nat)} {h:PT aj} {m g:Nat} {L:List Value} (hx:∀ s,s≠(69,0)→d s=d0 s∧C s=C0 s) (ho:o≠[]) (hL:L=wL o) (S:St h m (upd d (69,0) g) (upd C (69,0) (some (.cells (PT.ofList .leaf 0 L) false)))):Wn d0 C0 o (.slice (some ⟨g,0,none⟩) o.length (aB+4)) (upd d (69,0) g) (upd C (69,0) (some (.cells (PT.ofList .leaf 0 L) false))) h m:=
 ⟨S,by unfold wS;rw[if_neg ho,ah],fun _=>by rw[ah,hL],fun s c=>⟨by rw[ay c];exact(hx s c).1,by rw[ay c];exact(hx s c).2⟩⟩
theorem M4 {d:Rl→Nat} {o:List (Nat×Nat)}:∃ X c,wS d o = .slice X o.length c:=by
 unfold wS
 by_cases h:o=[]
 ·rw[if_pos h,h];exact⟨_,_,rfl⟩
 ·rw[if_neg h];exact⟨_,_,rfl⟩
theorem xy:∀ {l:List Ev} {i:Nat} {z:Ev},l[i]? = some z→List.take 4 (List.drop (i*4) (oZ l))=[I6 z.1,I6 z.2.1,U8 z.2.2.1,U6 z.2.2.2]
 | [],i,z,h=>by simp at h
 |p::l,0,z,h=>by simp at h;subst h;rfl
 |p::l,i+1,z,h=>by
  have:=xy (l:=l) (i:=i) (by simpa using h)
  have q:oZ (p::l)=I6 p.1::I6 p.2.1::U8 p.2.2.1::U6 p.2.2.2::oZ l:=rfl
  rw[q,show (i+1)*4=i*4+1+1+1+1 by omega]
  simpa using this
theorem xA {l:List Ev} {j t:Nat} {z:Ev} (h:l[j]? = some z):ia (l.take (j+1)) t=if z.2.1=t then ia (l.take j) t++[z.2.2] else ia (l.take j) t:=by
 rw[List.take_add_one,h]
 show ia (l.take j++[z]) t=_
 rw[vk]
 split
 ·rfl
 ·rw[List.append_nil]
theorem FR {a b:List Ev} {t:Nat}:ia (a++b) t=ia a t++ia b t:=by unfold ia;rw[List.filter_append,List.map_append]
theorem M5 {l:List Ev} {j t:Nat} {z:Ev} (h:l[j]? = some z) (ht:z.2.1=t):(ia l t)[(ia (l.take j) t).length]? = some z.2.2:=by
 have q:ia l t=ia (l.take (j+1)) t++ia (l.drop (j+1)) t:=by rw[←FR,List.take_append_drop]
 rw[q,xA h,if_pos ht,List.append_assoc,List.getElem?_append_right (Nat.le_refl _),Nat.sub_self]
 rfl
theorem vm {l:List (Nat×Nat)}:∀ k,k≤l.length→(kQ l k).o.length≤2*k
 |0,_=>by rw[oV];exact Nat.le_refl _
 |k+1,h=>by
  have:=vm (l:=l) k (by omega)
  rw[j8 (List.getElem?_eq_getElem (show k<l.length by omega))]
  unfold WS.go
  split
  ·simp only[List.length_append,List.length_cons,List.length_nil];omega
  ·split
   ·simp only[List.length_append,List.length_cons,List.length_nil];omega
   ·split
    ·simp only[List.length_append,List.length_cons,List.length_nil];omega
    ·omega
theorem M6 {ops:Ops} {r:RS e} {t:Nat} (a:At ops xp r t):suf ops r t=[]∨∃ v,suf ops r t=[(3,v)]∧(ops t)[r.idx t]? = some (3,v):=by
 cases hw:e.wt r.s t with
 |false=>exact .inl (fS (.inl hw))
 |true=>
  cases hb:r.bg t with
  |false=>exact .inl (fS (.inr hb))
  |true=>
   cases a with
   |wait v a0 a1 a2 a3 a4=>exact .inr ⟨v,vl hw hb (by unfold RS.setOf;rw[a0]),a0⟩
   |over h h1 h2 h3=>rw[h2] at hw;simp at hw
   |br v h hv h1 h2 h3 h4=>rw[h2] at hw;simp at hw
   |exit h h1 h2 h3 h4=>rw[h2] at hw;simp at hw
   |refuse o h h1 h2 h3=>rw[h2] at hw;simp at hw
end Go.Proofs.YtbceiadaihphaaaGreat
namespace Go.Proofs.YtbceiadaihphaaaGreat
open Go.Am
variable {e:gT} {ex:eG e} {rep:e.σ→List Value→(Rl→Nat)→(Rl→Option aj)→Prop} {aO guard fresh:e.σ→Nat→Nat→Prop} {kd nb nw xp:Nat} {s0:e.σ}
structure Og (ops:Ops) (xp:Nat) (aO fresh:e.σ→Nat→Nat→Prop) (rep:e.σ→List Value→(Rl→Nat)→(Rl→Option aj)→Prop) (ns:Nat) (d0:Rl→Nat) (C0:Rl→Option aj) (p i:Nat) (r:RS e) (k:List Value) (kk:Nat) (d:Rl→Nat) (C:Rl→Option aj) (h:PT aj) (n:Nat):Prop where
 g:Rg rep ops ns d0 C0 p i r k d C h n
 inv:gQ ops xp aO fresh ns r
 wi:WI ops ns r
 one:k.all bn=true
 len:k.length=kk*6
set_option maxRecDepth 100000 in
set_option maxHeartbeats 16000000 in
theorem zL {As:List (List (List Int))} (K:Kt e ex As.length rep aO guard fresh kd nb nw s0 xp) {x q:Nat} {b:Int} (xJ:x%3+1=kd) (hnb:if kd=3 then (1+(b.tmod 4+4).tmod 4:Int)=nb else nb=0) {ps s:Value} {A:List (List Int)} {d:Rl→Nat} {C:Rl→Option aj} {h:PT aj} {n:Nat} (S:St h n d C) (Kv:dV xj h q ps As) (P:Pa d C ps As) (hA:jw d C s A) (O1:0<As.length) (O2:C (20,0)=none) (c8:C (98,0)=none) (c9:C (99,0)=none) (c66:C (66,0)=none) (c61:C (66,1)=none) (c67:C (67,0)=none) (c68:C (68,0)=none) (c69:C (69,0)=none):
  b9 Tryz.prog OP 4 [.agg ⟨[U8 x,I6 b]⟩,ps,s] h n fun v h' n'=>v = .bool true:=by
 obtain⟨x0,cap,hs'⟩:∃ x0 cap,s = .slice x0 A.length cap:=by
  rcases hA.2 with ⟨rfl,rfl⟩ | ⟨cap,rfl,_⟩
  ·exact⟨_,_,rfl⟩
  ·exact⟨_,_,rfl⟩
 obtain⟨cp,vs,hps,Al,hvl,hvs⟩:=P.out
 have M7:dV xj (h.set n (some (.cells (PT.ofList .leaf 0 [U8 x,I6 b]) false))) q ps As:=Kv.keep (Kept.set' S.wf (Nat.le_refl _) (Kept.refl _))
 have Ku: ¬ (As.length:Int)<1:=by omega
 have en:=zK (x:=x0) (pk:=A.length) (cap:=cap) M7 hs' (n:=n+1)
 rw[hps] at en M7
 rw[hs'] at en
 rw[hps,hs']
 refine aC (N:=333) Tryz.func4 rfl rfl fun z hP hO hro hN hQ=>?_
 repeat' first |simp(disch:=first |omega |assumption) only[go_sem, *] | (apply xs<;>intro _)<;>try omega
 refine eJ (en) (by simp only[*]) (by simp only[*]) (by simp only[go_sem, *]) (by simp only[go_sem, *]) ?_
 rintro v h1 n1 ⟨sb,rfl,rfl,rfl,hsh⟩
 clear en
 cases sb with
 |false=>repeat' first |simp(disch:=first |omega |assumption) only[go_sem, *] | (apply xs<;>intro _)<;>try omega
 |true=>
  obtain⟨l8,ajQ,Wb⟩:=hsh rfl
  clear hsh
  repeat' first |simp(disch:=first |omega |assumption) only[go_sem, *] | (apply xs<;>intro _)<;>try omega
  have S1:=S.junk (B:=some (.cells (PT.ofList .leaf 0 [U8 x,I6 b]) false)) bG bH
  have hok:=xm P Wb
  have hx1:=Sg K
  have Sv:jw d C (.slice none 0 0) []:=⟨fun r hr=>by simp at hr,.inl ⟨rfl,rfl⟩⟩
  have Q0:gQ (opsOf As) xp aO fresh As.length (RS.eK (opsOf As) xp (RS.zero s0) As.length)∧WI (opsOf As) As.length (RS.eK (opsOf As) xp (RS.zero s0) As.length):=⟨(gu K.G K.Fe K.B.idle _).1,WI.zero K.G K.Fe K.B.idle hx1⟩
  have xB:∀ r t,t<As.length→gQ (opsOf As) xp aO fresh As.length r∧WI (opsOf As) As.length r→gQ (opsOf As) xp aO fresh As.length (RS.pick (opsOf As) xp r t)∧WI (opsOf As) As.length (RS.pick (opsOf As) xp r t):=fun r t ht q=>⟨q.1.pick K.G K.Fe ht hx1,q.2.pick K.G q.1 ht hx1⟩
  have mk:=Sj K (fun r=>gQ (opsOf As) xp aO fresh As.length r∧WI (opsOf As) As.length r) (fun r t ht q=>⟨q.1,xB r t ht q⟩) Q0 xJ hnb S1 P Sv ⟨O1,l8⟩ Wb (by simp) O2 c8 c9
  rw[hps] at mk
  refine eJ (mk) (by simp only[*]) (by simp only[*]) (by simp only[go_sem, *]) (by simp only[go_sem, *]) ?_
  rintro v h2 n2 ⟨r,k,d2,C2,rfl,g,⟨inv,wi⟩,lg⟩
  clear mk Q0 S1 M7 Sv
  have J7:k=[]:=by have:=g.k;exact List.eq_nil_of_length_eq_zero (by simpa using this)
  subst J7
  have og:Og (opsOf As) xp aO fresh rep As.length d2 C2 (d2 (40,0)) 0 r [] 0 d2 C2 h2 n2:=⟨g,inv,wi,rfl,rfl⟩
  clear g inv wi
  have k8:=(lg 98 0 (by omega)).2.trans c8
  have k9:=(lg 99 0 (by omega)).2.trans c9
  have k66:=(lg 66 0 (by omega)).2.trans c66
  have k61:=(lg 66 1 (by omega)).2.trans c61
  have Zz:=(lg 67 0 (by omega)).2.trans c67
  have k68:=(lg 68 0 (by omega)).2.trans c68
  have k69:=(lg 69 0 (by omega)).2.trans c69
  have xk:=hA.of (lg 62 0 (by omega)).1 (lg 62 0 (by omega)).2
  have q64:=(lg 64 0 (by omega)).2.trans Al
  have Sw:=(lg 64 0 (by omega)).1
  have Wc:∀ i,C2 (65,i)=C (65,i)∧d2 (65,i)=d (65,i):=fun i=>⟨(lg 65 i (by omega)).2,(lg 65 i (by omega)).1⟩
  rw[←Sw]
  clear lg c8 c9 c66 c61 c67 c68 c69 O2 S Kv hA Al hps Sw
  generalize hp:d2 (40,0)=p at*
  clear hp
  have hpx:=K.px
  have FX:=K.F.OL
  have Sx:xp<256:=by have:=K.xp;split at this<;>omega
  have ajS:=K.cq
  repeat' first |simp(disch:=first |omega |assumption) only[go_sem, *] | (apply xs<;>intro _)<;>try omega
  refine dG (fun t m h' n'=>∃ i:Nat,i≤A.length∧t=A.length-i∧m.n=333∧m.gD=[]∧m.get 1 = .slice (some ⟨d2 (64,0),0,none⟩) As.length cp∧m.get 2 = .slice x0 A.length cap∧m.get 7=pt p∧m.get 8=I6 i∧∃ r k kk d' C',Og (opsOf As) xp aO fresh rep As.length d2 C2 p i r k kk d' C' h' n') A.length ?_ ?_
  ·refine⟨0,by omega,by omega,?_⟩
   clear hvs Wc xB hok
   simp(disch:=first |omega |assumption) only[go_sem, *]
   exact⟨r,[],0,d2,C2,og⟩
  ·clear og
   rintro t m h' n' ih ⟨i,hi,rfl,m1,m2,m3,m4,m5,m6,r,k,kk,d',C',og⟩
   rcases Nat.lt_or_ge i A.length with hlt |hge
   ·have e7:(i:Int)<A.length:=by omega
    have qt:((i+1:Nat):Int)=(i:Int)+1:=by omega
    obtain⟨Cy,Gr⟩:=xk
    rcases Gr with ⟨-,rfl⟩ | ⟨cap',kZ,hC⟩
    ·simp at hlt
    rw[hs'] at kZ
    obtain⟨rfl,rfl⟩:x0=some ⟨d2 (62,0),0,none⟩∧cap=cap':=by
     injection kZ with e1 _ e2;exact⟨e1,e2⟩
    obtain⟨z,hz⟩:∃ z,A[i]? = some [z]:=by
     have h1:=List.getElem?_eq_getElem hlt
     obtain⟨HU,-⟩:=Cy _ (List.mem_of_getElem? h1)
     match hq:A[i],HU with
     | [z],_=>exact⟨z,by rw[h1,hq]⟩
    have r0:=pQ Cy hz 0 (by decide)
    change (cH Gq A)[i*1]? = some (I6 z) at r0
    rw[Nat.mul_one] at r0
    obtain⟨tt,ht,M8⟩:=xl (z:=z) O1
    obtain⟨g,inv,wi,hone,vG⟩:=og
    have p2:=xB r tt ht ⟨inv,wi⟩
    have hkb:=g.k
    have l1:=FN K.F g.S g.R vG (by omega) (Nat.zero_le kk) hone
    rw[g.at_] at l1
    clear hvs Cy xB hz kZ
    repeat' first |simp(disch:=first |omega |assumption) only[go_sem, *] | (apply xs<;>intro _)<;>try omega
    refine eJ (l1) (by simp only[*]) (by simp only[*]) (by simp only[go_sem, *]) (by simp only[go_sem, *]) ?_
    rintro v h3 n3 ⟨d3,C3,hv,S3,-,wQ⟩
    obtain⟨y3,w3,rfl⟩:∃ y w,v = .slice y kk w:=by
     rw[hv]
     by_cases c:0<kk
     ·rw[if_pos c];exact⟨_,_,rfl⟩
     ·rw[if_neg c,show kk=0 by omega];exact⟨_,_,rfl⟩
    have g3:=g.re (S3.back wQ ((g.ep 67 0 (by omega)).2.trans Zz))
    clear l1 hv S3 wQ g
    repeat' first |simp(disch:=first |omega |assumption) only[go_sem, *] | (apply xs<;>intro _)<;>try omega
    have l2:=Jb K.F K.N K.cq g3.S g3.R
    rw[g3.at_] at l2
    refine eJ (l2) (by simp only[*]) (by simp only[*]) (by simp only[go_sem, *]) (by simp only[go_sem, *]) ?_
    rintro v h4 n4 ⟨d4,C4,rfl,S4,tA,M9⟩
    have g4:Rg rep (opsOf As) As.length d4 C4 p i r k d4 C4 h4 n4:=⟨S4,(M9 (40,0) (by simp)).1.trans g3.at_,g3.R.only K.F (by omega) M9,g3.k,g3.ev,g3.n,fun _ _ _=>⟨rfl,rfl⟩⟩
    have ZA:C4 (62,0)=qC (cH Gq A) true:=(M9 _ (by simp)).2.trans ((g3.ep 62 0 (by omega)).2.trans hC)
    have ZB:d4 (62,0)=d2 (62,0):=(M9 _ (by simp)).1.trans (g3.ep 62 0 (by omega)).1
    have hall:∀ s:Rl,60≤s.1→s≠(66,1)→d4 s=d2 s∧C4 s=C2 s:=fun s hs c=>⟨(M9 s c).1.trans (g3.ep s.1 s.2 hs).1,(M9 s c).2.trans (g3.ep s.1 s.2 hs).2⟩
    have gA:=S4.at ZA
    rw[ZB] at gA
    have l3:=Rg.pick K hok g4 inv (x:=z) ht M8 (by omega) ((hall (98,0) (by simp) (by simp)).2.trans k8) ((hall (99,0) (by simp) (by simp)).2.trans k9)
    clear l2 g3 S4 M9 hok
    repeat' first |simp(disch:=first |omega |assumption) only[go_sem, *] | (apply xs<;>intro _)<;>try omega
    refine eJ (l3) (by simp only[*]) (by simp only[*]) (by simp only[go_sem, *]) (by simp only[go_sem, *]) ?_
    rintro v h5 n5 ⟨rfl,d5,C5,g5⟩
    have I4:=g5.S.at ((g5.ep 66 1 (by omega)).2.trans tA)
    have Wd:C5 (62,0)=qC (cH Gq A) true:=(g5.ep 62 0 (by omega)).2.trans ZA
    have Wg:d5 (62,0)=d2 (62,0):=(g5.ep 62 0 (by omega)).1.trans ZB
    have ud:∀ s:Rl,60≤s.1→s≠(66,1)→d5 s=d2 s∧C5 s=C2 s:=fun s hs c=>⟨(g5.ep s.1 s.2 hs).1.trans (hall s hs c).1,(g5.ep s.1 s.2 hs).2.trans (hall s hs c).2⟩
    have Jd:=(g5.ep 66 1 (by omega)).2.trans tA
    have Sy:=(g5.ep 66 1 (by omega)).1
    have Y9:=Ss (inv.at_ tt ht) Sx
    have b2:=Int.lt_tmod_of_pos z (show (0:Int)<As.length by omega)
    have b3:=Int.tmod_lt_of_pos z (show (0:Int)<As.length by omega)
    have z0: ¬ (As.length:Int)=0:=by omega
    have Dv:=Ja (ex:=ex) (r:=r) ht
    have ef:=sO (ex:=ex) (r:=r) (i:=As.length)
    rw[←Sy]
    clear l3 gA g4 hall ZA ZB tA Sy I4
    repeat' first |simp(disch:=first |omega |assumption) only[go_sem, *] | (apply xs<;>intro _)<;>try omega
    have S6:=(g5.S.new (68,0) (.cells (PT.ofList .leaf 0 [I6 0,U8 0,.bool false,.bool false,.bool false]) false) bG bH).set (68,0) (.cells (PT.ofList .leaf 0 [I6 tt,U8 (RS.nx ex.hJ ex.h_ r tt),.bool (decide (1<RS.nx ex.hJ ex.h_ r tt)),.bool (RS.dd r tt),.bool (RS.dd r tt)]) false) ah ah
    have R6:=g5.R.only (d':=upd d5 (68,0) n5) (C':=upd (upd C5 (68,0) (some (.cells (PT.ofList .leaf 0 [I6 0,U8 0,.bool false,.bool false,.bool false]) false))) (68,0) (some (.cells (PT.ofList .leaf 0 [I6 tt,U8 (RS.nx ex.hJ ex.h_ r tt),.bool (decide (1<RS.nx ex.hJ ex.h_ r tt)),.bool (RS.dd r tt),.bool (RS.dd r tt)]) false))) (a:=68) (b:=0) K.F (by omega) fun s c=>⟨ay c,by rw[ay c,ay c]⟩
    have Sz:=g5.k
    rcases Sr K.F Y9 with ⟨n1,sC,hacc⟩ | ⟨n1,hac⟩
    ·have sQ:(k++RS.ac ex r tt).all bn=true:=by rw[List.all_append,hone,Jc hacc];rfl
     have hlen':(k++RS.ac ex r tt).length=(kk+1)*6:=by
      rw[List.length_append,vG]
      obtain⟨_,_,_,_,_,hq⟩:=hacc
      rw[hq];show _+6=_;omega
     have l4:=FN (kk:=kk+1) (fr:=kk) K.F S6 R6 hlen' (by omega) (by omega) sQ
     rw[au (by decide),g5.at_] at l4
     refine eJ (l4) (by simp only[*]) (by simp only[*]) (by simp only[go_sem, *]) (by simp only[go_sem, *]) ?_
     rintro v h7 n7 ⟨d7,C7,hv,S7,h67,pX⟩
     rw[if_pos (show kk<kk+1 by omega),show kk+1-kk=1 by omega] at hv
     subst hv
     have Je:=h67 (by omega)
     rw[List.drop_left' vG] at Je
     obtain⟨ad,Pf,o1,o2,sw,hq⟩:=hacc
     rw[hq] at Je
     have hq0:(bI tt ad Pf o1 o2 sw)[0]? = some (I6 tt):=rfl
     have hq1:(bI tt ad Pf o1 o2 sw).length=6:=rfl
     have g67:=S7.at Je
     have M_:=S7.at ((pX (68,0) (by simp)).2.trans ah)
     rw[(pX (68,0) (by simp)).1,ah] at M_
     have I4:=S7.at ((pX (66,1) (by simp)).2.trans ((by rw[ay (by simp),ay (by simp)];exact Jd:_=row (Cz ex r As.length))))
     rw[(pX (66,1) (by simp)).1,ay (by simp)] at I4
     have gA:=S7.at ((pX (62,0) (by simp)).2.trans ((by rw[ay (by simp),ay (by simp)];exact Wd:_=qC (cH Gq A) true)))
     rw[(pX (62,0) (by simp)).1,ay (by simp),Wg] at gA
     rw[decide_eq_true n1] at M_
     have z1:((1:Nat):Int)=1:=rfl
     have n3: ¬ RS.nx ex.hJ ex.h_ r tt=0:=by omega
     have n4: ¬ RS.nx ex.hJ ex.h_ r tt=1:=by omega
     have g7:Rg rep (opsOf As) As.length d7 C7 p (i+1) (RS.pick (opsOf As) xp r tt) (k++RS.ac ex r tt) d7 C7 h7 n7:=⟨S7,((pX (40,0) (by simp)).1.trans (ay (by simp))).trans g5.at_,R6.only K.F (by omega) pX,g5.k,g5.ev,g5.n,fun _ _ _=>⟨rfl,rfl⟩⟩
     obtain⟨d8,C8,g8⟩:=g7.back (d0:=d2) (C0:=C2) K.F k61 Zz k68 fun s hs c1 c2 c3=>⟨((pX s c2).1.trans (ay c3)).trans (ud s hs c1).1,((pX s c2).2.trans ((ay c3).trans (ay c3))).trans (ud s hs c1).2⟩
     have Wh:Og (opsOf As) xp aO fresh rep As.length d2 C2 p (i+1) (RS.pick (opsOf As) xp r tt) (k++RS.ac ex r tt) (kk+1) d8 C8 h7 n7:=⟨g8,p2.1,p2.2,sQ,hlen'⟩
     clear l4 h67 pX R6 S6 hq hlen' sQ Sz Je g7 g8 ud g5 S7 Wd Jd Wg p2 inv wi hone vG hkb
     repeat' first |simp(disch:=first |omega |assumption) only[go_sem, *] | (apply xs<;>intro _)<;>try omega | ((with_reducible refine bR 13 ?_);refine dz 333 13 w4_13 ?_)
     refine ih (A.length-(i+1)) _ _ _ (by omega) ⟨i+1,by omega,rfl,?_⟩
     rw[qt]
     clear ih
     simp(disch:=first |omega |assumption) only[go_sem, *]
     exact⟨_,_,_,_,_,Wh⟩
    ·have sQ:(k++RS.ac ex r tt).all bn=true:=by rw[hac,List.append_nil];exact hone
     have hlen':(k++RS.ac ex r tt).length=kk*6:=by rw[hac,List.append_nil];exact vG
     have l4:=FN (kk:=kk) (fr:=kk) K.F S6 R6 hlen' (by omega) (by omega) sQ
     rw[au (by decide),g5.at_] at l4
     refine eJ (l4) (by simp only[*]) (by simp only[*]) (by simp only[go_sem, *]) (by simp only[go_sem, *]) ?_
     rintro v h7 n7 ⟨d7,C7,hv,S7,-,pX⟩
     rw[if_neg (show ¬kk<kk by omega)] at hv
     subst hv
     have M_:=S7.at ((pX (68,0) (by simp)).2.trans ah)
     rw[(pX (68,0) (by simp)).1,ah] at M_
     have I4:=S7.at ((pX (66,1) (by simp)).2.trans ((by rw[ay (by simp),ay (by simp)];exact Jd:_=row (Cz ex r As.length))))
     rw[(pX (66,1) (by simp)).1,ay (by simp)] at I4
     have gA:=S7.at ((pX (62,0) (by simp)).2.trans ((by rw[ay (by simp),ay (by simp)];exact Wd:_=qC (cH Gq A) true)))
     rw[(pX (62,0) (by simp)).1,ay (by simp),Wg] at gA
     rw[decide_eq_false (show ¬1<RS.nx ex.hJ ex.h_ r tt by omega)] at M_
     have z1:((0:Nat):Int)=0:=rfl
     have g7:Rg rep (opsOf As) As.length d7 C7 p (i+1) (RS.pick (opsOf As) xp r tt) (k++RS.ac ex r tt) d7 C7 h7 n7:=⟨S7,((pX (40,0) (by simp)).1.trans (ay (by simp))).trans g5.at_,R6.only K.F (by omega) pX,g5.k,g5.ev,g5.n,fun _ _ _=>⟨rfl,rfl⟩⟩
     obtain⟨d8,C8,g8⟩:=g7.back (d0:=d2) (C0:=C2) K.F k61 Zz k68 fun s hs c1 c2 c3=>⟨((pX s c2).1.trans (ay c3)).trans (ud s hs c1).1,((pX s c2).2.trans ((ay c3).trans (ay c3))).trans (ud s hs c1).2⟩
     have Wh:Og (opsOf As) xp aO fresh rep As.length d2 C2 p (i+1) (RS.pick (opsOf As) xp r tt) (k++RS.ac ex r tt) kk d8 C8 h7 n7:=⟨g8,p2.1,p2.2,sQ,hlen'⟩
     clear l4 pX R6 S6 hlen' sQ Sz g7 g8 ud g5 S7 Wd Jd Wg p2 inv wi hone vG hkb hac
     rcases n1 with n1 |n1
     ·rw[n1] at Dv M_
      repeat' first |simp(disch:=first |omega |assumption) only[go_sem, *] | (apply xs<;>intro _)<;>try omega | ((with_reducible refine bR 13 ?_);refine dz 333 13 w4_13 ?_)
      refine ih (A.length-(i+1)) _ _ _ (by omega) ⟨i+1,by omega,rfl,?_⟩
      rw[qt]
      clear ih
      simp(disch:=first |omega |assumption) only[go_sem, *]
      exact⟨_,_,_,_,_,Wh⟩
     ·rw[n1] at Dv M_
      repeat' first |simp(disch:=first |omega |assumption) only[go_sem, *] | (apply xs<;>intro _)<;>try omega | ((with_reducible refine bR 13 ?_);refine dz 333 13 w4_13 ?_)
      refine ih (A.length-(i+1)) _ _ _ (by omega) ⟨i+1,by omega,rfl,?_⟩
      rw[qt]
      clear ih
      simp(disch:=first |omega |assumption) only[go_sem, *]
      exact⟨_,_,_,_,_,Wh⟩
   ·have e7: ¬ (i:Int)<A.length:=by omega
    clear ih xB
    obtain⟨g,inv,wi,-,-⟩:=og
    have cR:=g.ev
    have l1:=I7 g.S g.R (by omega)
    rw[g.at_] at l1
    repeat' first |simp(disch:=first |omega |assumption) only[go_sem, *] | (apply xs<;>intro _)<;>try omega
    refine eJ (l1) (by simp only[*]) (by simp only[*]) (by simp only[go_sem, *]) (by simp only[go_sem, *]) ?_
    rintro v h3 n3 ⟨d3,C3,hv,S3,MZ,wQ⟩
    have R3:=g.R.only K.F (by omega) wQ
    have Gp:d3 (40,0)=p:=(wQ (40,0) (by simp)).1.trans g.at_
    obtain⟨y3,w3,ZC⟩:∃ y w,v = .slice y r.ev.length w:=by
     rw[hv]
     by_cases c:r.ev=[]
     ·rw[if_pos c,c];exact⟨_,_,rfl⟩
     ·rw[if_neg c];exact⟨_,_,rfl⟩
    rw[ZC] at hv ⊢
    rw[eq_comm] at hv
    have h69:C3 (69,0)=none:=(wQ (69,0) (by simp)).2.trans ((g.ep 69 0 (by omega)).2.trans k69)
    have Al:C3 (64,0)=qC vs true:=(wQ (64,0) (by simp)).2.trans ((g.ep 64 0 (by omega)).2.trans q64)
    have Sw:d3 (64,0)=d2 (64,0):=(wQ (64,0) (by simp)).1.trans (g.ep 64 0 (by omega)).1
    have Na:∀ (i:Nat) (A:List (List Int)),As[i]? = some A→fC xj A∧C3 (65,i)=qC (cH xj A) true∧((vs[i]? = some (.slice none 0 0)∧A=[])∨∃ cap',vs[i]? = some (.slice (some ⟨d3 (65,i),0,none⟩) A.length cap')):=fun i A hA=>by
     obtain⟨a1,a2,a3⟩:=hvs i A hA
     have e1:C3 (65,i)=C (65,i):=((wQ (65,i) (by simp)).2.trans (g.ep 65 i (by omega)).2).trans (Wc i).1
     have e2:d3 (65,i)=d (65,i):=((wQ (65,i) (by simp)).1.trans (g.ep 65 i (by omega)).1).trans (Wc i).2
     rw[e1,e2];exact⟨a1,a2,a3⟩
    rw[←Sw] at m3
    clear l1 wQ hvs Wc xk q64 Sw
    repeat' first |simp(disch:=first |omega |assumption) only[go_sem, *] | (apply xs<;>intro _)<;>try omega
    refine dG (fun t m h' n'=>∃ tt:Nat,tt≤As.length∧t=As.length-tt∧m.n=333∧m.gD=[]∧m.get 1 = .slice (some ⟨d3 (64,0),0,none⟩) As.length cp∧m.get 7=pt p∧m.get 15 = .slice y3 r.ev.length w3∧m.get 16=I6 tt∧St h' n' d3 C3) As.length ?_ ?_
    ·refine⟨0,by omega,by omega,?_⟩
     clear Na hok
     simp(disch:=first |omega |assumption) only[go_sem, *]
    ·clear S3
     rintro t m h' n' ih ⟨tt,htt,rfl,m1,m2,m3,m4,m5,m6,S3⟩
     rcases Nat.lt_or_ge tt As.length with hlt |hge
     ·have e8:(tt:Int)<As.length:=by omega
      have hct:((tt+1:Nat):Int)=(tt:Int)+1:=by omega
      obtain⟨wt,-⟩:=wi tt hlt
      have Jf:=M6 (inv.at_ tt hlt)
      have hfit:=inv.fits tt hlt
      obtain⟨B,hB⟩:∃ B,As[tt]? = some B:=⟨As[tt],List.getElem?_eq_getElem hlt⟩
      obtain⟨okB,I5,Wi⟩:=Na tt B hB
      have kP:opsOf As tt=bX B:=by unfold opsOf;rw[hB];rfl
      rw[kP] at hfit
      have OY:=cO (bX B)
      have hBl:=l9 (A:=B)
      rw[(oU okB).1] at I5
      have l2:=I1 S3 R3 hlt
      rw[Gp] at l2
      have xC:=wt.ev
      rw[kP] at xC
      have Nz:=hB
      clear Na okB hB wt
      obtain⟨y5,w5,hv5⟩:∃ y w,vs[tt]? = some (.slice y B.length w):=by
       rcases Wi with ⟨a,b⟩ | ⟨c,a⟩
       ·rw[a,b];exact⟨_,_,rfl⟩
       ·rw[a];exact⟨_,_,rfl⟩
      repeat' first |simp(disch:=first |omega |assumption) only[go_sem, *] | (apply xs<;>intro _)<;>try omega
      refine eJ (l2) (by simp only[*]) (by simp only[*]) (by simp only[go_sem, *]) (by simp only[go_sem, *]) ?_
      rintro v h4 n4 ⟨rfl,S4⟩
      have MV:=S4.at Al
      clear l2
      repeat' first |simp(disch:=first |omega |assumption) only[go_sem, *] | (apply xs<;>intro _)<;>try omega
      refine dG (fun t m h' n'=>∃ k:Nat,k≤r.idx tt∧t=r.idx tt-k∧m.n=333∧m.gD=[]∧m.get 1 = .slice (some ⟨d3 (64,0),0,none⟩) As.length cp∧m.get 7=pt p∧m.get 15 = .slice y3 r.ev.length w3∧m.get 16=I6 tt∧m.get 17=I6 (r.idx tt)∧m.get 20 = .bool (kQ (bX B) k).i∧m.get 21=U6 (kQ (bX B) k).v∧m.get 22=I6 k∧∃ d' C',Wn d3 C3 (kQ (bX B) k).o (m.get 19) d' C' h' n') (r.idx tt) ?_ ?_
      ·refine⟨0,by omega,by omega,?_⟩
       simp only[oV]
       clear ih hok Wi
       simp(disch:=first |omega |assumption) only[go_sem, *]
       exact⟨d3,C3,S4,rfl,fun c=>absurd rfl c,fun s _=>⟨rfl,rfl⟩⟩
      ·clear S4 MV
       rintro t m h' n' ih2 ⟨k,hk,rfl,m1,m2,m3,m4,m5,m6,m7,m8,m9,Zj,d',C',w⟩
       rcases Nat.lt_or_ge k (r.idx tt) with hlk |hgk
       ·have ih':=ih
        clear ih
        have ih:=ih2
        clear ih2 ih'
        have e9:(k:Int)<r.idx tt:=by omega
        have CD:((k+1:Nat):Int)=(k:Int)+1:=by omega
        rcases Wi with ⟨-,rfl⟩ | ⟨SC,Wj⟩
        ·rw[hBl] at hfit;simp at hfit;omega
        obtain⟨rfl,rfl⟩:y5=some ⟨d3 (65,tt),0,none⟩∧w5=SC:=by
         rw[hv5] at Wj
         injection Wj with q
         injection q with q1 _ q2
         exact⟨q1,q2⟩
        obtain⟨⟨H7,v1⟩,hop⟩:∃ o,(bX B)[k]? = some o:=⟨(bX B)[k]'(by omega),List.getElem?_eq_getElem (by omega)⟩
        have hT:=jZ _ _ _ hop
        have hs:=j8 hop
        have ji:=w.v
        have MV:=w.S.at ((w.ep (64,0) (by simp)).2.trans Al)
        have n64:=w.S.lt ((w.ep (64,0) (by simp)).2.trans Al)
        have MW:=w.S.at ((w.ep (65,tt) (by simp)).2.trans I5)
        have Si:=w.S.lt ((w.ep (65,tt) (by simp)).2.trans I5)
        rw[(w.ep (64,0) (by simp)).1] at MV n64
        rw[(w.ep (65,tt) (by simp)).1] at MW Si
        simp only at hT
        have hwn:=vm (l:=bX B) k (by omega)
        have ajU:=Wb tt B Nz
        generalize kQ (bX B) k=W at*
        obtain⟨SD,wv,wo⟩:=W
        simp only at m8 m9 w ji hwn
        have hkB:(k:Int)<B.length:=by omega
        have ajV:(k*2+2)≤(nZ (bX B)).length:=by omega
        clear Wj xC Jf hok
        by_cases k1:H7=1
        ·subst k1
         have z1:((1:Nat):Int)=1:=rfl
         rw[z1] at hT
         cases SD with
         |true=>
          have kZ:kQ (bX B) (k+1)=⟨true,wv,wo⟩:=by rw[hs];exact mg (by simp) (by simp) (by simp)
          repeat' first |simp(disch:=first |omega |assumption) only[go_sem, *] | (apply xs<;>intro _)<;>try omega
          refine ih (r.idx tt-(k+1)) _ _ _ (by omega) ⟨k+1,by omega,rfl,?_⟩
          simp only[kZ,CD]
          clear ih
          simp(disch:=first |omega |assumption) only[go_sem, *]
          rw[ji] at w
          exact⟨_,_,w.of (w.S.cg bG bH)⟩
         |false=>
          by_cases k2:v1<64
          ·have k3:(v1:Int)<64:=by omega
           have kZ:kQ (bX B) (k+1)=⟨true,v1,wo++[(1,v1)]⟩:=by rw[hs];unfold WS.go;rw[if_pos ⟨rfl,rfl,k2⟩]
           by_cases uf:wo=[]
           ·subst uf
            rw[show wS d' [] = .slice none 0 0 from if_pos rfl] at ji
            repeat' first |simp(disch:=first |omega |assumption) only[go_sem, *] | (apply xs<;>intro _)<;>try omega | ((with_reducible refine bR 29 ?_);refine dz 333 29 w4_29 ?_)
            refine ih (r.idx tt-(k+1)) _ _ _ (by omega) ⟨k+1,by omega,rfl,?_⟩
            simp only[kZ,CD]
            clear ih
            simp(disch:=first |omega |assumption) only[go_sem, *]
            exact⟨_,_,Wn.nil (o:=[]++[(1,v1)]) w.ep (by simp) rfl (((w.S.cg bG bH).junk bG bH).new (69,0) _ bG bH)⟩
           ·have Wk:=iJ wo
            have tZ:List.take (wo.length*4) (wL wo)=wL wo:=List.take_of_length_le (by omega)
            have hpos:0<wo.length:=List.length_pos_iff.2 uf
            have Wm:=w.S.at (w.row uf)
            have ZD:=w.S.lt (w.row uf)
            rw[show wS d' wo = .slice (some ⟨d' (69,0),0,none⟩) wo.length (aB+4) from if_neg uf] at ji
            repeat' first |simp(disch:=first |omega |assumption) only[go_sem, *] | (apply xs<;>intro _)<;>try omega | ((with_reducible refine bR 29 ?_);refine dz 333 29 w4_29 ?_)
            refine ih (r.idx tt-(k+1)) _ _ _ (by omega) ⟨k+1,by omega,rfl,?_⟩
            simp only[kZ,CD]
            clear ih
            simp(disch:=first |omega |assumption) only[go_sem, *]
            rw[show wo.length+1=(wo++[(1,v1)]).length by simp]
            exact⟨_,_,Wn.nil (o:=wo++[(1,v1)]) w.ep (by simp) AG ((((w.S.cg bG bH).junk bG bH).kill (69,0) (w.row uf) rfl).new (69,0) _ bG bH |>.eq (by rw[aN];rfl) rfl)⟩
          ·have k3: ¬ (v1:Int)<64:=by omega
           have kZ:kQ (bX B) (k+1)=⟨false,wv,wo⟩:=by rw[hs];exact mg (fun c=>k2 c.2.1) (by simp) (by simp)
           repeat' first |simp(disch:=first |omega |assumption) only[go_sem, *] | (apply xs<;>intro _)<;>try omega
           refine ih (r.idx tt-(k+1)) _ _ _ (by omega) ⟨k+1,by omega,rfl,?_⟩
           simp only[kZ,CD]
           clear ih
           simp(disch:=first |omega |assumption) only[go_sem, *]
           rw[ji] at w
           exact⟨_,_,w.of (w.S.cg bG bH)⟩
        ·have k1': ¬ (H7:Int)=1:=by omega
         by_cases k4:H7=2
         ·subst k4
          have z1:((2:Nat):Int)=2:=rfl
          rw[z1] at hT k1'
          cases SD with
          |false=>
           have kZ:kQ (bX B) (k+1)=⟨false,wv,wo⟩:=by rw[hs];exact mg (by simp) (by simp) (by simp)
           repeat' first |simp(disch:=first |omega |assumption) only[go_sem, *] | (apply xs<;>intro _)<;>try omega
           refine ih (r.idx tt-(k+1)) _ _ _ (by omega) ⟨k+1,by omega,rfl,?_⟩
           simp only[kZ,CD]
           clear ih
           simp(disch:=first |omega |assumption) only[go_sem, *]
           rw[ji] at w
           exact⟨_,_,w.of (w.S.cg bG bH)⟩
          |true=>
           by_cases k2:v1=0
           ·subst k2
            have z0:((0:Nat):Int)=0:=rfl
            rw[z0] at hT
            have kZ:kQ (bX B) (k+1)=⟨false,wv,wo++[(2,wv)]⟩:=by rw[hs];unfold WS.go;rw[if_neg (fun c=>by have:=c.1;simp at this),if_pos ⟨rfl,rfl,rfl⟩]
            by_cases uf:wo=[]
            ·subst uf
             rw[show wS d' [] = .slice none 0 0 from if_pos rfl] at ji
             repeat' first |simp(disch:=first |omega |assumption) only[go_sem, *] | (apply xs<;>intro _)<;>try omega
             refine ih (r.idx tt-(k+1)) _ _ _ (by omega) ⟨k+1,by omega,rfl,?_⟩
             simp only[kZ,CD]
             clear ih
             simp(disch:=first |omega |assumption) only[go_sem, *]
             exact⟨_,_,Wn.nil (o:=[]++[(2,wv)]) w.ep (by simp) rfl (((w.S.cg bG bH).junk bG bH).new (69,0) _ bG bH)⟩
            ·have Wk:=iJ wo
             have tZ:List.take (wo.length*4) (wL wo)=wL wo:=List.take_of_length_le (by omega)
             have hpos:0<wo.length:=List.length_pos_iff.2 uf
             have Wm:=w.S.at (w.row uf)
             have ZD:=w.S.lt (w.row uf)
             rw[show wS d' wo = .slice (some ⟨d' (69,0),0,none⟩) wo.length (aB+4) from if_neg uf] at ji
             repeat' first |simp(disch:=first |omega |assumption) only[go_sem, *] | (apply xs<;>intro _)<;>try omega
             refine ih (r.idx tt-(k+1)) _ _ _ (by omega) ⟨k+1,by omega,rfl,?_⟩
             simp only[kZ,CD]
             clear ih
             simp(disch:=first |omega |assumption) only[go_sem, *]
             rw[show wo.length+1=(wo++[(2,wv)]).length by simp]
             exact⟨_,_,Wn.nil (o:=wo++[(2,wv)]) w.ep (by simp) AG ((((w.S.cg bG bH).junk bG bH).kill (69,0) (w.row uf) rfl).new (69,0) _ bG bH |>.eq (by rw[aN];rfl) rfl)⟩
           ·have k3: ¬ (v1:Int)=0:=by omega
            have kZ:kQ (bX B) (k+1)=⟨true,wv,wo⟩:=by rw[hs];exact mg (by simp) (fun c=>k2 c.2.1) (by simp)
            repeat' first |simp(disch:=first |omega |assumption) only[go_sem, *] | (apply xs<;>intro _)<;>try omega
            refine ih (r.idx tt-(k+1)) _ _ _ (by omega) ⟨k+1,by omega,rfl,?_⟩
            simp only[kZ,CD]
            clear ih
            simp(disch:=first |omega |assumption) only[go_sem, *]
            rw[ji] at w
            exact⟨_,_,w.of (w.S.cg bG bH)⟩
         ·have k4': ¬ (H7:Int)=2:=by omega
          by_cases k5:H7=3
          ·subst k5
           have z1:((3:Nat):Int)=3:=rfl
           rw[z1] at hT k1' k4'
           cases SD with
           |true=>
            have kZ:kQ (bX B) (k+1)=⟨true,wv,wo⟩:=by rw[hs];exact mg (by simp) (by simp) (by simp)
            repeat' first |simp(disch:=first |omega |assumption) only[go_sem, *] | (apply xs<;>intro _)<;>try omega
            refine ih (r.idx tt-(k+1)) _ _ _ (by omega) ⟨k+1,by omega,rfl,?_⟩
            simp only[kZ,CD]
            clear ih
            simp(disch:=first |omega |assumption) only[go_sem, *]
            rw[ji] at w
            exact⟨_,_,w.of (w.S.cg bG bH)⟩
           |false=>
            by_cases k2:v1=0
            ·subst k2
             have z0:((0:Nat):Int)=0:=rfl
             rw[z0] at hT
             have kZ:kQ (bX B) (k+1)=⟨false,wv,wo⟩:=by rw[hs];exact mg (by simp) (by simp) (by simp)
             repeat' first |simp(disch:=first |omega |assumption) only[go_sem, *] | (apply xs<;>intro _)<;>try omega
             refine ih (r.idx tt-(k+1)) _ _ _ (by omega) ⟨k+1,by omega,rfl,?_⟩
             simp only[kZ,CD]
             clear ih
             simp(disch:=first |omega |assumption) only[go_sem, *]
             rw[ji] at w
             exact⟨_,_,w.of (w.S.cg bG bH)⟩
            ·have k3: ¬ (v1:Int)=0:=by omega
             have kZ:kQ (bX B) (k+1)=⟨false,wv,wo++[(3,v1),(4,v1)]⟩:=by rw[hs];unfold WS.go;rw[if_neg (fun c=>by have:=c.1;simp at this),if_neg (fun c=>by have:=c.1;simp at this),if_pos ⟨rfl,rfl,k2⟩]
             by_cases uf:wo=[]
             ·subst uf
              rw[show wS d' [] = .slice none 0 0 from if_pos rfl] at ji
              repeat' first |simp(disch:=first |omega |assumption) only[go_sem, *] | (apply xs<;>intro _)<;>try omega
              refine ih (r.idx tt-(k+1)) _ _ _ (by omega) ⟨k+1,by omega,rfl,?_⟩
              simp only[kZ,CD]
              clear ih
              simp(disch:=first |omega |assumption) only[go_sem, *]
              exact⟨_,_,Wn.nil (o:=[]++[(3,v1),(4,v1)]) w.ep (by simp) rfl (((w.S.cg bG bH).junk bG bH).new (69,0) _ bG bH)⟩
             ·have Wk:=iJ wo
              have tZ:List.take (wo.length*4) (wL wo)=wL wo:=List.take_of_length_le (by omega)
              have hpos:0<wo.length:=List.length_pos_iff.2 uf
              have Wm:=w.S.at (w.row uf)
              have ZD:=w.S.lt (w.row uf)
              rw[show wS d' wo = .slice (some ⟨d' (69,0),0,none⟩) wo.length (aB+4) from if_neg uf] at ji
              repeat' first |simp(disch:=first |omega |assumption) only[go_sem, *] | (apply xs<;>intro _)<;>try omega
              refine ih (r.idx tt-(k+1)) _ _ _ (by omega) ⟨k+1,by omega,rfl,?_⟩
              simp only[kZ,CD]
              clear ih
              simp(disch:=first |omega |assumption) only[go_sem, *]
              rw[show wo.length+2=(wo++[(3,v1),(4,v1)]).length by simp]
              exact⟨_,_,Wn.nil (o:=wo++[(3,v1),(4,v1)]) w.ep (by simp) FP ((((w.S.cg bG bH).junk bG bH).kill (69,0) (w.row uf) rfl).new (69,0) _ bG bH |>.eq (by rw[aN];rfl) rfl)⟩
          ·have k5': ¬ (H7:Int)=3:=by omega
           have kZ:kQ (bX B) (k+1)=⟨SD,wv,wo⟩:=by rw[hs];exact mg (fun c=>k1 c.1) (fun c=>k4 c.1) (fun c=>k5 c.1)
           repeat' first |simp(disch:=first |omega |assumption) only[go_sem, *] | (apply xs<;>intro _)<;>try omega
           refine ih (r.idx tt-(k+1)) _ _ _ (by omega) ⟨k+1,by omega,rfl,?_⟩
           simp only[kZ,CD]
           clear ih
           simp(disch:=first |omega |assumption) only[go_sem, *]
           rw[ji] at w
           exact⟨_,_,w.of (w.S.cg bG bH)⟩
       ·have e9: ¬ (k:Int)<r.idx tt:=by omega
        clear ih2
        obtain rfl:k=r.idx tt:=by omega
        have SP:(kQ (bX B) (r.idx tt)).o.length≤100000:=by have:=vm (l:=bX B) (r.idx tt) hfit;have:=Wb tt B Nz;omega
        clear hk e9
        generalize kQ (bX B) (r.idx tt)=W at*
        obtain⟨SD,wv,O⟩:=W
        simp only at m8 m9 w xC
        have ajX:O.length≤100000:=SP
        have ajY:r.ev.length≤100000:=by omega
        generalize hE:r.ev=l at*
        clear m8 m9 hfit
        repeat' first |simp(disch:=first |omega |assumption) only[go_sem, *] | (apply xs<;>intro _)<;>try omega
        refine dG (fun t m h' n'=>∃ j:Nat,j≤l.length∧t=l.length-j∧m.n=333∧m.gD=[]∧m.get 1 = .slice (some ⟨d3 (64,0),0,none⟩) As.length cp∧m.get 7=pt p∧m.get 15 = .slice y3 l.length w3∧m.get 16=I6 tt∧m.get 17=I6 (r.idx tt)∧m.get 24=I6 ((ia (l.take j) tt).length:Nat)∧m.get 25=I6 j∧∃ d' C',((ia (l.take j) tt).length≤O.length∧Wn d3 C3 O (m.get 19) d' C' h' n'∨(ia (l.take j) tt).length=O.length+1∧∃ X c,m.get 19 = .slice X (O.length+1) c∧St h' n' d' C'∧∀ s,s≠(69,0)→d' s=d3 s∧C' s=C3 s)) l.length ?_ ?_
        ·refine⟨0,by omega,by omega,?_⟩
         have zR:(ia (l.take 0) tt).length=0:=by simp[ia]
         simp only[zR]
         clear ih
         simp(disch:=first |omega |assumption) only[go_sem, *]
         exact⟨d',C',Nat.zero_le _,w⟩
        ·clear w Zj
         rintro t m h' n' ih2 ⟨j,hj,rfl,m1,m2,m3,m4,m5,m6,m7,m8,m9,d',C',SE⟩
         have FT:(ia l tt).length=O.length+(suf (opsOf As) r tt).length:=by rw[xC,List.length_append]
         rcases Nat.lt_or_ge j l.length with ZE |hgj
         ·have jD:(j:Int)<l.length:=by omega
          have Wo:((j+1:Nat):Int)=(j:Int)+1:=by omega
          obtain⟨z,O5⟩:∃ z,l[j]? = some z:=⟨l[j],List.getElem?_eq_getElem ZE⟩
          obtain⟨ZF,rz1,Wp,ZG⟩:=AE O5
          have hte:=xA (t:=tt) O5
          have hat:=M5 (t:=tt) O5
          have hEl:=kL l
          have vF:l≠[]:=fun c=>by rw[c] at ZE;simp at ZE
          rw[if_neg vF] at hv
          injection hv with q1 _ q2
          subst q1 q2
          have SF:=MZ vF
          have SG:St h' n' d' C'∧∀ s,s≠(69,0)→d' s=d3 s∧C' s=C3 s:=by
           rcases SE with ⟨_,w⟩ | ⟨_,X,c,_,S5,ho⟩
           ·exact⟨w.S,w.ep⟩
           ·exact⟨S5,ho⟩
          have Wa:=SG.1.at ((SG.2 (66,0) (by simp)).2.trans SF)
          rw[(SG.2 (66,0) (by simp)).1] at Wa
          by_cases M8:z.2.1=tt
          ·rw[if_pos M8] at hte
           have hat:=hat M8
           rw[M8] at rz1
           have Jg:(ia (l.take j) tt).length<(ia l tt).length:=(List.getElem?_eq_some_iff.1 hat).1
           have hsl:(suf (opsOf As) r tt).length≤1:=by
            rcases Jf with c | ⟨v,c,_⟩
            ·rw[c];exact Nat.zero_le _
            ·rw[c];exact Nat.le_refl _
           rcases SE with ⟨a1,w⟩ | ⟨a1,-⟩
           ·clear SG
            have FU:(ia (l.take (j+1)) tt).length=(ia (l.take j) tt).length+1:=by rw[hte,List.length_append];rfl
            rcases Nat.lt_or_ge (ia (l.take j) tt).length O.length with hlo |sR
            ·rw[xC,List.getElem?_append_left hlo] at hat
             obtain⟨rw2,rw3⟩:=FQ hat
             have Jh:O≠[]:=fun c=>by rw[c] at hlo;simp at hlo
             have Wm:=w.S.at (w.row Jh)
             have Wk:=iJ O
             have ji:=w.v
             rw[show wS d' O = .slice (some ⟨d' (69,0),0,none⟩) O.length (aB+4) from if_neg Jh] at ji
             generalize (ia (l.take j) tt).length=a at*
             have cL: ¬ (a:Int)=O.length:=by omega
             have k_: ¬ (a:Int)>O.length:=by omega
             have zh:(a:Int)<O.length:=by omega
             have hca:((a+1:Nat):Int)=(a:Int)+1:=by omega
             clear hte xC FT Jg hsl Jf O5 hat ZF
             repeat' first |simp(disch:=first |omega |assumption) only[go_sem, *] | (apply xs<;>intro _)<;>try omega | ((with_reducible refine bR 46 ?_);refine dz 333 46 w4_46 ?_)
             refine ih2 (l.length-(j+1)) _ _ _ (by omega) ⟨j+1,by omega,rfl,?_⟩
             simp only[FU,Wo,hca]
             clear ih ih2
             simp(disch:=first |omega |assumption) only[go_sem, *]
             rw[ji] at w
             exact⟨d',C',.inl ⟨hlo,w⟩⟩
            ·rcases Jf with c | ⟨v,c,hop⟩
             ·rw[FT,c] at Jg;simp at Jg;omega
             rw[xC,c,List.getElem?_append_right sR,show (ia (l.take j) tt).length-O.length=0 by omega] at hat
             have Mp:z.2.2=(3,v):=(Option.some.inj hat).symm
             rw[kP] at hop
             have hib:=(List.getElem?_eq_some_iff.1 hop).1
             obtain⟨ob1,ob2⟩:=kM _ _ _ hop
             have hT:=xy O5
             rw[Mp,M8] at hT
             rw[Mp] at Wp ZG
             simp only at Wp ZG ob1 ob2 hT
             rw[show ((3:Nat):Int)=3 from rfl] at Wp hT
             rcases Wi with ⟨-,rfl⟩ | ⟨SC,Wj⟩
             ·rw[hBl] at hib;simp at hib
             have e14: ¬ (r.idx tt:Int)≥B.length:=by omega
             have wT:(r.idx tt:Int)<B.length:=by omega
             have MV:=w.S.at ((w.ep (64,0) (by simp)).2.trans Al)
             have n64:=w.S.lt ((w.ep (64,0) (by simp)).2.trans Al)
             have MW:=w.S.at ((w.ep (65,tt) (by simp)).2.trans I5)
             have Si:=w.S.lt ((w.ep (65,tt) (by simp)).2.trans I5)
             have n66:=w.S.lt ((w.ep (66,0) (by simp)).2.trans SF)
             rw[(w.ep (64,0) (by simp)).1] at MV n64
             rw[(w.ep (65,tt) (by simp)).1] at MW Si
             rw[(w.ep (66,0) (by simp)).1] at n66
             have ji:=w.v
             have ha:(ia (l.take j) tt).length=O.length:=by omega
             rw[ha] at m8 FU
             have hio:r.idx tt*2+2≤(nZ (bX B)).length:=by omega
             have hje:j*4+4≤(oZ l).length:=by omega
             clear hte xC FT Jg hsl O5 hat ZF Mp hop c sR a1 hv5
             by_cases Jh:O=[]
             ·subst Jh
              rw[show wS d' [] = .slice none 0 0 from if_pos rfl] at ji
              simp only[List.length_nil] at m8 FU
              repeat' first |simp(disch:=first |omega |assumption) only[go_sem, *] | (apply xs<;>intro _)<;>try omega | ((with_reducible refine bR 42 ?_);refine dz 333 42 w4_42 ?_)
              refine ih2 (l.length-(j+1)) _ _ _ (by omega) ⟨j+1,by omega,rfl,?_⟩
              simp only[FU,Wo]
              clear ih ih2
              simp(disch:=first |omega |assumption) only[go_sem, *]
              exact⟨rfl,_,_,_,_,rfl,(w.S.junk bG bH).new (69,0) _ bG bH,fun s c=>⟨by rw[ay c];exact(w.ep s c).1,by rw[ay c];exact(w.ep s c).2⟩⟩
             ·rw[show wS d' O = .slice (some ⟨d' (69,0),0,none⟩) O.length (aB+4) from if_neg Jh] at ji
              have Wm:=w.S.at (w.row Jh)
              have ZD:=w.S.lt (w.row Jh)
              have Wk:=iJ O
              have tZ:List.take (O.length*4) (wL O)=wL O:=List.take_of_length_le (by omega)
              have hpos:0<O.length:=List.length_pos_iff.2 Jh
              have hca:((O.length+1:Nat):Int)=(O.length:Int)+1:=by omega
              repeat' first |simp(disch:=first |omega |assumption) only[go_sem, *] | (apply xs<;>intro _)<;>try omega | ((with_reducible refine bR 42 ?_);refine dz 333 42 w4_42 ?_)
              refine ih2 (l.length-(j+1)) _ _ _ (by omega) ⟨j+1,by omega,rfl,?_⟩
              simp only[FU,Wo,hca]
              clear ih ih2
              simp(disch:=first |omega |assumption) only[go_sem, *]
              exact⟨_,_,.inr ⟨_,_,rfl,((w.S.junk bG bH).kill (69,0) (w.row Jh) rfl).new (69,0) _ bG bH,fun s c=>⟨by rw[ay c];exact(w.ep s c).1,by rw[ay c,ay c];exact(w.ep s c).2⟩⟩⟩
           ·omega
          ·rw[if_neg M8] at hte
           have cL: ¬ (z.2.1:Int)=tt:=by omega
           clear hat SG ZF Wp ZG
           repeat' first |simp(disch:=first |omega |assumption) only[go_sem, *] | (apply xs<;>intro _)<;>try omega
           refine ih2 (l.length-(j+1)) _ _ _ (by omega) ⟨j+1,by omega,rfl,?_⟩
           simp only[hte,Wo]
           clear ih ih2
           simp(disch:=first |omega |assumption) only[go_sem, *]
           exact⟨d',C',SE⟩
         ·have jD: ¬ (j:Int)<l.length:=by omega
          clear ih2
          obtain rfl:j=l.length:=by omega
          rw[List.take_length] at m8 SE
          rcases SE with ⟨a1,w⟩ | ⟨a1,X,c,hX,S5,ho⟩
          ·have ji:=w.v
           obtain⟨X,c,hX⟩:=M4 (d:=d') (o:=O)
           rw[hX] at ji
           have cL: ¬ (((ia l tt).length:Nat):Int)<O.length:=by omega
           repeat' first |simp(disch:=first |omega |assumption) only[go_sem, *] | (apply xs<;>intro _)<;>try omega
           refine ih (As.length-(tt+1)) _ _ _ (by omega) ⟨tt+1,by omega,rfl,?_⟩
           rw[hct]
           clear ih
           simp(disch:=first |omega |assumption) only[go_sem, *]
           exact w.S.back w.ep h69
          ·have cL: ¬ (((ia l tt).length:Nat):Int)<(O.length:Int)+1:=by omega
           repeat' first |simp(disch:=first |omega |assumption) only[go_sem, *] | (apply xs<;>intro _)<;>try omega
           refine ih (As.length-(tt+1)) _ _ _ (by omega) ⟨tt+1,by omega,rfl,?_⟩
           rw[hct]
           clear ih
           simp(disch:=first |omega |assumption) only[go_sem, *]
           exact S5.back ho h69
     ·have e8: ¬ (tt:Int)<As.length:=by omega
      clear ih
      repeat' first |simp(disch:=first |omega |assumption) only[go_sem, *,r7] | (apply xs<;>intro _)<;>try omega
end Go.Proofs.YtbceiadaihphaaaGreat
namespace Go.Proofs.YtbceiadaihphaaaGreat
open Go.Am
set_option maxRecDepth 100000 in
set_option maxHeartbeats 4000000 in
theorem Nb {x q:Nat} {b:Int} {ps s:Value} {A:List (List Int)} {h:PT aj} {n:Nat} (hW:iG h n) (Kv:dV xj h q ps []) {x0:Option Addr} {cap:Nat} (hs':s = .slice x0 A.length cap):
  b9 Tryz.prog OP 4 [.agg ⟨[U8 x,I6 b]⟩,ps,s] h n fun v h' n'=>v = .bool true:=by
 subst hs'
 obtain⟨ZH,cp,hps⟩:∃ x0 cap,ps = .slice x0 0 cap:=by
  rcases Kv with ⟨rfl,-⟩ | ⟨cap,vs,rfl,-⟩
  ·exact⟨_,_,rfl⟩
  ·exact⟨_,_,rfl⟩
 subst hps
 have M7:dV xj (h.set n (some (.cells (PT.ofList .leaf 0 [U8 x,I6 b]) false))) q (.slice ZH 0 cp) []:=Kv.keep (Kept.set' hW (Nat.le_refl _) (Kept.refl _))
 have en:=zK (x:=x0) (pk:=A.length) (cap:=cap) M7 rfl (n:=n+1)
 refine aC (N:=333) Tryz.func4 rfl rfl fun z hP hO hro hN hQ=>?_
 repeat' first |simp(disch:=first |omega |assumption) only[go_sem, *] | (apply xs<;>intro _)<;>try omega
 refine eJ (en) (by simp only[*]) (by simp only[*]) (by simp only[go_sem, *]) (by simp only[go_sem, *]) ?_
 rintro v h1 n1 ⟨sb,rfl,rfl,rfl,hsh⟩
 clear en hsh
 cases sb with
 |false=>repeat' first |simp(disch:=first |omega |assumption) only[go_sem, *] | (apply xs<;>intro _)<;>try omega
 |true=>repeat' first |simp(disch:=first |omega |assumption) only[go_sem, *] | (apply xs<;>intro _)<;>try omega
set_option maxRecDepth 100000 in
set_option maxHeartbeats 4000000 in
theorem Nc {x q:Nat} {b:Int} {ps s:Value} {As:List (List (List Int))} {A:List (List Int)} (h8:8<As.length) {h:PT aj} {n:Nat} (hW:iG h n) (Kv:dV xj h q ps As) {x0:Option Addr} {cap:Nat} (hs':s = .slice x0 A.length cap):
  b9 Tryz.prog OP 4 [.agg ⟨[U8 x,I6 b]⟩,ps,s] h n fun v h' n'=>v = .bool true:=by
 subst hs'
 obtain⟨ZH,cp,hps⟩:∃ x0 cap,ps = .slice x0 As.length cap:=by
  rcases Kv with ⟨rfl,rfl⟩ | ⟨cap,vs,rfl,-⟩
  ·simp at h8
  ·exact⟨_,_,rfl⟩
 subst hps
 have M7:dV xj (h.set n (some (.cells (PT.ofList .leaf 0 [U8 x,I6 b]) false))) q (.slice ZH As.length cp) As:=Kv.keep (Kept.set' hW (Nat.le_refl _) (Kept.refl _))
 have en:=zK (x:=x0) (pk:=A.length) (cap:=cap) M7 rfl (n:=n+1)
 refine aC (N:=333) Tryz.func4 rfl rfl fun z hP hO hro hN hQ=>?_
 repeat' first |simp(disch:=first |omega |assumption) only[go_sem, *] | (apply xs<;>intro _)<;>try omega
 refine eJ (en) (by simp only[*]) (by simp only[*]) (by simp only[go_sem, *]) (by simp only[go_sem, *]) ?_
 rintro v h1 n1 ⟨sb,rfl,rfl,rfl,hsh⟩
 clear en
 cases sb with
 |false=>repeat' first |simp(disch:=first |omega |assumption) only[go_sem, *] | (apply xs<;>intro _)<;>try omega
 |true=>have:=(hsh rfl).1;omega
theorem rigOrder (x:Nat) (b:Int) (ps s:Value) (As:List (List (List Int))) (A:List (List Int)) (q q2:Nat) (h:PT aj) (N:Nat) (hW:iG h N) (hP:dV xj h q ps As) (hs:pR Gq h q2 s A) (hq:0<As.length→q+As.length<q2):
  b9 Tryz.prog OP 4 [.agg ⟨[U8 x,I6 b]⟩,ps,s] h N fun v h' n'=>v = .bool true:=by
 obtain⟨d,C,S,hPa,hA,hn⟩:=MY hW hP hs hq
 by_cases h0:As.length=0
 ·obtain rfl:=List.eq_nil_of_length_eq_zero h0
  obtain⟨x0,cap,hs'⟩:∃ x0 cap,s = .slice x0 A.length cap:=by
   rcases hA.2 with ⟨rfl,rfl⟩ | ⟨cap,rfl,_⟩
   ·exact⟨_,_,rfl⟩
   ·exact⟨_,_,rfl⟩
  exact Nb hW hP hs'
 have h1:0<As.length:=by omega
 by_cases I5:64<As.length
 ·
  obtain⟨x0,cap,hs'⟩:∃ x0 cap,s = .slice x0 A.length cap:=by
   rcases hA.2 with ⟨rfl,rfl⟩ | ⟨cap,rfl,_⟩
   ·exact⟨_,_,rfl⟩
   ·exact⟨_,_,rfl⟩
  exact Nc (by omega) hW hP hs'
 have cq:0<As.length∧As.length≤64:=by omega
 have hj:x%3=0∨x%3=1∨x%3=2:=by omega
 rcases hj with hj |hj |hj
 ·exact zL (Zm cq) (by omega) (by rw[if_neg (by omega)]) S hP (hPa h1) hA h1 (hn 20 0 (by omega) (by omega) (by omega)) (hn 98 0 (by omega) (by omega) (by omega)) (hn 99 0 (by omega) (by omega) (by omega)) (hn 66 0 (by omega) (by omega) (by omega)) (hn 66 1 (by omega) (by omega) (by omega)) (hn 67 0 (by omega) (by omega) (by omega)) (hn 68 0 (by omega) (by omega) (by omega)) (hn 69 0 (by omega) (by omega) (by omega))
 ·exact zL (Zn cq) (by omega) (by rw[if_neg (by omega)]) S hP (hPa h1) hA h1 (hn 20 0 (by omega) (by omega) (by omega)) (hn 98 0 (by omega) (by omega) (by omega)) (hn 99 0 (by omega) (by omega) (by omega)) (hn 66 0 (by omega) (by omega) (by omega)) (hn 66 1 (by omega) (by omega) (by omega)) (hn 67 0 (by omega) (by omega) (by omega)) (hn 68 0 (by omega) (by omega) (by omega)) (hn 69 0 (by omega) (by omega) (by omega))
 ·have b3:=Int.tmod_lt_of_pos (b.tmod 4+4) (show (0:Int)<4 by omega)
  have b2:=Int.lt_tmod_of_pos b (show (0:Int)<4 by omega)
  have b4:=Int.tmod_nonneg 4 (show 0≤b.tmod 4+4 by omega)
  obtain⟨nb,hnb⟩:∃ nb:Nat,(1+(b.tmod 4+4).tmod 4:Int)=nb:=⟨(1+(b.tmod 4+4).tmod 4).toNat,by omega⟩
  exact zL (Zo (nb:=nb) cq (by omega)) (by omega) (by rw[if_pos rfl];exact hnb) S hP (hPa h1) hA h1 (hn 20 0 (by omega) (by omega) (by omega)) (hn 98 0 (by omega) (by omega) (by omega)) (hn 99 0 (by omega) (by omega) (by omega)) (hn 66 0 (by omega) (by omega) (by omega)) (hn 66 1 (by omega) (by omega) (by omega)) (hn 67 0 (by omega) (by omega) (by omega)) (hn 68 0 (by omega) (by omega) (by omega)) (hn 69 0 (by omega) (by omega) (by omega))
end Go.Proofs.YtbceiadaihphaaaGreat
