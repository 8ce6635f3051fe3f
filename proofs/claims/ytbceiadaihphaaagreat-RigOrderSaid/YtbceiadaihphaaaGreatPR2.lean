/-
  A part of the proof: contracts of inner functions.
-/
import Derived.Test.YtbceiadaihphaaaGreatPM
import Derived.Test.YtbceiadaihphaaaGreatAmV3
set_option linter.unusedVariables false
set_option linter.unusedSimpArgs false
namespace Go.Proofs.YtbceiadaihphaaaGreat
open Go.Am
def kV:Nat→Nat→Nat→List Nat
 |0,_,_=>[]
 |f+1,v,s=>if s=0 then [] else if s%2=1 then v::kV f (v+1) (s/2) else kV f (v+1) (s/2)
theorem Il {z:Zx} {c:Code} {K:List KF} {m:Tm} {h:PT aj} {n:Nat} (Q:Tm→Prop) (hp:Q m) (H:∀ m',Q m'→eZ z c K m' h n):eZ z c K m h n:=H m hp
theorem zg {z:Zx} {K:List KF} {m:Tm} {h:PT aj} {n:Nat} {g:Operand} {ps:Array Tmp} {ac bd:Code} {f:FuncId} {args:List Value} {fn:Fn} {first captured:Array Value} {R:PT aj→Nat→Prop} (hn:m.n=z.N) (hro:z.ro=none) (hg:bt g=true) (he:m.eval g = .func fn first captured)
  (hc:fI z.P fn captured.toList (first.toList++[.func (.yield (n+1)) ⟨[]⟩ ⟨[]⟩]) = .pure (.enter f args)) (hO:z.O f args=none)
  (hB:b9 z.P z.O f args ((h.set n (some .deferred)).set (n+1) (some (.loop .ready none m ps.toList ac bd))) (n+2) fun _ h' n'=>R h' n'∧h'.get (n+1)=some (.loop .ready none m ps.toList ac bd))
  (hk:∀ h' n',R h' n'→Rs z K .normal (tj m (n::m.gD)) (h'.set (n+1) (some (.loop .exhausted none m ps.toList ac bd))) n'):eZ z (.rangeFunc g ps ac bd) K m h n:=
 BO hn hro hg he hc hO hB fun v h' n' r=>⟨r.2,hk h' n' r.1⟩
theorem BT {P:Program} {O:dK} {h:PT aj} {n:Nat} {l N:Nat} {m0:Tm} {ac bd:Code} {R:Bool→PT aj→Nat→Prop} {tm:Tm} {ps:List Tmp}
  (H:∀ z0:Zx,z0.P=P→z0.O=O→z0.ro=some l→z0.N=N→z0.Q=(fun e m1 h1 n1=>e = .normal∧h1.get l=some (.loop .ready none tm ps ac bd)∧
   ∀ z1:Zx,z1.P=P→z1.O=O→z1.ro=some l→z1.N=N→z1.Q=(fun e2 m2 h2 n2=>h2.get l=some (.loop .busy none tm ps ac bd)∧R (exitCode e2).isNone (h2.set l (some (.loop (cond (exitCode e2).isNone .ready .done) (exitCode e2) tm ps ac bd))) n2)→
    eZ z1 bd [] m1 (h1.set l (some (.loop .busy none tm ps ac bd))) n1)→eZ z0 ac [] m0 h n):lV P O l m0 ac bd h n R:=BR H
@[go_sem] theorem CT:exitCode .normal=none:=rfl
set_option maxRecDepth 100000 in
set_option maxHeartbeats 4000000 in
theorem BU {O:dK} (l cb s0:Nat) (hs0:s0<2^64) (tm:Tm) (p:Nat) (hp:p<tm.n) (ac bd:Code) (I:List Nat→PT aj→Nat→Prop) (h:PT aj) (N:Nat) (hW:iG h N) (hcb:h.get cb=row [.int .u64 s0]) (hl:h.get l=some (.loop .ready none tm [p] ac bd)) (hne:l≠cb) (hI:I [] h N)
  (dr:∀ ws h' n' (x:Nat),I ws h' n'→I ws (h'.set cb (row [.int .u64 x])) n')
  (hstep:∀ ws (v:Nat) h' n',iG h' n'→N≤n'→I ws h' n'→h'.get l=some (.loop .ready none tm [p] ac bd)→v<64→ws.length≤v→lV Tryz.prog O l (tj (up tm p (.int .i64 v)) []) ac bd h' n' (fun b h2 n2=>b=true∧I (ws++[v]) h2 n2∧h2.get l=some (.loop .ready none tm [p] ac bd)∧h2.get cb=h'.get cb∧iG h2 n2∧n'≤n2)):
  b9 Tryz.prog O 95 [.func (.yield l) ⟨[]⟩ ⟨[]⟩,pt cb] h N fun v h' n'=>I (kV 64 0 s0) h' n'∧h'.get l=some (.loop .ready none tm [p] ac bd)∧iG h' n'∧N≤n':=by
 have hlN:=hW.lt hl
 have hcN:=hW.lt hcb
 obtain⟨B,hB⟩:∃ B,kV 64 0 s0=B:=⟨_,rfl⟩
 rw[hB]
 refine aC (N:=19) Tryz.func95 rfl rfl fun z hP hO hro hN hQ=>?_
 repeat' first |simp(disch:=first |omega |assumption) only[go_sem, *] | (apply xs<;>intro _)<;>try omega
 refine dG (fun t m h' n'=>∃ (v s:Nat) (ws:List Nat),v+t=64∧ws.length≤v∧s<2^t∧B=ws++kV t v s∧m.n=19∧m.gD=[]∧m.get 0 = .func (.yield l) ⟨[]⟩ ⟨[]⟩∧m.get 1=pt cb∧m.get 3 = .int .i64 v∧iG h' n'∧N≤n'∧h'.get cb=row [.int .u64 s]∧h'.get l=some (.loop .ready none tm [p] ac bd)∧I ws h' n') 64 ?_ ?_
 ·refine⟨0,s0,[],rfl,Nat.le_refl _,hs0,hB.symm,?_⟩
  simp(disch:=first |omega |assumption) only[go_sem, *]
  exact Nat.le_refl _
 ·clear hB
  rintro t m h' n' ih ⟨v,s,ws,hvt,hwv,hst,L7,m1,m2,m3,m4,m5,q1,q2,q3,q4,q5⟩
  by_cases h0:s=0
  ·subst h0
   have hb0:kV t v 0=[]:=by cases t<;>simp[kV]
   rw[hb0,List.append_nil] at L7
   subst L7
   clear hstep dr ih
   repeat' first |simp(disch:=first |omega |assumption) only[go_sem, *] | (apply xs<;>intro _)<;>try omega
   exact⟨_,rfl⟩
  ·have h0': ¬ (s:Int)=0:=by omega
   obtain⟨t',rfl⟩:∃ t',t=t'+1:=by
    cases t with
    |zero=>simp at hst;omega
    |succ t=>exact⟨t,rfl⟩
   have hlt:s/2<2^t':=by rw[Nat.pow_succ] at hst;omega
   have Rq:s<2^64:=Nat.lt_of_lt_of_le hst (Nat.pow_le_pow_right (by omega) (by omega))
   have hqq:(s:Int).tdiv 2=((s/2:Nat):Int):=rfl
   have hrr:(s:Int).tmod 2=((s%2:Nat):Int):=rfl
   have kZ:s/2<18446744073709551616:=by omega
   rw[kV,if_neg h0] at L7
   by_cases h1:s%2=1
   ·rw[if_pos h1] at L7
    have Rr:=hstep ws v h' n' q1 q2 q5 q4 (by omega) hwv
    have hr1:(s:Int).tmod 2=1:=by omega
    clear hstep hrr
    repeat' first |simp(disch:=first |omega |assumption) only[go_sem, *,wO] | (apply xs<;>intro _)<;>try omega
    refine BQ ?_ (by rw[hP,hO];exact Rr) ?_
    ·simp(disch:=first |omega |assumption) only[go_sem, *]
    rintro b h2 n2 ⟨rfl,i1,i2,i3,i4,i5⟩
    rw[q3] at i3
    clear q1 q3 q4 q5 Rr
    repeat' first |simp(disch:=first |omega |assumption) only[go_sem, *] | (apply xs<;>intro _)<;>try omega | ((with_reducible refine bR 2 ?_);refine dz 19 2 w95_2 ?_)
    refine ih t' _ _ _ (by omega) ⟨v+1,s/2,ws++[v],by omega,by rw[List.length_append];simp only[List.length_cons,List.length_nil];omega,hlt,by rw[L7,List.append_assoc];rfl,?_⟩
    have qt:((v+1:Nat):Int)=(v:Int)+1:=by omega
    rw[qt]
    have Rt:=dr _ _ _ (s/2) i1
    have hW2:=i4.set (i:=cb) (b:=row [.int .u64 ((s/2:Nat):Int)]) (Nat.le_refl _) (by omega)
    simp(disch:=first |omega |assumption) only[go_sem, *]
    omega
   ·have h1':s%2=0:=by omega
    rw[if_neg h1] at L7
    have hr1:(s:Int).tmod 2=0:=by omega
    clear hstep hrr
    have Rt:=dr _ _ _ (s/2) q5
    have hW2:=q1.set (i:=cb) (b:=row [.int .u64 ((s/2:Nat):Int)]) (Nat.le_refl _) (by omega)
    repeat' first |simp(disch:=first |omega |assumption) only[go_sem, *] | (apply xs<;>intro _)<;>try omega | ((with_reducible refine bR 2 ?_);refine dz 19 2 w95_2 ?_)
    refine ih t' _ _ _ (by omega) ⟨v+1,s/2,ws,by omega,by omega,hlt,L7,?_⟩
    have qt:((v+1:Nat):Int)=(v:Int)+1:=by omega
    rw[qt]
    simp(disch:=first |omega |assumption) only[go_sem, *]
end Go.Proofs.YtbceiadaihphaaaGreat
namespace Go.Proofs.YtbceiadaihphaaaGreat
open Go.Am
structure MbI (h0:PT aj) (N:Nat) (ws:List Nat) (h:PT aj) (n:Nat):Prop where
 out:∃ sl,h.get N=row [sl]∧dX .i64 h (N+4) sl (ws.map fun v:Nat=>(v:Int))
 dfr:h.get (N+2)=some .deferred
 kept:Kept h0 h
theorem sD:∀ (f v s:Nat),(kV f v s).length≤f
 |0,v,s=>by simp[kV]
 |f+1,v,s=>by
  have:=sD f (v+1) (s/2)
  rw[kV]
  split
  ·simp
  ·split
   ·simp only[List.length_cons];omega
   ·omega
set_option maxRecDepth 100000 in
set_option maxHeartbeats 4000000 in
theorem EV {O:dK} (o1:O 86=fun _=>none) (o2:O 95=fun _=>none) (s:Nat) (hs:s<2^64) (h:PT aj) (N:Nat) (hW:iG h N):
  b9 Tryz.prog O 172 [.int .u64 s] h N fun r h' n'=>dX .i64 h' N r ((kV 64 0 s).map fun v:Nat=>(v:Int))∧Kept h h'∧iG h' n'∧N≤n':=by
 refine EP (N:=13) Tryz.func172 rfl rfl fun z hP hO hro hN hQ=>?_
 repeat' first |simp(disch:=first |omega |assumption) only[go_sem, *] | (apply xs<;>intro _)<;>try omega |refine fun (_ _:List Nat)=>?_ | (first |refine aT Tryz.func86 rfl ?_ ?_ ?_ ?_ |fail)<;>intros
 refine Il (fun m'=>m'.n=13∧m'.gD=[]∧m'.get 3=pt N∧m'.get 6 = .func (.func 95) ⟨[]⟩ ⟨[pt (N+1)]⟩) ?_ ?_
 ·simp(disch:=first |omega |assumption) only[go_sem, *]
 rintro m ⟨m1,m2,m3,m4⟩
 generalize Ru:PT.set (PT.set h N _) (N+1) _=hr
 have e1:hr.get N=row [.slice none 0 0]:=by rw[←Ru,bO (by omega)];exact cG
 have e2:hr.get (N+1)=row [.int .u64 s]:=y4 Ru
 have hWr:iG hr (N+2):=by rw[←Ru];exact iG.set' (by omega) (hW.set (by omega) (by omega))
 have hkr:Kept h hr:=by rw[←Ru];exact Kept.set' hW (by omega) (hW.kept (Nat.le_refl _))
 clear Ru
 refine zg (f:=95) (args:=[.func (.yield (N+3)) ⟨[]⟩ ⟨[]⟩,pt (N+1)]) (R:=fun h' n'=>MbI h N (kV 64 0 s) h' n'∧iG h' n'∧N+4≤n') (by rw[m1,hN]) hro rfl m4 (by rw[hP];rfl) (by rw[hO,o2]) ?_ ?_
 ·rw[hP,hO]
  refine(BU (N+3) (N+1) s hs m 7 (by omega) _ _ (fun ws h' n'=>MbI h N ws h' n') _ (N+4) (iG.set' (by omega) (hWr.set (by omega) (by omega))) ?_ cG (by omega) ?_ ?_ ?_).mono fun r h' n' q=>⟨⟨q.1,q.2.2.1,q.2.2.2⟩,q.2.1⟩
  ·rw[bO (by omega),bO (by omega)];exact e2
  ·refine⟨⟨.slice none 0 0,?_,.inl ⟨rfl,rfl⟩⟩,?_,Kept.set' hW (by omega) (Kept.set' hW (by omega) hkr)⟩
   ·rw[bO (by omega),bO (by omega)];exact e1
   ·rw[bO (by omega)];exact cG
  ·rintro ws h' n' x ⟨⟨sl,o1,o2⟩,o4,o5⟩
   exact⟨⟨sl,by rw[bO (by omega)];exact o1,o2.low (by omega)⟩,by rw[bO (by omega)];exact o4,Kept.set' hW (by omega) o5⟩
  ·rintro ws v h' n' Io hN' ⟨⟨sl,o1',YO⟩,o4,o5⟩ hl hv hwv
   have YP:(ws.map fun v:Nat=>(v:Int)).map (Value.int .i64)++[.int .i64 (v:Int)]=((ws++[v]).map fun v:Nat=>(v:Int)).map (.int .i64):=by simp
   refine BT (N:=13) (tm:=m) (ps:=[7]) fun z0 h0P h0O YQ W7 h0Q=>?_
   repeat' first |simp(disch:=first |omega |assumption) only[go_sem, *] | (apply xs<;>intro _)<;>try omega |refine fun (_ _:List Nat)=>?_
   intro z1 h1P h1O ajh h1N h1Q
   clear h0P h0O YQ W7 h0Q hQ hP hO hro hN o1 o2 e1 e2
   rcases YO with ⟨rfl,hws⟩ | ⟨g,rfl,g1,g3⟩
   ·have YR:ws=[]:=by simpa using hws
    subst YR
    repeat' first |simp(disch:=first |omega |assumption) only[go_sem, *] | (apply xs<;>intro _)<;>try omega |refine fun (_ _:List Nat)=>?_
    refine⟨⟨⟨.slice (some ⟨n'+1,0,none⟩) 1 (aB+1),by simp(disch:=omega) only[bO,cG],.inr ⟨n'+1,rfl,by omega,by simp(disch:=omega) only[bO,cG];rfl⟩⟩,by simp(disch:=omega) only[bO];exact o4,?_⟩,?_,by omega⟩
    ·repeat refine Kept.set' hW (by omega) ?_
     exact o5
    ·repeat refine iG.set' (by omega) ?_
     exact Io.mono (by omega)
   ·have hgn:=Io.lt g3
    rw[List.length_map] at*
    have tZ:List.take ws.length ((ws.map fun v:Nat=>(v:Int)).map (Value.int .i64))=(ws.map fun v:Nat=>(v:Int)).map (.int .i64):=List.take_of_length_le (by simp)
    have hml:((ws.map fun v:Nat=>(v:Int)).map (Value.int .i64)).length=ws.length:=by simp
    have Rv:Nat.ble (ws.length+1) 1048576=true:=Nat.ble_eq_true_of_le (by omega)
    have ajk:g≠N+3∧g≠N∧g≠N+1∧g≠N+2:=by omega
    repeat' first |simp(disch:=first |omega |assumption) only[go_sem, *] | (apply xs<;>intro _)<;>try omega |refine fun (_ _:List Nat)=>?_
    refine⟨⟨⟨.slice (some ⟨n'+1,0,none⟩) (ws.length+1) (aB+1),by simp(disch:=omega) only[bO,cG],.inr ⟨n'+1,by simp,by omega,by simp(disch:=omega) only[bO,cG]⟩⟩,by simp(disch:=omega) only[bO];exact o4,?_⟩,?_,by omega⟩
    ·repeat refine Kept.set' hW (by omega) ?_
     exact o5
    ·repeat refine iG.set' (by omega) ?_
     exact Io.mono (by omega)
 ·rintro h' n' ⟨⟨⟨sl,o1',YO⟩,o4,o5⟩,Io,hN'⟩
  generalize (kV 64 0 s).map (fun v:Nat=>(v:Int))=C at*
  repeat' first |simp(disch:=first |omega |assumption) only[go_sem, *] | (apply xs<;>intro _)<;>try omega |refine fun (_ _:List Nat)=>?_
  refine⟨?_,?_,?_,by omega⟩
  ·rcases(fun B=>(YO.low (j:=N+1+1+1) (B:=B) (by omega)).low (j:=N+1+1) (B:=none) (by omega)) _ with q | ⟨b,q1,q2,q3⟩
   ·exact .inl q
   ·exact .inr ⟨b,q1,by omega,q3⟩
  ·repeat refine Kept.set' hW (by omega) ?_
   exact o5
  ·repeat refine iG.set' (by omega) ?_
   exact Io
end Go.Proofs.YtbceiadaihphaaaGreat
