/-
  A part of the proof: contracts of inner functions.
-/
import Derived.Test.YtofmbmclopgldaaGreatBR
import Derived.Test.YtofmbmclopgldaaGreatDM
import Derived.Test.YtofmbmclopgldaaGreatCA
import Derived.Test.YtofmbmclopgldaaGreatCC1
import Derived.Test.YtofmbmclopgldaaGreatAmU5
set_option linter.unusedVariables false
set_option linter.unusedSimpArgs false
namespace Go.Proofs.YtofmbmclopgldaaGreat
open Go.Am
theorem adq:Tryz.prog.underlying 313=some (.map 3 423):=by kernel_rfl
@[go_sem] theorem lkS {r:Nat} {x:Int} {ok:Bool}:Rr Tryz.prog 313 (.map (some r)) (.int .i64 x) ok = .get r (Oy Tryz.prog (.int .i64) 423 (.int .i64 x) ok):=lkI adq U5
theorem Vs:zeroOf Tryz.prog 423=some (.pointer none):=by kernel_rfl
@[go_sem] theorem ads:DF Tryz.prog 423 true (some none) = .pure (.value (.tuple ⟨[.pointer none,.bool false]⟩)):=by simp only[DF,Vs,cond_true]
theorem CA:∀ (P:List (Int×Bool)) (s:Nat) (x:Int) (b:Bool),P[s]? = some (x,b)→(K9 P)[s*2]? = some (.int .u64 x)∧(K9 P)[s*2+1]? = some (.bool b)
 | [],s,x,b,h=>by simp at h
 |p::P,0,x,b,h=>by simp at h;subst h;rw[mC];exact⟨rfl,rfl⟩
 |p::P,s+1,x,b,h=>by
  have:=CA P s x b (by simpa using h)
  rw[mC,show (s+1)*2=s*2+1+1 by omega]
  exact⟨by simpa using this.1,by simpa using this.2⟩
theorem zB:∀ (P:List (Int×Bool)) (s:Nat) (x:Int) (b:Bool),P[s]? = some (x,b)→List.take 2 (List.drop (s*2) (K9 P))=[.int .u64 x,.bool b]
 | [],s,x,b,h=>by simp at h
 |p::P,0,x,b,h=>by simp at h;subst h;rw[mC];rfl
 |p::P,s+1,x,b,h=>by
  rw[mC,show (s+1)*2=s*2+1+1 by omega,List.drop_succ_cons,List.drop_succ_cons]
  exact zB P s x b (by simpa using h)
set_option maxRecDepth 100000 in
set_option maxHeartbeats 8000000 in
theorem Qh {h:PT ak} {n nn:Nat} {d:Rl→Nat} {C:Rl→Option ak} {base:Int} (S:St h nn d C) {N:List Int} {B:List Bool} (E:PJ d C base n N B) (hz:∀ i,i<n→N[i]? = some 0) (hn:n≤64):
  cW Tryz.prog OB 284 [pt (d (5,0))] h nn fun r h' n'=>r = .slice none 0 0∧Kept h h'∧bL h' n'∧nn≤n':=by
 obtain⟨e1,e2,e3,e4,e5,e6⟩:=E
 have g2:=S.at e2
 have g3:=S.at e3
 have W0:=S.wf
 clear e1 e2 e3 e4
 generalize d (5,0)=de at*
 generalize d (6,0)=d6 at*
 refine ay (N:=24) Tryz.func284 rfl rfl fun z hP hO hro hN hQ=>?_
 repeat' first |simp(maxSteps:=2000000) (disch:=first |omega | (repeat first |assumption |exact Kept.refl _ |refine Kept.set' (by assumption) ?_ ?_ |refine Kept.set (by assumption) ?_ ?_ |omega)) only[go_sem, *] | (apply xs<;>intro _)<;>try omega |refine fun (_ _:List Nat)=>?_ | (first |refine aJ Tryz.func286 rfl ?_ ?_ ?_ ?_ |fail)<;>intros
 refine bY (fun t m h' n'=>∃ (i:Nat),i+t=n∧m.n=24∧m.eS=[]∧m.get 0=pt de∧m.get 11=I6 n∧m.get 12=I6 i∧m.get 3 = .slice none 0 0∧Kept h h'∧bL h' n'∧nn≤n') n ?_ ?_
 ·refine⟨0,by omega,?_⟩
  simp(maxSteps:=2000000) (disch:=first |omega | (repeat first |assumption |exact Kept.refl _ |refine Kept.set' (by assumption) ?_ ?_ |refine Kept.set (by assumption) ?_ ?_ |omega)) only[go_sem, *]
  exact⟨Kept.refl _,Nat.le_refl _⟩
 ·rintro tt m h1 n1 ih ⟨i,hit,m1,m2,m3,m4,m5,m6,q1,q2,q3⟩
  have q6:=q1 _ _ g2
  have q7:=q1 _ _ g3
  clear g2 g3
  have vC:(i:Int)+1=((i+1:Nat):Int):=by omega
  by_cases hi:i=n
  ·have hi': ¬ (i:Int)<n:=by omega
   clear ih
   repeat' first |simp(maxSteps:=2000000) (disch:=first |omega | (repeat first |assumption |exact Kept.refl _ |refine Kept.set' (by assumption) ?_ ?_ |refine Kept.set (by assumption) ?_ ?_ |omega)) only[go_sem, *] | (apply xs<;>intro _)<;>try omega |refine fun (_ _:List Nat)=>?_ | (first |refine aJ Tryz.func286 rfl ?_ ?_ ?_ ?_ |fail)<;>intros
  ·have hi':(i:Int)<n:=by omega
   have hx:(N.map (Value.int .u64))[i]? = some (U6 0):=by rw[List.getElem?_map,hz i (by omega)];rfl
   have ht: ¬ ((0:Int).tmod 2=1):=by decide
   clear hz
   repeat' first |simp(maxSteps:=2000000) (disch:=first |omega | (repeat first |assumption |exact Kept.refl _ |refine Kept.set' (by assumption) ?_ ?_ |refine Kept.set (by assumption) ?_ ?_ |omega)) only[go_sem, *] | (apply xs<;>intro _)<;>try omega |refine fun (_ _:List Nat)=>?_ | (first |refine aJ Tryz.func286 rfl ?_ ?_ ?_ ?_ |fail)<;>intros
   refine ih (n-(i+1)) _ _ _ (by omega) ⟨i+1,by omega,?_⟩
   clear ih
   simp(maxSteps:=2000000) (disch:=first |omega | (repeat first |assumption |exact Kept.refl _ |refine Kept.set' (by assumption) ?_ ?_ |refine Kept.set (by assumption) ?_ ?_ |omega)) only[go_sem, *]
set_option maxRecDepth 100000 in
set_option maxHeartbeats 8000000 in
theorem Qi {h:PT ak} {n nn:Nat} {d:Rl→Nat} {C:Rl→Option ak} {base:Int} (S:St h nn d C) {P:List (Int×Bool)} (E:PK d C base n P) (hz:∀ i,i<n→P[i]? = some (0,false)) (hn:n≤64):
  cW Tryz.prog OB 290 [pt (d (5,0))] h nn fun r h' n'=>r = .slice none 0 0∧Kept h h'∧bL h' n'∧nn≤n':=by
 obtain⟨e1,e2,e3,e4,e5⟩:=E
 have g2:=S.at e2
 have g3:=S.at e3
 have W0:=S.wf
 clear e1 e2 e3 e4
 generalize d (5,0)=de at*
 generalize d (6,0)=d6 at*
 refine ay (N:=28) Tryz.func290 rfl rfl fun z hP hO hro hN hQ=>?_
 repeat' first |simp(maxSteps:=2000000) (disch:=first |omega | (repeat first |assumption |exact Kept.refl _ |refine Kept.set' (by assumption) ?_ ?_ |refine Kept.set (by assumption) ?_ ?_ |omega)) only[go_sem, *] | (apply xs<;>intro _)<;>try omega
 refine bY (fun t m h' n'=>∃ (i:Nat),i+t=n∧m.n=28∧m.eS=[]∧m.get 0=pt de∧m.get 11 = .slice (some ⟨d6,0,none⟩) n n∧m.get 12=I6 n∧m.get 13=I6 i∧m.get 3 = .slice none 0 0∧Kept h h'∧bL h' n'∧nn≤n') n ?_ ?_
 ·refine⟨0,by omega,?_⟩
  simp(maxSteps:=2000000) (disch:=first |omega | (repeat first |assumption |exact Kept.refl _ |refine Kept.set' (by assumption) ?_ ?_ |refine Kept.set (by assumption) ?_ ?_ |omega)) only[go_sem, *]
  exact⟨Kept.refl _,Nat.le_refl _⟩
 ·rintro tt m h1 n1 ih ⟨i,hit,m1,m2,m3,m4,m5,m6,m7,q1,q2,q3⟩
  have q6:=q1 _ _ g2
  have q7:=q1 _ _ g3
  clear g2 g3
  have vC:(i:Int)+1=((i+1:Nat):Int):=by omega
  by_cases hi:i=n
  ·have hi': ¬ (i:Int)<n:=by omega
   clear ih
   repeat' first |simp(maxSteps:=2000000) (disch:=first |omega | (repeat first |assumption |exact Kept.refl _ |refine Kept.set' (by assumption) ?_ ?_ |refine Kept.set (by assumption) ?_ ?_ |omega)) only[go_sem, *] | (apply xs<;>intro _)<;>try omega
  ·have hi':(i:Int)<n:=by omega
   have hpx:=hz i (by omega)
   have ht: ¬ ((0:Int).tmod 2=1):=by decide
   clear hz
   obtain⟨hx1,hx2⟩:=CA _ _ _ _ hpx
   have hx3:=zB _ _ _ _ hpx
   have hx4:(i*2+2).ble (K9 P).length=true:=Nat.ble_eq_true_of_le (by have:=(List.getElem?_eq_some_iff.1 hx2).1;omega)
   clear hpx
   repeat' first |simp(maxSteps:=2000000) (disch:=first |omega | (repeat first |assumption |exact Kept.refl _ |refine Kept.set' (by assumption) ?_ ?_ |refine Kept.set (by assumption) ?_ ?_ |omega)) only[go_sem, *] | (apply xs<;>intro _)<;>try omega
   refine ih (n-(i+1)) _ _ _ (by omega) ⟨i+1,by omega,?_⟩
   clear ih
   simp(maxSteps:=2000000) (disch:=first |omega | (repeat first |assumption |exact Kept.refl _ |refine Kept.set' (by assumption) ?_ ?_ |refine Kept.set (by assumption) ?_ ?_ |omega)) only[go_sem, *]
   exact⟨Kept.set' W0 (by omega) (Kept.set' W0 (by omega) q1),bL.set' (by omega) (q2.set (by omega) (by omega)),by omega⟩
set_option maxRecDepth 100000 in
set_option maxHeartbeats 8000000 in
theorem Qj {h:PT ak} {nb n nn:Nat} {d:Rl→Nat} {C:Rl→Option ak} {base:Int} (S:St h nn d C) {X:List bG} {ck:Nat} (E:PN d C base nb n X ck) (hz:∀ i:Nat,bg (i:Int) X 0=none):
  cW Tryz.prog OB 295 [pt (d (5,0))] h nn fun r h' n'=>r = .slice none 0 0∧Kept h h'∧bL h' n'∧nn≤n':=by
 obtain⟨e1,e2,e3⟩:=E
 have g2:=S.at e2
 have g3:=S.at e3
 have W0:=S.wf
 clear e1 e2 e3
 generalize d (5,0)=de at*
 generalize d (6,0)=d6 at*
 refine ay (N:=34) Tryz.func295 rfl rfl fun z hP hO hro hN hQ=>?_
 repeat' first |simp(maxSteps:=2000000) (disch:=first |omega | (repeat first |assumption |exact Kept.refl _ |refine Kept.set' (by assumption) ?_ ?_ |refine Kept.set (by assumption) ?_ ?_ |omega)) only[go_sem, *] | (apply xs<;>intro _)<;>try omega
 refine bY (fun t m h' n'=>∃ (i:Nat),i+t=64∧m.n=34∧m.eS=[]∧m.get 0=pt de∧m.get 9=I6 i∧m.get 3 = .slice none 0 0∧Kept h h'∧bL h' n'∧nn≤n') 64 ?_ ?_
 ·refine⟨0,by omega,?_⟩
  simp(maxSteps:=2000000) (disch:=first |omega | (repeat first |assumption |exact Kept.refl _ |refine Kept.set' (by assumption) ?_ ?_ |refine Kept.set (by assumption) ?_ ?_ |omega)) only[go_sem, *]
  exact⟨Kept.refl _,Nat.le_refl _⟩
 ·rintro tt m h1 n1 ih ⟨i,hit,m1,m2,m3,m4,m5,q1,q2,q3⟩
  have q6:=q1 _ _ g2
  have q7:=q1 _ _ g3
  clear g2 g3
  have vC:(i:Int)+1=((i+1:Nat):Int):=by omega
  by_cases hi:i=64
  ·have hi': ¬ (i:Int)<64:=by omega
   clear ih
   repeat' first |simp(maxSteps:=2000000) (disch:=first |omega | (repeat first |assumption |exact Kept.refl _ |refine Kept.set' (by assumption) ?_ ?_ |refine Kept.set (by assumption) ?_ ?_ |omega)) only[go_sem, *] | (apply xs<;>intro _)<;>try omega
  ·have hi':(i:Int)<64:=by omega
   have hf:=hz i
   clear hz
   repeat' first |simp(maxSteps:=2000000) (disch:=first |omega | (repeat first |assumption |exact Kept.refl _ |refine Kept.set' (by assumption) ?_ ?_ |refine Kept.set (by assumption) ?_ ?_ |omega)) only[go_sem, *] | (apply xs<;>intro _)<;>try omega
   refine ih (64-(i+1)) _ _ _ (by omega) ⟨i+1,by omega,?_⟩
   clear ih
   simp(maxSteps:=2000000) (disch:=first |omega | (repeat first |assumption |exact Kept.refl _ |refine Kept.set' (by assumption) ?_ ?_ |refine Kept.set (by assumption) ?_ ?_ |omega)) only[go_sem, *]
end Go.Proofs.YtofmbmclopgldaaGreat
set_option linter.unusedVariables false
set_option linter.unusedSimpArgs false
namespace Go.Proofs.YtofmbmclopgldaaGreat
open Go.Am
@[go_sem] theorem adt {r:Operand} {nm:String} {ys:Array Operand} {ts:Array TypeId}:(Op.call ⟨.invoke r nm,ys,ts⟩).operands=#[r]++ys:=rfl
@[go_sem] theorem anu {p:Addr} {args:List Value}:cL Tryz.prog (.iface 231 (.agg ⟨[.iface 225 (.pointer (some p))]⟩)) "Open" args = .pure (.enter 284 (.pointer (some p)::args)):=by kernel_rfl
@[go_sem] theorem ajG {p:Addr} {args:List Value}:cL Tryz.prog (.iface 238 (.agg ⟨[.iface 232 (.pointer (some p))]⟩)) "Open" args = .pure (.enter 290 (.pointer (some p)::args)):=by kernel_rfl
@[go_sem] theorem ajH {p:Addr} {args:List Value}:cL Tryz.prog (.iface 245 (.agg ⟨[.iface 239 (.pointer (some p))]⟩)) "Open" args = .pure (.enter 295 (.pointer (some p)::args)):=by kernel_rfl
set_option maxRecDepth 100000 in
set_option maxHeartbeats 8000000 in
theorem Vt {h:PT ak} {n nn:Nat} {d:Rl→Nat} {C:Rl→Option ak} {base en:Int} (S:St h nn d C) (E:Ea en d C base n) (hn:n≤64):
  cW Tryz.prog OB 24 [pt (d (4,0))] h nn fun r h' n'=>r = .slice none 0 0∧Kept h h'∧bL h' n'∧nn≤n':=by
 have rp:∀ {α:Type} {x:α} {i:Nat},i<n→(List.replicate n x)[i]? = some x:=fun hi=>by rw[List.getElem?_replicate,if_pos hi]
 refine ay (N:=10) Tryz.func24 rfl rfl fun z hP hO hro hN hQ=>?_
 rcases E with ⟨rfl,E⟩ | ⟨rfl,E⟩ | ⟨rfl,nb,E⟩
 ·have hf:=Qh S E (fun i hi=>rp hi) hn
  have g:=S.at E.zn
  have n4:=S.lt E.zn
  clear rp
  repeat' first |simp(maxSteps:=2000000) (disch:=first |omega | (repeat first |assumption |exact Kept.refl _ |refine Kept.set' (by assumption) ?_ ?_ |refine Kept.set (by assumption) ?_ ?_ |omega)) only[go_sem, *] | (apply xs<;>intro _)<;>try omega
  refine iH (hf) (by simp only[*]) (by simp only[*]) (by simp only[go_sem, *]) (by simp only[go_sem, *]) ?_
  rintro r h' n' ⟨rfl,q1,q2,q3⟩
  repeat' first |simp(maxSteps:=2000000) (disch:=first |omega | (repeat first |assumption |exact Kept.refl _ |refine Kept.set' (by assumption) ?_ ?_ |refine Kept.set (by assumption) ?_ ?_ |omega)) only[go_sem, *] | (apply xs<;>intro _)<;>try omega
 ·have hf:=Qi S E (fun i hi=>rp hi) hn
  have g:=S.at E.zn
  have n4:=S.lt E.zn
  clear rp
  repeat' first |simp(maxSteps:=2000000) (disch:=first |omega | (repeat first |assumption |exact Kept.refl _ |refine Kept.set' (by assumption) ?_ ?_ |refine Kept.set (by assumption) ?_ ?_ |omega)) only[go_sem, *] | (apply xs<;>intro _)<;>try omega
  refine iH (hf) (by simp only[*]) (by simp only[*]) (by simp only[go_sem, *]) (by simp only[go_sem, *]) ?_
  rintro r h' n' ⟨rfl,q1,q2,q3⟩
  repeat' first |simp(maxSteps:=2000000) (disch:=first |omega | (repeat first |assumption |exact Kept.refl _ |refine Kept.set' (by assumption) ?_ ?_ |refine Kept.set (by assumption) ?_ ?_ |omega)) only[go_sem, *] | (apply xs<;>intro _)<;>try omega
 ·have hf:=Qj S E (fun i=>rfl)
  have g:=S.at E.zn
  have n4:=S.lt E.zn
  clear rp
  repeat' first |simp(maxSteps:=2000000) (disch:=first |omega | (repeat first |assumption |exact Kept.refl _ |refine Kept.set' (by assumption) ?_ ?_ |refine Kept.set (by assumption) ?_ ?_ |omega)) only[go_sem, *] | (apply xs<;>intro _)<;>try omega
  refine iH (hf) (by simp only[*]) (by simp only[*]) (by simp only[go_sem, *]) (by simp only[go_sem, *]) ?_
  rintro r h' n' ⟨rfl,q1,q2,q3⟩
  repeat' first |simp(maxSteps:=2000000) (disch:=first |omega | (repeat first |assumption |exact Kept.refl _ |refine Kept.set' (by assumption) ?_ ?_ |refine Kept.set (by assumption) ?_ ?_ |omega)) only[go_sem, *] | (apply xs<;>intro _)<;>try omega
end Go.Proofs.YtofmbmclopgldaaGreat
set_option linter.unusedVariables false
set_option linter.unusedSimpArgs false
namespace Go.Proofs.YtofmbmclopgldaaGreat
open Go.Am
theorem zC {p:Int→Bool} (hp:p 0=false) {m:Nat}:xm p (List.replicate (m+1) 0) m=[]:=by
 unfold xm
 have:((List.range m).filter fun i=>p ((List.replicate (m+1) (0:Int)).getD (i+1) 0))=[]:=by
  rw[List.filter_eq_nil_iff]
  intro i hi
  have:(List.replicate (m+1) (0:Int)).getD (i+1) 0=0:=by
   simp only[List.getD,List.getElem?_replicate];split<;>rfl
  rw[this,hp];simp
 rw[this];rfl
set_option maxRecDepth 100000 in
set_option maxHeartbeats 16000000 in
theorem Ie (th sl en bu kd dn t0 t1 t2 t3 t4 t5 lo tr ba:Int) {a:Option Addr} {len cap:Nat} {xs:List Int} (h:PT ak) (N:Nat) (hW:bL h N) (hs:aW .u64 h (.slice a len cap) xs) (hl:xs.length<1000000000000000):
  cW Tryz.prog OB 3 [.agg ⟨[I6 th,I6 sl,U8 en,I6 bu,U8 kd,I6 dn,.slice a len cap,I6 t0,I6 t1,I6 t2,I6 t3,I6 t4,I6 t5,I6 lo,I6 tr,I6 ba]⟩] h N fun v h' n'=>v = .bool true:=by
 refine ay (N:=95) Tryz.func3 rfl rfl fun z hP hO hro hN hQ=>?_
 repeat' first |simp(maxSteps:=2000000) (disch:=first |omega | (repeat first |assumption |exact Kept.refl _ |refine Kept.set' (by assumption) ?_ ?_ |refine Kept.set (by assumption) ?_ ?_ |omega)) only[go_sem, *] | (apply xs<;>intro _)<;>try omega |refine fun (_ _:List Nat)=>?_ | (first |refine aJ Tryz.func11 rfl ?_ ?_ ?_ ?_ |refine aJ Tryz.func14 rfl ?_ ?_ ?_ ?_ |refine aJ Tryz.func66 rfl ?_ ?_ ?_ ?_ |refine aJ Tryz.func15 rfl ?_ ?_ ?_ ?_ |refine aJ Tryz.func19 rfl ?_ ?_ ?_ ?_ |refine aJ Tryz.func21 rfl ?_ ?_ ?_ ?_ |refine aJ Tryz.func23 rfl ?_ ?_ ?_ ?_ |refine aJ Tryz.func25 rfl ?_ ?_ ?_ ?_ |fail)<;>intros
 generalize hh0:h.set N _=h0
 have e0:h0.get N=row (Vn th sl en bu kd dn t0 t1 t2 t3 t4 t5 lo tr ba (.slice a len cap)):=by rw[←hh0];exact bC
 have RV:bL h0 (N+1):=by rw[←hh0];exact hW.set (Nat.le_succ _) (Nat.lt_succ_self _)
 have k0:Kept h h0:=by rw[←hh0];exact hW.kept (Nat.le_refl _)
 have hs0:=hs.keep k0
 clear hh0
 unfold Vn at e0
 refine iH (Qe (O:=OB) th sl en bu kd dn t0 t1 t2 t3 t4 t5 lo tr ba h0 (N+1) RV) (by simp only[*]) (by simp only[*]) (by simp only[go_sem, *]) (by simp only[go_sem, *]) ?_
 rintro v h1 n1 ⟨⟨b,rfl⟩,k1,PI,hn1⟩
 have e1:=k1 _ _ e0
 have hs1:=hs0.keep k1
 clear hs hs0 e0
 cases b with
 |false=>
  repeat' first |simp(maxSteps:=2000000) (disch:=first |omega | (repeat first |assumption |exact Kept.refl _ |refine Kept.set' (by assumption) ?_ ?_ |refine Kept.set (by assumption) ?_ ?_ |omega)) only[go_sem, *] | (apply xs<;>intro _)<;>try omega |refine fun (_ _:List Nat)=>?_ | (first |refine aJ Tryz.func11 rfl ?_ ?_ ?_ ?_ |refine aJ Tryz.func14 rfl ?_ ?_ ?_ ?_ |refine aJ Tryz.func66 rfl ?_ ?_ ?_ ?_ |refine aJ Tryz.func15 rfl ?_ ?_ ?_ ?_ |refine aJ Tryz.func19 rfl ?_ ?_ ?_ ?_ |refine aJ Tryz.func21 rfl ?_ ?_ ?_ ?_ |refine aJ Tryz.func23 rfl ?_ ?_ ?_ ?_ |refine aJ Tryz.func25 rfl ?_ ?_ ?_ ?_ |fail)<;>intros
 |true=>
  repeat' first |simp(maxSteps:=2000000) (disch:=first |omega | (repeat first |assumption |exact Kept.refl _ |refine Kept.set' (by assumption) ?_ ?_ |refine Kept.set (by assumption) ?_ ?_ |omega)) only[go_sem, *] | (apply xs<;>intro _)<;>try omega |refine fun (_ _:List Nat)=>?_ | (first |refine aJ Tryz.func11 rfl ?_ ?_ ?_ ?_ |refine aJ Tryz.func14 rfl ?_ ?_ ?_ ?_ |refine aJ Tryz.func66 rfl ?_ ?_ ?_ ?_ |refine aJ Tryz.func15 rfl ?_ ?_ ?_ ?_ |refine aJ Tryz.func19 rfl ?_ ?_ ?_ ?_ |refine aJ Tryz.func21 rfl ?_ ?_ ?_ ?_ |refine aJ Tryz.func23 rfl ?_ ?_ ?_ ?_ |refine aJ Tryz.func25 rfl ?_ ?_ ?_ ?_ |fail)<;>intros
  refine iH (acT th sl en bu kd dn t0 t1 t2 t3 t4 t5 lo tr ba (.slice a len cap) xs h1 n1 PI hs1 hl) (by simp only[*]) (by simp only[*]) (by simp only[go_sem, *]) (by simp only[go_sem, *]) ?_
  rintro v h2 n2 (⟨-,rfl,k2,Ht⟩ | ⟨h3,n3,lb,l,gb,cv,sz,d,C,rfl,k2,hn3,hL,sv,S,F⟩)
  ·repeat' first |simp(maxSteps:=2000000) (disch:=first |omega | (repeat first |assumption |exact Kept.refl _ |refine Kept.set' (by assumption) ?_ ?_ |refine Kept.set (by assumption) ?_ ?_ |omega)) only[go_sem, *,qB] | (apply xs<;>intro _)<;>try omega |refine fun (_ _:List Nat)=>?_ | (first |refine aJ Tryz.func11 rfl ?_ ?_ ?_ ?_ |refine aJ Tryz.func14 rfl ?_ ?_ ?_ ?_ |refine aJ Tryz.func66 rfl ?_ ?_ ?_ ?_ |refine aJ Tryz.func15 rfl ?_ ?_ ?_ ?_ |refine aJ Tryz.func19 rfl ?_ ?_ ?_ ?_ |refine aJ Tryz.func21 rfl ?_ ?_ ?_ ?_ |refine aJ Tryz.func23 rfl ?_ ?_ ?_ ?_ |refine aJ Tryz.func25 rfl ?_ ?_ ?_ ?_ |fail)<;>intros
  ·have hl0:=hL.look
   obtain⟨p5,p6,B0⟩:=Bs.start S F hl0 sv
   obtain⟨Fz0,M,IB,Fv,E⟩:=F
   have kf:=Fz0.kept S
   have n32:n3≤n2:=by
    have:=Fz0.lo _ _ (by decide) M.mem
    have:=S.lt M.mem
    omega
   have gb:=S.at IB.base
   have nb:=S.lt IB.base
   have hge:l.P.getD 8 0≤(sz:Int):=by
    have:=(p_ l.H (l.P.getD 8 0) sv.KR.bd).1
    rw[sv.gH] at this
    exact this
   have RR:=sv.RE
   have hp9:(l.P.getD 9 0).toNat=sz:=by rw[sv.p9];omega
   have vk:(jH l).length=sz:=by unfold jH;rw[me];exact hp9
   have acU:@decide (ze l) (Classical.propDecidable _)=true:=@decide_eq_true _ (Classical.propDecidable _) sv.KR
   have hP:=(Qg sv kf Fz0.wf n32 S.wf hl0 (S.at IB.tow) (S.at M.mem) (S.at M.words) rfl hge (by omega)).wf S.wf
   repeat' first |simp(maxSteps:=2000000) (disch:=first |omega | (repeat first |assumption |exact Kept.refl _ |refine Kept.set' (by assumption) ?_ ?_ |refine Kept.set (by assumption) ?_ ?_ |omega)) only[go_sem, *] | (apply xs<;>intro _)<;>try omega |refine fun (_ _:List Nat)=>?_ | (first |refine aJ Tryz.func11 rfl ?_ ?_ ?_ ?_ |refine aJ Tryz.func14 rfl ?_ ?_ ?_ ?_ |refine aJ Tryz.func66 rfl ?_ ?_ ?_ ?_ |refine aJ Tryz.func15 rfl ?_ ?_ ?_ ?_ |refine aJ Tryz.func19 rfl ?_ ?_ ?_ ?_ |refine aJ Tryz.func21 rfl ?_ ?_ ?_ ?_ |refine aJ Tryz.func23 rfl ?_ ?_ ?_ ?_ |refine aJ Tryz.func25 rfl ?_ ?_ ?_ ?_ |fail)<;>intros
   refine iH (hP) (by simp only[*]) (by simp only[*]) (by simp only[go_sem, *]) (by simp only[go_sem, *]) ?_
   rintro v h5 n5 ⟨⟨rfl,k5⟩,hn5,w5⟩
   have S5:=S.kept k5 w5
   have gb5:=k5 _ _ gb
   clear hP
   repeat' first |simp(maxSteps:=2000000) (disch:=first |omega | (repeat first |assumption |exact Kept.refl _ |refine Kept.set' (by assumption) ?_ ?_ |refine Kept.set (by assumption) ?_ ?_ |omega)) only[go_sem, *] | (apply xs<;>intro _)<;>try omega |refine fun (_ _:List Nat)=>?_ | (first |refine aJ Tryz.func11 rfl ?_ ?_ ?_ ?_ |refine aJ Tryz.func14 rfl ?_ ?_ ?_ ?_ |refine aJ Tryz.func66 rfl ?_ ?_ ?_ ?_ |refine aJ Tryz.func15 rfl ?_ ?_ ?_ ?_ |refine aJ Tryz.func19 rfl ?_ ?_ ?_ ?_ |refine aJ Tryz.func21 rfl ?_ ?_ ?_ ?_ |refine aJ Tryz.func23 rfl ?_ ?_ ?_ ?_ |refine aJ Tryz.func25 rfl ?_ ?_ ?_ ?_ |fail)<;>intros
   refine iH (Le S5 M IB.base (T:=[]) (s:=0) (fun q=>absurd q (by simp)) (by simp)) (by simp only[*]) (by simp only[*]) (by simp only[go_sem, *]) (by simp only[go_sem, *]) ?_
   rintro v h6 n6 ⟨rfl,rfl,rfl⟩
   have hbf:bfV [] 0 0=nD [I6 0,I6 0]:=rfl
   rw[hbf]
   have B5:=B0.keep k5 w5 hn5
   obtain⟨v0,v1,v3,v4,v5',v6,v7,v8',w0,w1,w2,w3,w5',pb,rr,xk,X,o1,o2,o3,o4,o5,o6,oX,oe⟩:=B5.adn
   rw[zC (by decide)] at oe
   have Er:X.length=0:=by rw[←dG (X:=X),oe];rfl
   have epb:pb=d (75,0):=by
    rw[gb5] at o1
    simp only[Option.some.injEq,ak.cells.injEq] at o1
    have:=congrArg (fun t=>PT.get t 2) o1.1
    simp[PT.aI] at this
    exact this.symm
   subst epb
   have Pn:=B5.xh
   rw[zC (by decide)] at Pn
   have gm:=S5.at M.mem
   have nm:=S5.lt M.mem
   clear v0 v1 v3 v4 v5' v6 v7 v8' o1
   repeat' first |simp(maxSteps:=2000000) (disch:=first |omega | (repeat first |assumption |exact Kept.refl _ |refine Kept.set' (by assumption) ?_ ?_ |refine Kept.set (by assumption) ?_ ?_ |omega)) only[go_sem, *,uv] | (apply xs<;>intro _)<;>try omega |refine fun (_ _:List Nat)=>?_ | (first |refine aJ Tryz.func11 rfl ?_ ?_ ?_ ?_ |refine aJ Tryz.func14 rfl ?_ ?_ ?_ ?_ |refine aJ Tryz.func66 rfl ?_ ?_ ?_ ?_ |refine aJ Tryz.func15 rfl ?_ ?_ ?_ ?_ |refine aJ Tryz.func19 rfl ?_ ?_ ?_ ?_ |refine aJ Tryz.func21 rfl ?_ ?_ ?_ ?_ |refine aJ Tryz.func23 rfl ?_ ?_ ?_ ?_ |refine aJ Tryz.func25 rfl ?_ ?_ ?_ ?_ |fail)<;>intros
   rw[rH o5 o6 oX,if_pos Er]
   repeat' first |simp(maxSteps:=2000000) (disch:=first |omega | (repeat first |assumption |exact Kept.refl _ |refine Kept.set' (by assumption) ?_ ?_ |refine Kept.set (by assumption) ?_ ?_ |omega)) only[go_sem, *] | (apply xs<;>intro _)<;>try omega |refine fun (_ _:List Nat)=>?_ | (first |refine aJ Tryz.func11 rfl ?_ ?_ ?_ ?_ |refine aJ Tryz.func14 rfl ?_ ?_ ?_ ?_ |refine aJ Tryz.func66 rfl ?_ ?_ ?_ ?_ |refine aJ Tryz.func15 rfl ?_ ?_ ?_ ?_ |refine aJ Tryz.func19 rfl ?_ ?_ ?_ ?_ |refine aJ Tryz.func21 rfl ?_ ?_ ?_ ?_ |refine aJ Tryz.func23 rfl ?_ ?_ ?_ ?_ |refine aJ Tryz.func25 rfl ?_ ?_ ?_ ?_ |fail)<;>intros
   refine iH (Pn) (by simp only[*]) (by simp only[*]) (by simp only[go_sem, *]) (by simp only[go_sem, *]) ?_
   rintro r h7 n7 ⟨G7,k7,w7,hn7⟩
   clear Pn o2 o3 o4 o5 o6 oX oe Er
   obtain⟨ra,rc,rfl⟩:∃ ra rc,r = .slice ra 0 rc:=by
    rcases G7 with ⟨rfl,-⟩ | ⟨b,rfl,-,-⟩
    ·exact⟨_,_,rfl⟩
    ·exact⟨_,_,rfl⟩
   have k27:=k5.trans k7
   have gb7:=k7 _ _ gb5
   have gm7:=k7 _ _ gm
   have gw7:=k27 _ _ (S.at M.words)
   repeat' first |simp(maxSteps:=2000000) (disch:=first |omega | (repeat first |assumption |exact Kept.refl _ |refine Kept.set' (by assumption) ?_ ?_ |refine Kept.set (by assumption) ?_ ?_ |omega)) only[go_sem, *] | (apply xs<;>intro _)<;>try omega |refine fun (_ _:List Nat)=>?_ | (first |refine aJ Tryz.func11 rfl ?_ ?_ ?_ ?_ |refine aJ Tryz.func14 rfl ?_ ?_ ?_ ?_ |refine aJ Tryz.func66 rfl ?_ ?_ ?_ ?_ |refine aJ Tryz.func15 rfl ?_ ?_ ?_ ?_ |refine aJ Tryz.func19 rfl ?_ ?_ ?_ ?_ |refine aJ Tryz.func21 rfl ?_ ?_ ?_ ?_ |refine aJ Tryz.func23 rfl ?_ ?_ ?_ ?_ |refine aJ Tryz.func25 rfl ?_ ?_ ?_ ?_ |fail)<;>intros
   refine iH (BG w7 gm7 gw7 (by omega)) (by simp only[*]) (by simp only[*]) (by simp only[go_sem, *]) (by simp only[go_sem, *]) ?_
   rintro r h8 n8 ⟨G8,k8,w8,hn8⟩
   have k28:=k27.trans k8
   have gb8:=k8 _ _ gb7
   have hrl:=fun h' hk z f d ops r K m n=>@cE _ _ _ _ h' hl0 z f d ops r K m n hk
   have k38:=kf.trans k28
   clear gb5 gb7 gm gm7 gw7 G7
   repeat' first |simp(maxSteps:=2000000) (disch:=first |omega | (repeat first |assumption |exact Kept.refl _ |refine Kept.set' (by assumption) ?_ ?_ |refine Kept.set (by assumption) ?_ ?_ |omega)) only[go_sem, *,HE] | (apply xs<;>intro _)<;>try omega |refine fun (_ _:List Nat)=>?_ | (first |refine aJ Tryz.func11 rfl ?_ ?_ ?_ ?_ |refine aJ Tryz.func14 rfl ?_ ?_ ?_ ?_ |refine aJ Tryz.func66 rfl ?_ ?_ ?_ ?_ |refine aJ Tryz.func15 rfl ?_ ?_ ?_ ?_ |refine aJ Tryz.func19 rfl ?_ ?_ ?_ ?_ |refine aJ Tryz.func21 rfl ?_ ?_ ?_ ?_ |refine aJ Tryz.func23 rfl ?_ ?_ ?_ ?_ |refine aJ Tryz.func25 rfl ?_ ?_ ?_ ?_ |fail)<;>intros
   have k9:Kept h8 (h8.set n8 (row ((jH l).map (.int .u64)))):=w8.kept (Nat.le_refl _)
   have w9:bL (h8.set n8 (row ((jH l).map (.int .u64)))) (n8+1):=w8.set (Nat.le_succ _) (Nat.lt_succ_self _)
   have g9:(h8.set n8 (row ((jH l).map (.int .u64)))).get n8=row ((jH l).map (.int .u64)):=bC
   generalize h8.set n8 _=h9 at*
   have hI:aW .u64 h9 (.slice (some ⟨n8,0,none⟩) sz sz) (jH l) := .inr ⟨n8,0,none,_,_,_,by rw[vk],g9,by simp,by rw[List.drop_zero];exact List.take_of_length_le (by simp)⟩
   have hE:cW Tryz.prog OB 18 [r,.slice (some ⟨n8,0,none⟩) sz sz] h9 (n8+1) fun v h' n'=>v = .bool true∧h9=h'∧n8+1=n':=(Bz (O:=OB) (jH l) (jH l) _ _ h9 (n8+1) (G8.keep k9) hI (by omega) (by omega)).mono (by rintro v h' n' ⟨rfl,e1,e2⟩;exact⟨by rw[decide_eq_true rfl],e1.symm,e2.symm⟩)
   refine iH (hE) (by simp only[*]) (by simp only[*]) (by simp only[go_sem, *]) (by simp only[go_sem, *]) ?_
   rintro v h10 n10 ⟨rfl,rfl,rfl⟩
   have k29:=k28.trans k9
   have gb9:=k29 _ _ gb
   have S9:=S.kept k29 w9
   obtain⟨-,⟨f2,f2'⟩,⟨f3,f3'⟩,⟨f4,f4'⟩,⟨f5,f5'⟩,-,-,-⟩:=cO hL.ok
   have hO:=Vt S9 E (by omega)
   have gm9:=S9.at M.mem
   have nm9:=S9.lt M.mem
   clear hE G8 hI hrl gb8 g9
   repeat' first |simp(maxSteps:=2000000) (disch:=first |omega | (repeat first |assumption |exact Kept.refl _ |refine Kept.set' (by assumption) ?_ ?_ |refine Kept.set (by assumption) ?_ ?_ |omega)) only[go_sem, *] | (apply xs<;>intro _)<;>try omega |refine fun (_ _:List Nat)=>?_ | (first |refine aJ Tryz.func11 rfl ?_ ?_ ?_ ?_ |refine aJ Tryz.func14 rfl ?_ ?_ ?_ ?_ |refine aJ Tryz.func66 rfl ?_ ?_ ?_ ?_ |refine aJ Tryz.func15 rfl ?_ ?_ ?_ ?_ |refine aJ Tryz.func19 rfl ?_ ?_ ?_ ?_ |refine aJ Tryz.func21 rfl ?_ ?_ ?_ ?_ |refine aJ Tryz.func23 rfl ?_ ?_ ?_ ?_ |refine aJ Tryz.func25 rfl ?_ ?_ ?_ ?_ |fail)<;>intros
   refine iH (hO) (by simp only[*]) (by simp only[*]) (by simp only[go_sem, *]) (by simp only[go_sem, *]) ?_
   rintro v h11 n11 ⟨rfl,q1,q2,q3⟩
   have anB:=q1 _ _ gb9
   have anC:=q1 _ _ gm9
   clear hO gb9 gm9
   have U4:Et (d rL) 0 = .slice none 0 0:=rfl
   repeat' first |simp(maxSteps:=2000000) (disch:=first |omega | (repeat first |assumption |exact Kept.refl _ |refine Kept.set' (by assumption) ?_ ?_ |refine Kept.set (by assumption) ?_ ?_ |omega)) only[go_sem, *,qB] | (apply xs<;>intro _)<;>try omega |refine fun (_ _:List Nat)=>?_ | (first |refine aJ Tryz.func11 rfl ?_ ?_ ?_ ?_ |refine aJ Tryz.func14 rfl ?_ ?_ ?_ ?_ |refine aJ Tryz.func66 rfl ?_ ?_ ?_ ?_ |refine aJ Tryz.func15 rfl ?_ ?_ ?_ ?_ |refine aJ Tryz.func19 rfl ?_ ?_ ?_ ?_ |refine aJ Tryz.func21 rfl ?_ ?_ ?_ ?_ |refine aJ Tryz.func23 rfl ?_ ?_ ?_ ?_ |refine aJ Tryz.func25 rfl ?_ ?_ ?_ ?_ |fail)<;>intros
end Go.Proofs.YtofmbmclopgldaaGreat
set_option linter.unusedVariables false
set_option linter.constructorNameAsVariable false
namespace Go.Proofs.YtofmbmclopgldaaGreat
open Go.Am Go.RowKit
theorem Lq:Tryz.prog.cellsOf 27=16:=by kernel_rfl
theorem Lr:Tryz.prog.cellsOf 24=3:=by kernel_rfl
theorem Ls:Tryz.prog.cellsOf 25=6:=by kernel_rfl
theorem Lt:Tryz.prog.cellsOf 22=1:=by kernel_rfl
theorem BH:Tryz.prog.cellsOf 3=1:=by kernel_rfl
theorem Ig:Tryz.prog.cellsOf 5=1:=by kernel_rfl
theorem Lu:Tryz.prog.cellsOf 57=1:=by kernel_rfl
theorem Lv:Tryz.prog.bytesOf 57=8:=by kernel_rfl
theorem zD:Tryz.prog.cellTypes Tryz.prog.depth 27=some [3,3,5,3,5,3,22,3,3,3,3,3,3,3,3,3]:=by kernel_rfl
theorem Qk {α:Type} {cs:List α} (h:cs.length=16):∃ c0 c1 c2 c3 c4 c5 c6 c7 c8 c9 KD KE Hu IY ME MF,cs=[c0,c1,c2,c3,c4,c5,c6,c7,c8,c9,KD,KE,Hu,IY,ME,MF]:=by
 match cs,h with
 | [c0,c1,c2,c3,c4,c5,c6,c7,c8,c9,KD,KE,Hu,IY,ME,MF],_=>exact⟨c0,c1,c2,c3,c4,c5,c6,c7,c8,c9,KD,KE,Hu,IY,ME,MF,rfl⟩
section
variable {H:Type} {enc:TypeId×Value→H} {w:World} {base:Nat} {held:Bool}
theorem cV {fuel:Nat} {t:TypeId} {k:IntKind} {c:Value} {y:DataW H×List MemPlace} (ht:Tryz.prog.underlying t=some (.int k)) (h:DataW.trod enc Tryz.prog w base (fun _=>true) held fuel t [c]=some y):∃ n,c = .int k n∧(Lit.int k n).wf=true:=by
 obtain⟨n,e,hw⟩:=trod_int ht h
 simp only[List.cons.injEq,and_true] at e
 exact⟨n,e,hw⟩
theorem zE {fuel:Nat} {c0 c1 c2 c3 c4 c5:Value} {y:DataW H×List MemPlace} (h:DataW.trod enc Tryz.prog w base (fun _=>true) held fuel 25 [c0,c1,c2,c3,c4,c5]=some y):
  ∃ t0 t1 t2 t3 t4 t5,(c0 = .int .i64 t0∧(Lit.int .i64 t0).wf=true)∧(c1 = .int .i64 t1∧(Lit.int .i64 t1).wf=true)∧(c2 = .int .i64 t2∧(Lit.int .i64 t2).wf=true)∧(c3 = .int .i64 t3∧(Lit.int .i64 t3).wf=true)∧(c4 = .int .i64 t4∧(Lit.int .i64 t4).wf=true)∧(c5 = .int .i64 t5∧(Lit.int .i64 t5).wf=true):=by
 obtain⟨-,fuel',ha⟩:=trod_array Tryz.underlying25 h
 rw[BH] at ha
 obtain⟨y0,h0⟩:=ha 0 (by omega)
 obtain⟨y1,h1⟩:=ha 1 (by omega)
 obtain⟨y2,h2⟩:=ha 2 (by omega)
 obtain⟨y3,h3⟩:=ha 3 (by omega)
 obtain⟨y4,h4⟩:=ha 4 (by omega)
 obtain⟨y5,h5⟩:=ha 5 (by omega)
 obtain⟨t0,p0⟩:=cV Tryz.underlying3 h0
 obtain⟨t1,p1⟩:=cV Tryz.underlying3 h1
 obtain⟨t2,p2⟩:=cV Tryz.underlying3 h2
 obtain⟨t3,p3⟩:=cV Tryz.underlying3 h3
 obtain⟨t4,p4⟩:=cV Tryz.underlying3 h4
 obtain⟨t5,p5⟩:=cV Tryz.underlying3 h5
 exact⟨t0,t1,t2,t3,t4,t5,p0,p1,p2,p3,p4,p5⟩
set_option maxRecDepth 100000 in
theorem Ih {v:Value} {d:DataW H} {p:List MemPlace} {base':Nat} (hok:Value.okWide Tryz.prog w .any base' 27 v) (h:DataW.Trod enc Tryz.prog w base (fun _=>true) held 27 v d p) (hz:∀ n∈d.weights Tryz.prog 27,n≤reachBytes):
  ∃ th sl en bu kd dn t0 t1 t2 t3 t4 t5 lo tr ba s' vs s xs,v = .agg ⟨[.int .i64 th,.int .i64 sl,.int .u8 en,.int .i64 bu,.int .u8 kd,.int .i64 dn,s',.int .i64 t0,.int .i64 t1,.int .i64 t2,.int .i64 t3,.int .i64 t4,.int .i64 t5,.int .i64 lo,.int .i64 tr,.int .i64 ba]⟩∧
   AZ vs w∧aA (kW vs) s s'∧aW .u64 (qC vs) s xs∧xs.length≤reachBytes∧(∀ n∈xs,(Lit.int .u64 n).wf=true)∧
   ((Lit.int .i64 th).wf=true∧(Lit.int .i64 sl).wf=true∧(Lit.int .u8 en).wf=true∧(Lit.int .i64 bu).wf=true∧(Lit.int .u8 kd).wf=true∧(Lit.int .i64 dn).wf=true)∧
   ((Lit.int .i64 t0).wf=true∧(Lit.int .i64 t1).wf=true∧(Lit.int .i64 t2).wf=true∧(Lit.int .i64 t3).wf=true∧(Lit.int .i64 t4).wf=true∧(Lit.int .i64 t5).wf=true)∧
   ((Lit.int .i64 lo).wf=true∧(Lit.int .i64 tr).wf=true∧(Lit.int .i64 ba).wf=true)∧(∀ a n c,s = .slice a n c→n≤c∧c<aB):=by
 unfold Value.okWide at hok
 rw[Tryz.underlying27] at hok
 obtain⟨⟨cs⟩,rfl,hsz,ts,hts,-,hcell⟩:=hok
 rw[zD] at hts
 obtain rfl:=Option.some.inj hts
 rw[Lq] at hsz
 obtain⟨c0,c1,c2,c3,c4,c5,c6,c7,c8,c9,KD,KE,Hu,IY,ME,MF,e⟩:=Qk hsz
 subst e
 obtain⟨fuel,h⟩:=h
 obtain⟨-,fuel',parts,hp,ha⟩:=lW Tryz.underlying27 h
 obtain⟨y0,-,h0⟩:=ha 0 _ rfl
 obtain⟨y1,-,h1⟩:=ha 1 _ rfl
 obtain⟨y2,-,h2⟩:=ha 2 _ rfl
 obtain⟨y3,-,h3⟩:=ha 3 _ rfl
 obtain⟨y4,q4,h4⟩:=ha 4 _ rfl
 obtain⟨y5,-,h5⟩:=ha 5 _ rfl
 obtain⟨y6,-,h6⟩:=ha 6 _ rfl
 obtain⟨y7,-,h7⟩:=ha 7 _ rfl
 obtain⟨y8,-,h8⟩:=ha 8 _ rfl
 simp only[BH,Ig,Lr,Ls] at h0 h1 h2 h3 h4 h5 h6 h7 h8
 obtain⟨th,rfl,w0⟩:=cV Tryz.underlying3 h0
 obtain⟨sl,rfl,w1⟩:=cV Tryz.underlying3 h1
 obtain⟨en,rfl,w2⟩:=cV Tryz.underlying5 h2
 obtain⟨bu,rfl,w3⟩:=cV Tryz.underlying3 h3
 obtain⟨t0,t1,t2,t3,t4,t5,⟨rfl,x0⟩,⟨rfl,x1⟩,⟨rfl,x2⟩,⟨rfl,x3⟩,⟨rfl,x4⟩,⟨rfl,x5⟩⟩:=zE h5
 obtain⟨lo,rfl,w6⟩:=cV Tryz.underlying3 h6
 obtain⟨tr,rfl,w7⟩:=cV Tryz.underlying3 h7
 obtain⟨ba,rfl,w8⟩:=cV Tryz.underlying3 h8
 obtain⟨-,fuel2,adw,hp2,hb⟩:=lW Tryz.underlying24 h4
 obtain⟨z0,-,g0⟩:=hb 0 _ rfl
 obtain⟨z1,-,g1⟩:=hb 1 _ rfl
 obtain⟨z2,r2,g2⟩:=hb 2 _ rfl
 simp only[BH,Ig,Lt] at g0 g1 g2
 obtain⟨kd,rfl,w4⟩:=cV Tryz.underlying5 g0
 obtain⟨dn,rfl,w5⟩:=cV Tryz.underlying3 g1
 obtain⟨vs,s,s',xs,e,hvs,NI,hin,hlen,hwf,hcp⟩:=open_ints (base':=base') Tryz.underlying22 Tryz.underlying57 Lu (by rw[Lv];omega) g2
  (fun v hv=>by
   obtain⟨u,hu,hc⟩:=hcell 6 v hv
   simp at hu
   subst hu
   exact hc)
  (fun n hn=>by
   refine hz n ?_
   have e1:=lX (P:=Tryz.prog) (j:=2) Tryz.underlying24 rfl r2 n hn
   rw[←hp2] at e1
   have e2:=lX (P:=Tryz.prog) (j:=4) Tryz.underlying27 rfl q4 n e1
   rw[←hp] at e2
   exact e2)
 cases e
 exact⟨th,sl,en,bu,kd,dn,t0,t1,t2,t3,t4,t5,lo,tr,ba,_,vs,s,xs,rfl,hvs,NI,hin,hlen,hwf,⟨w0,w1,w2,w3,w4,w5⟩,⟨x0,x1,x2,x3,x4,x5⟩,⟨w6,w7,w8⟩,hcp⟩
end
end Go.Proofs.YtofmbmclopgldaaGreat
set_option linter.unusedVariables false
namespace Go.Proofs.YtofmbmclopgldaaGreat
open Go.Am
theorem Ii (th sl en bu kd dn t0 t1 t2 t3 t4 t5 lo tr ba:Int) (s0:Value) (xs:List Int) (h:PT ak) (N:Nat) (hW:bL h N) (hs:aW .u64 h s0 xs) (hl:xs.length≤reachBytes):
  cW Tryz.prog OB 3 [.agg ⟨[.int .i64 th,.int .i64 sl,.int .u8 en,.int .i64 bu,.int .u8 kd,.int .i64 dn,s0,.int .i64 t0,.int .i64 t1,.int .i64 t2,.int .i64 t3,.int .i64 t4,.int .i64 t5,.int .i64 lo,.int .i64 tr,.int .i64 ba]⟩] h N fun v h' n'=>v = .bool true:=by
 obtain⟨a,c,rfl,-⟩:=hs.len
 have:reachBytes<1000000000000000:=by decide
 exact Ie th sl en bu kd dn t0 t1 t2 t3 t4 t5 lo tr ba h N hW hs (by omega)
end Go.Proofs.YtofmbmclopgldaaGreat
