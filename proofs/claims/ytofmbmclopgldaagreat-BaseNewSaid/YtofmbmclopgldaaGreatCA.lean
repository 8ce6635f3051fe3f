/-
  A part of the proof: contracts of inner functions.
-/
import Derived.Test.YtofmbmclopgldaaGreatBW
import Derived.Test.YtofmbmclopgldaaGreatBV
set_option linter.unusedVariables false
set_option linter.unusedSimpArgs false
namespace Go.Proofs.YtofmbmclopgldaaGreat
open Go.Am
variable {O:Over}
theorem xg {xs ys:List Int} {i:Nat} (h1:i<xs.length) (h2:i<ys.length) (h:xs.take i=ys.take i) (e:xs.getD i 0=ys.getD i 0):xs.take (i+1)=ys.take (i+1):=by
 rw[List.take_add_one,List.take_add_one,h]
 simp[List.getD,h1,h2] at e
 simp[h1,h2,e]
theorem zw (n a:Nat):(n.ble a&&a.blt n)=false:=by
 cases h:n.ble a
 ·rfl
 ·have:=Nat.le_of_ble_eq_true h
  cases h2:a.blt n
  ·rfl
  ·have:=Nat.le_of_ble_eq_true h2
   omega
theorem Li {xs ys:List Int} {i:Nat} (e: ¬ xs.getD i 0=ys.getD i 0): ¬ xs=ys:=fun h=>e (by rw[h])
end Go.Proofs.YtofmbmclopgldaaGreat
set_option linter.unusedVariables false
set_option linter.unusedSimpArgs false
namespace Go.Proofs.YtofmbmclopgldaaGreat
open Go.Am
variable {O:Over}
set_option maxRecDepth 100000 in
set_option maxHeartbeats 4000000 in
theorem Bz (xs ys:List Int) (s t:Value) (h:PT ak) (n:Nat) (hs:aW .u64 h s xs) (ht:aW .u64 h t ys) (hl:xs.length<1000000) (Vy:ys.length<1000000):
  cW Tryz.prog O 18 [s,t] h n fun v h' n'=>v = .bool (decide (xs=ys))∧h'=h∧n'=n:=by
 obtain⟨a,cap,rfl,hA⟩:=hs.len
 obtain⟨b,adj,rfl,hB⟩:=ht.len
 clear hs ht
 refine ay (N:=26) Tryz.func18 rfl rfl fun z hP hO hro hN hQ=>?_
 by_cases hlen:xs.length=ys.length
 ·have Kj:(xs.length:Int)=ys.length:=by omega
  repeat' first |simp(maxSteps:=2000000) (disch:=first |omega |assumption) only[go_sem, *] | (apply xs<;>intro _)<;>try omega | ((with_reducible refine ep 6 ?_);refine dw 26 6 yT (by first | (simp only[go_sem, *];done) |rfl) (by kernel_rfl) (by kernel_rfl) ?_)
  refine bY (fun t m h' n'=>h'=h∧n'=n∧∃ i:Nat,i≤xs.length∧t=xs.length-i∧xs.take i=ys.take i∧m.n=26∧m.eS=[]∧m.get 0 = .slice a xs.length cap∧m.get 1 = .slice b ys.length adj∧m.get 5 = .int .i64 i) xs.length ?_ ?_
  ·refine⟨rfl,rfl,0,by omega,by omega,rfl,?_⟩
   simp(maxSteps:=2000000) (disch:=first |omega |assumption) only[go_sem, *]
  ·rintro t m h n ih ⟨rfl,rfl,i,hi,rfl,D2,m1,m2,m3,m4,m5⟩
   rcases Nat.lt_or_ge i xs.length with hlt |hge
   ·obtain⟨bk,off,sp,L,ro,rfl,hb,hL⟩:=hA i hlt
    obtain⟨bk2,off2,sp2,L2,Cr,rfl,uC,ZW⟩:=hB i (by omega)
    have e1:(i:Int)<xs.length:=by omega
    have e2:(i:Int)<ys.length:=by omega
    clear hA hB
    by_cases e3:xs.getD i 0=ys.getD i 0
    ·rw[e3] at hL
     have adk:=xg hlt (by omega) D2 e3
     repeat' first |simp(maxSteps:=2000000) (disch:=first |omega |assumption) only[go_sem, *,zw] | (apply xs<;>intro _)<;>try omega | ((with_reducible refine ep 6 ?_);refine dw 26 6 yT (by first | (simp only[go_sem, *];done) |rfl) (by kernel_rfl) (by kernel_rfl) ?_)
     refine ih (xs.length-(i+1)) _ _ _ (by omega) ⟨rfl,rfl,i+1,by omega,by omega,adk,?_⟩
     simp(maxSteps:=2000000) (disch:=first |omega |assumption) only[go_sem, *]
     simp
    ·have hxy:=Li e3
     repeat' first |simp(maxSteps:=2000000) (disch:=first |omega |assumption) only[go_sem, *,zw] | (apply xs<;>intro _)<;>try omega | ((with_reducible refine ep 6 ?_);refine dw 26 6 yT (by first | (simp only[go_sem, *];done) |rfl) (by kernel_rfl) (by kernel_rfl) ?_)
   ·have e1: ¬ (i:Int)<xs.length:=by omega
    have e2: ¬ (i:Int)<ys.length:=by omega
    have hxy:xs=ys:=by
     have:=D2
     rwa [List.take_of_length_le hge,List.take_of_length_le (by omega)] at this
    repeat' first |simp(maxSteps:=2000000) (disch:=first |omega |assumption) only[go_sem, *] | (apply xs<;>intro _)<;>try omega | ((with_reducible refine ep 6 ?_);refine dw 26 6 yT (by first | (simp only[go_sem, *];done) |rfl) (by kernel_rfl) (by kernel_rfl) ?_)
 ·have Kj: ¬ (xs.length:Int)=ys.length:=by omega
  have hxy: ¬ xs=ys:=fun e=>hlen (by rw[e])
  repeat' first |simp(maxSteps:=2000000) (disch:=first |omega |assumption) only[go_sem, *] | (apply xs<;>intro _)<;>try omega | ((with_reducible refine ep 6 ?_);refine dw 26 6 yT (by first | (simp only[go_sem, *];done) |rfl) (by kernel_rfl) (by kernel_rfl) ?_)
end Go.Proofs.YtofmbmclopgldaaGreat
set_option linter.unusedVariables false
set_option linter.unusedSimpArgs false
namespace Go.Proofs.YtofmbmclopgldaaGreat
open Go.Am
theorem ud {X:List Int}:List.take X.length (X.map (Value.int .i64))=X.map (.int .i64):=List.take_of_length_le (by simp)
def fl (o:Nat→Option Bool) (rt:Bool) (L:List Int):List Int:=L.filter fun t=>decide (o t.toNat=some rt)
theorem Vm {o:Nat→Option Bool} {rt:Bool} {L:List Int} {i:Nat} (hi:i<L.length) (h:o (L.getD i 0).toNat=some rt):fl o rt (L.take (i+1))=fl o rt (L.take i)++[L.getD i 0]:=by
 unfold fl
 rw[List.take_succ_eq_append_getElem hi,List.filter_append]
 simp only[List.getD,hi,List.getElem?_eq_getElem,Option.getD_some] at h ⊢
 simp[h]
theorem Qa {o:Nat→Option Bool} {rt:Bool} {L:List Int} {i:Nat} (hi:i<L.length) (h:o (L.getD i 0).toNat≠some rt):fl o rt (L.take (i+1))=fl o rt (L.take i):=by
 unfold fl
 rw[List.take_succ_eq_append_getElem hi,List.filter_append]
 simp only[List.getD,hi,List.getElem?_eq_getElem,Option.getD_some] at h
 simp[h]
theorem Qb {o:Nat→Option Bool} {rt:Bool} {L:List Int}:(fl o rt L).length≤L.length:=List.length_filter_le _ _
set_option maxRecDepth 100000 in
set_option maxHeartbeats 16000000 in
theorem ofB {h:PT ak} {n bb pb rb gb ob rk xk:Nat} {R X:List bG} {G:List Int} (H:Lh h n bb pb rb gb ob R rk X xk G) (hX:kY X xk) (o:Nat→Option Bool) (ho:∀ t∈cj X,∃ (u:Nat) (x:Int),t=u∧(1≤u∧u≤G.length)∧G[u-1]? = some x∧Rs R u x (o u)) (rt:Bool):
  cW Tryz.prog OB 68 [pt bb,.bool rt] h n fun r h' n'=>bB .i64 h' n r (fl o rt (cj X))∧Kept h h'∧bL h' n'∧n≤n':=by
 have H0:=H
 obtain⟨W,⟨a0,a1,a3,a4,a5,a6,a7,g1⟩,g2,⟨b0,b1,b2,b3,g3⟩,g4,g5,g6⟩:=H
 have n1:=W.lt g1
 have TT:=hX.len
 have Vl:X.length=(cj X).length:=dG.symm
 refine ay (N:=40) Tryz.func68 rfl rfl fun z hP hO hro hN hQ=>?_
 repeat' first |simp(maxSteps:=2000000) (disch:=first |omega |assumption) only[go_sem, *,uv] | (apply xs<;>intro _)<;>try omega
 rw[rH g3 g5 hX]
 by_cases Er:X.length=0
 ·rw[if_pos Er]
  have ho2:cj X=[]:=List.length_eq_zero_iff.1 (by omega)
  have hfl:fl o rt (cj X)=[]:=by rw[ho2];rfl
  clear ho
  repeat' first |simp(maxSteps:=2000000) (disch:=first |omega |assumption) only[go_sem, *] | (apply xs<;>intro _)<;>try omega
  rw[bX]
  repeat' first |simp(maxSteps:=2000000) (disch:=first |omega |assumption) only[go_sem, *] | (apply xs<;>intro _)<;>try omega
  first |exact⟨.inl ⟨rfl,hfl⟩,Nat.le_refl _⟩ |exact⟨.inl ⟨rfl,rfl⟩,Nat.le_refl _⟩ |exact⟨.inl ⟨rfl,rfl⟩,Kept.refl _,Nat.le_refl _⟩
 ·rw[if_neg Er,Vl]
  have k4:Kept h (h.set n (row ((cj X).map (.int .i64)))):=W.kept (Nat.le_refl _)
  have W4:bL (h.set n (row ((cj X).map (.int .i64)))) (n+1):=W.set (Nat.le_succ _) (Nat.lt_succ_self _)
  have hrow:(h.set n (row ((cj X).map (.int .i64)))).get n=row ((cj X).map (.int .i64)):=bC
  generalize h.set n _=h4 at*
  repeat' first |simp(maxSteps:=2000000) (disch:=first |omega |assumption) only[go_sem, *] | (apply xs<;>intro _)<;>try omega
  refine bY (fun t m h' n'=>∃ (i:Nat) (sl:Value),i≤(cj X).length∧t=(cj X).length-i∧m.n=40∧m.eS=[]∧m.get 0=pt bb∧m.get 1 = .bool rt∧m.get 5=sl∧m.get 15 = .slice (some ⟨n,0,none⟩) (cj X).length (aB+1)∧m.get 16=I6 (cj X).length∧m.get 17=I6 i∧Kept h h'∧bL h' n'∧n+1≤n'∧h'.get n=row ((cj X).map (.int .i64))∧bB .i64 h' (n+1) sl (fl o rt ((cj X).take i))) (cj X).length ?_ ?_
  ·refine⟨0,.slice none 0 0,by omega,by omega,?_⟩
   simp(maxSteps:=2000000) (disch:=first |omega |assumption) only[go_sem, *]
   exact⟨Nat.le_refl _,.inl ⟨rfl,rfl⟩⟩
  ·clear hrow W4 k4
   rintro tt m h1 n1' ih ⟨i,sl,hi,rfl,m1,m2,m3,m4,m5,m6,m7,m8,q1,q2,q3,q4,q5⟩
   by_cases hlt:i<(cj X).length
   ·have e7:(i:Int)<(cj X).length:=by omega
    have hgi:((cj X).map (Value.int .i64))[i]? = some (.int .i64 ((cj X).getD i 0)):=by rw[List.getElem?_map,List.getElem?_eq_getElem hlt];simp[List.getD,hlt]
    obtain⟨u,x,hu,hu1,hu2,hu3⟩:=ho ((cj X).getD i 0) (by simp[List.getD,hlt])
    have rg:=mF (H0.keep q1 q2) hu1 hu2 hu3
    have KT:(i:Int)+1=((i+1:Nat):Int):=by omega
    have RU:=@Vm o rt (cj X) i hlt
    have hfo:=@Qa o rt (cj X) i hlt
    rw[hu] at hgi RU hfo
    rw[Int.toNat_natCast] at RU hfo
    clear ho hu hu3
    generalize hT:cj X=L at*
    clear hT
    repeat' first |simp(maxSteps:=2000000) (disch:=first |omega |assumption) only[go_sem, *] | (apply xs<;>intro _)<;>try omega
    refine iH (rg) (by simp only[*]) (by simp only[*]) (by simp only[go_sem, *]) (by simp only[go_sem, *]) ?_
    rintro r h2 n2 ⟨⟨g,q,rfl,hq⟩,k2,W2,hn2⟩
    have K2:=q1.trans k2
    have q4':=k2 _ _ q4
    have gk:∀ {h':PT ak},Kept h1 h'→bB .i64 h' (n+1) sl (fl o rt (L.take i)):=fun k=>by
     rcases q5 with c | ⟨b,c1,c2,c3⟩
     ·exact .inl c
     ·exact .inr ⟨b,c1,c2,k _ _ c3⟩
    have kk:Kept h1 ((h2.set n2 (row [.int .i64 0,.bool false])).set n2 (row [I6 g,.bool q])):=Kept.set' q2 hn2 (Kept.set' q2 hn2 k2)
    have ww:bL ((h2.set n2 (row [.int .i64 0,.bool false])).set n2 (row [I6 g,.bool q])) (n2+1):=(W2.set (Nat.le_succ _) (Nat.lt_succ_self _)).set (Nat.le_refl _) (Nat.lt_succ_self _)
    have kq:=gk kk
    clear q5 gk
    have zx: ¬ o u=some rt→fl o rt (L.take (i+1))=fl o rt (L.take i):=hfo
    cases hou:o u with
    |none=>
     have hf:=zx (by rw[hou];simp)
     clear RU hfo zx
     repeat' first |simp(maxSteps:=2000000) (disch:=first |omega |assumption) only[go_sem, *,Option.isSome_none] | (apply xs<;>intro _)<;>try omega
     refine ih (L.length-(i+1)) _ _ _ (by omega) ⟨i+1,sl,by omega,rfl,?_⟩
     rw[hf]
     clear ih
     simp(maxSteps:=2000000) (disch:=first |omega |assumption) only[go_sem, *]
     exact⟨q1.trans kk,by omega⟩
    |some q0=>
     obtain⟨rfl,rfl⟩:=hq q0 hou
     by_cases hqr:q=rt
     ·have hf:=RU (by rw[hou,hqr])
      clear RU hfo zx hq
      subst hqr
      have hbq:(q==q)=true:=by simp
      have Vu:(fl o q (L.take i)).length≤1025:=Nat.le_trans Qb (by rw[List.length_take];omega)
      generalize hF:fl o q (L.take i)=F at*
      rcases kq with ⟨rfl,rfl⟩ | ⟨b,rfl,w2,w3⟩
      ·repeat' first |simp(maxSteps:=2000000) (disch:=first |omega |assumption) only[go_sem, *,Option.isSome_some] | (apply xs<;>intro _)<;>try omega
       refine ih (L.length-(i+1)) _ _ _ (by omega) ⟨i+1,.slice (some ⟨n2+1+1,0,none⟩) 1 (aB+1),by omega,rfl,?_⟩
       rw[hf]
       clear ih
       simp(maxSteps:=2000000) (disch:=first |omega |assumption) only[go_sem, *]
       refine⟨Kept.set' W (by omega) (Kept.set' W (by omega) (q1.trans kk)),(ww.set (Nat.le_succ _) (Nat.lt_succ_self _)).set (Nat.le_succ _) (Nat.lt_succ_self _),by omega,.inr ⟨n2+1+1,rfl,by omega,bC⟩⟩
      ·have R2:=ww.lt w3
       have D2:=ud (X:=F)
       have KN:Nat.ble (F.length+1) 1048576=true:=Nat.ble_eq_true_of_le (by omega)
       have hsn:F.map (Value.int .i64)++[.int .i64 (u:Int)]=(F++[(u:Int)]).map (.int .i64):=by simp
       repeat' first |simp(maxSteps:=2000000) (disch:=first |omega |assumption) only[go_sem, *,Option.isSome_some] | (apply xs<;>intro _)<;>try omega
       refine ih (L.length-(i+1)) _ _ _ (by omega) ⟨i+1,.slice (some ⟨n2+1+1,0,none⟩) (F.length+1) (aB+1),by omega,rfl,?_⟩
       rw[hf]
       clear ih
       simp(maxSteps:=2000000) (disch:=first |omega |assumption) only[go_sem, *]
       refine⟨Kept.set' W (by omega) (Kept.set' W (by omega) (Kept.set' W (by omega) (q1.trans kk))),(((ww.set (m:=n2+1+1+1) (by omega) (by omega)).set (Nat.le_refl _) (by omega)).set (Nat.le_refl _) (by omega)),by omega,.inr ⟨n2+1+1,by simp,by omega,bC⟩⟩
     ·have hf:=zx (by rw[hou];simpa using hqr)
      have hbq:(q==rt)=false:=by simpa using hqr
      clear RU hfo zx
      repeat' first |simp(maxSteps:=2000000) (disch:=first |omega |assumption) only[go_sem, *,Option.isSome_some] | (apply xs<;>intro _)<;>try omega
      refine ih (L.length-(i+1)) _ _ _ (by omega) ⟨i+1,sl,by omega,rfl,?_⟩
      rw[hf]
      clear ih
      simp(maxSteps:=2000000) (disch:=first |omega |assumption) only[go_sem, *]
      exact⟨q1.trans kk,by omega⟩
   ·have e7: ¬ (i:Int)<(cj X).length:=by omega
    rw[List.take_of_length_le (by omega)] at q5
    clear ih ho
    repeat' first |simp(maxSteps:=2000000) (disch:=first |omega |assumption) only[go_sem, *] | (apply xs<;>intro _)<;>try omega
    refine⟨?_,by omega⟩
    rcases q5 with c | ⟨b,c1,c2,c3⟩
    ·exact .inl c
    ·exact .inr ⟨b,c1,by omega,c3⟩
set_option maxRecDepth 100000 in
theorem xh {h:PT ak} {n bb pb rb gb ob rk xk:Nat} {R X:List bG} {G:List Int} (H:Lh h n bb pb rb gb ob R rk X xk G) (hX:kY X xk) (o:Nat→Option Bool) (ho:∀ t∈cj X,∃ (u:Nat) (x:Int),t=u∧(1≤u∧u≤G.length)∧G[u-1]? = some x∧Rs R u x (o u)):
  cW Tryz.prog OB 17 [pt bb] h n fun r h' n'=>bB .i64 h' n r (fl o false (cj X))∧Kept h h'∧bL h' n'∧n≤n':=by
 have of:=ofB H hX o ho false
 refine ay (N:=7) Tryz.func17 rfl rfl fun z hP hO hro hN hQ=>?_
 repeat' first |simp(maxSteps:=2000000) (disch:=first |omega |assumption) only[go_sem, *] | (apply xs<;>intro _)<;>try omega
 refine iH (of) (by simp only[*]) (by simp only[*]) (by simp only[go_sem, *]) (by simp only[go_sem, *]) ?_
 rintro r h2 n2 ⟨q1,q2,q3,q4⟩
 repeat' first |simp(maxSteps:=2000000) (disch:=first |omega |assumption) only[go_sem, *] | (apply xs<;>intro _)<;>try omega
end Go.Proofs.YtofmbmclopgldaaGreat
set_option linter.unusedVariables false
set_option linter.unusedSimpArgs false
namespace Go.Proofs.YtofmbmclopgldaaGreat
open Go.Am
def ko (k:Int):Option Bool:=if k=2 then some false else if k=3 then some true else none
def xm (p:Int→Bool) (K:List Int) (m:Nat):List Int:=((List.range m).filter fun i=>p (K.getD (i+1) 0)).map fun i:Nat=>((i+1:Nat):Int)
theorem Qc {p:Int→Bool} {K:List Int} {m:Nat} (h:p (K.getD (m+1) 0)=true):xm p K (m+1)=xm p K m++[((m+1:Nat):Int)]:=by
 unfold xm;rw[List.range_succ,List.filter_append,List.map_append,List.filter_cons_of_pos (p:=fun i=>p (K.getD (i+1) 0)) h];rfl
theorem Lj {p:Int→Bool} {K:List Int} {m:Nat} (h:p (K.getD (m+1) 0)=false):xm p K (m+1)=xm p K m:=by
 unfold xm;rw[List.range_succ,List.filter_append,List.map_append,List.filter_cons_of_neg (p:=fun i=>p (K.getD (i+1) 0)) (by show ¬p (K.getD (m+1) 0)=true;rw[h];simp)];simp
theorem Cz {p:Int→Bool} {K:List Int} {m:Nat} {x:Int}:x∈xm p K m↔∃ u:Nat,x=u∧1≤u∧u≤m∧p (K.getD u 0)=true:=by
 unfold xm
 rw[List.mem_map]
 constructor
 ·rintro ⟨i,hi,rfl⟩
  rw[List.mem_filter,List.mem_range] at hi
  exact⟨i+1,rfl,by omega,by omega,hi.2⟩
 ·rintro ⟨u,rfl,h1,h2,h3⟩
  refine⟨u-1,?_,by omega⟩
  rw[List.mem_filter,List.mem_range,show u-1+1=u by omega]
  exact⟨by omega,h3⟩
theorem BA {p:Int→Bool} {K:List Int} {m:Nat}:(xm p K m).Pairwise (·<·):=by
 induction m with
 |zero=>exact List.Pairwise.nil
 |succ m ih=>
  cases h:p (K.getD (m+1) 0) with
  |true=>
   rw[Qc h,List.pairwise_append]
   refine⟨ih,List.pairwise_singleton _ _,fun a ha b hb=>?_⟩
   obtain⟨u,rfl,-,h2,-⟩:=Cz.1 ha
   rw[List.mem_singleton] at hb
   omega
  |false=>rw[Lj h];exact ih
theorem uf:∀ {l m:List Int},l.Pairwise (·<·)→m.Pairwise (·<·)→(∀ x,x∈l↔x∈m)→l=m
 | [],[],_,_,_=>rfl
 | [],y::m,_,_,h=>by have:=(h y).2 (by simp);simp at this
 |x::l,[],_,_,h=>by have:=(h x).1 (by simp);simp at this
 |x::l,y::m,h1,h2,h=>by
  obtain⟨a1,a2⟩:=List.pairwise_cons.1 h1
  obtain⟨b1,b2⟩:=List.pairwise_cons.1 h2
  have hxy:x=y:=by
   rcases List.mem_cons.1 ((h x).1 (by simp)) with e |e
   ·exact e
   ·rcases List.mem_cons.1 ((h y).2 (by simp)) with e2 |e2
    ·exact e2.symm
    ·have:=a1 y e2;have:=b1 x e;omega
  subst hxy
  congr 1
  refine uf a2 b2 fun z=>⟨fun hz=>?_,fun hz=>?_⟩
  ·rcases List.mem_cons.1 ((h z).1 (by simp[hz])) with e |e
   ·have:=a1 z hz;omega
   ·exact e
  ·rcases List.mem_cons.1 ((h z).2 (by simp[hz])) with e |e
   ·have:=b1 z hz;omega
   ·exact e
theorem zA {X:List bG} {xk:Nat} (H:kY X xk):(cj X).Pairwise (·<·):=by
 have h1:=kG (X.map fun e=>e.1)
 have h2:(cj X).Nodup:=(jf _).nodup_iff.2 H.nd
 exact List.Pairwise.imp (fun {a b} (h:a≤b∧a≠b)=>by omega) (h1.and h2)
structure Ri (n:Nat) (H:List Int) (stk:Nat→List Nat) (X:List bG) (xk:Nat) (G:List Int) (R:List bG) (K:List Int) (b:Int):Prop where
 BD:K.length=n+1
 k0:K.getD 0 0=0
 kv:∀ u,0≤K.getD u 0∧K.getD u 0≤3
 n1:n≤1024
 Eb:G.length=n
 free:∀ j t,j<6→t∈stk j→K.getD t 0=0
 ox:kY X xk
 out:∀ x,(∃ e∈X,e.1=x)↔∃ u:Nat,x=u∧1≤u∧u≤n∧K.getD u 0≠0
 gb:∀ u,0≤G.getD u 0∧G.getD u 0≤b
 rs:∀ u,1≤u→u≤n→Rs R u (G.getD (u-1) 0) (ko (K.getD u 0))
 rb:∀ u i v,1≤u→u≤n→bg ((u:Nat):Int) R 0=some (i,v)→∃ g r,v = .agg ⟨[.int .i64 g,.bool r]⟩∧g≤G.getD (u-1) 0
section
variable {n xk:Nat} {H G K:List Int} {stk:Nat→List Nat} {X R:List bG} {b:Int}
theorem Ri.MU (I:Ri n H stk X xk G R K b):cj X=xm (fun k=>decide (k≠0)) K n:=by
 refine uf (zA I.ox) BA fun x=>?_
 rw[o7,I.out x,Cz]
 simp only[decide_eq_true_eq]
theorem BF {p:Int→Bool} {o:Nat→Option Bool} {rt:Bool} {m:Nat} {q:Int→Bool} (h:∀ u,(p (K.getD u 0)&&decide (o u=some rt))=q (K.getD u 0)):fl o rt (xm p K m)=xm q K m:=by
 unfold fl xm
 rw[List.filter_map,List.filter_filter]
 congr 1
 refine List.filter_congr fun i _=>?_
 rw[←h (i+1),Bool.and_comm]
 rfl
theorem Ri.linked (I:Ri n H stk X xk G R K b):fl (fun u=>ko (K.getD u 0)) false (cj X)=xm (fun k=>decide (k=2)) K n:=by
 rw[I.MU]
 refine BF fun u=>?_
 generalize K.getD u 0=k
 simp only[ko]
 by_cases c:k=2
 ·subst c;simp
 ·by_cases c3:k=3
  ·subst c3;simp
  ·simp[c,c3]
end
end Go.Proofs.YtofmbmclopgldaaGreat
set_option linter.unusedVariables false
set_option linter.unusedSimpArgs false
namespace Go.Proofs.YtofmbmclopgldaaGreat
open Go.Am
section
variable {h1 h h':PT ak} {n1 n n' lb:Nat} {l:cK} {mk ev:Value} {p5 p6:Nat} {W:List Int} {stk:Nat→List Nat} {tag:Nat→Int} {X:List bG} {xk:Nat} {G:List Int} {R:List bG} {rk k:Nat} {d d':Rl→Nat} {C C':Rl→Option ak} {Y:List Nat} {K:List Int} {b:Int}
theorem Po.keep (P:Po h1 n1 lb l mk ev p5 p6 W stk tag X xk G R rk k d C h n) (q:Kept h h') (w:bL h' n') (hn:n≤n'):Po h1 n1 lb l mk ev p5 p6 W stk tag X xk G R rk k d C h' n':=by
 obtain⟨P1,S,F,M,B,K0,e5,e6,hp,hH,hlk,zK⟩:=P
 exact⟨Nat.le_trans P1 hn,S.kept q w,F,M,B,K0,e5,e6,hp,hH,hlk,zK⟩
theorem Po.rg (P:Po h1 n1 lb l mk ev p5 p6 W stk tag X xk G R rk k d C h n):Lh h n (d (70,0)) (d (75,0)) (d (74,0)) (d (77,0)) (d (76,0)) R rk X xk G:=by
 obtain⟨P1,S,F,M,B,K0,e5,e6,hp,hH,hlk,zK⟩:=P
 exact⟨S.wf,⟨_,_,_,_,_,_,_,S.at B.base⟩,S.at B.reg,⟨_,_,_,_,S.at B.pool⟩,S.at B.HU,S.at B.out,by omega⟩
theorem Ri.ho (I:Ri n l.H stk X xk G R K b):∀ t∈cj X,∃ (u:Nat) (x:Int),t=u∧(1≤u∧u≤G.length)∧G[u-1]? = some x∧Rs R u x (ko (K.getD u 0)):=fun t ht=>by
 obtain⟨u,rfl,u1,u2,-⟩:=(I.out t).1 (o7.1 ht)
 have hl:u-1<G.length:=by rw[I.Eb];omega
 exact⟨u,G.getD (u-1) 0,rfl,⟨u1,by rw[I.Eb];exact u2⟩,by simp[List.getD,hl],I.rs u u1 u2⟩
end
def Bs (h1:PT ak) (n1 lb:Nat) (l:cK) (mk ev:Value) (p5 p6:Nat) (b:Int) (k:Nat) (K:List Int) (d:Rl→Nat) (C:Rl→Option ak) (h:PT ak) (n:Nat):Prop:=
 ∃ W stk tag X xk G R rk,Po h1 n1 lb l mk ev p5 p6 W stk tag X xk G R rk k d C h n∧Ri l.H.length l.H stk X xk G R K b
structure Own (d:Rl→Nat) (C:Rl→Option ak) (d':Rl→Nat) (C':Rl→Option ak):Prop where
 bb:d' (70,0)=d (70,0)
 own:∀ a,90≤a→a≤99→d' (a,0)=d (a,0)∧C' (a,0)=C (a,0)
section
variable {h1 h:PT ak} {n1 n lb:Nat} {l:cK} {mk ev:Value} {p5 p6 k:Nat} {d:Rl→Nat} {C:Rl→Option ak} {K:List Int} {b:Int}
theorem Bs.keep (H:Bs h1 n1 lb l mk ev p5 p6 b k K d C h n) {h':PT ak} {n':Nat} (q:Kept h h') (w:bL h' n') (hn:n≤n'):Bs h1 n1 lb l mk ev p5 p6 b k K d C h' n':=by
 obtain⟨W,stk,tag,X,xk,G,R,rk,P,I⟩:=H
 exact⟨_,_,_,_,_,_,_,_,P.keep q w hn,I⟩
theorem Bs.xh (H:Bs h1 n1 lb l mk ev p5 p6 b k K d C h n):
  cW Tryz.prog OB 17 [pt (d (70,0))] h n fun r h' n'=>bB .i64 h' n r (xm (fun k=>decide (k=2)) K l.H.length)∧Kept h h'∧bL h' n'∧n≤n':=by
 obtain⟨W,stk,tag,X,xk,G,R,rk,P,I⟩:=H
 have:=Go.Proofs.YtofmbmclopgldaaGreat.xh P.rg I.ox (fun u=>ko (K.getD u 0)) I.ho
 rwa [I.linked] at this
end
end Go.Proofs.YtofmbmclopgldaaGreat
