/-
  A part of the proof: contracts of inner functions.
-/
import Derived.Test.YtfhmopghjoeamaaGreatBV
import Derived.Test.YtfhmopghjoeamaaGreatBX0
set_option linter.unusedVariables false
set_option linter.unusedSimpArgs false
namespace Go.Proofs.YtfhmopghjoeamaaGreat
open Go.Am
theorem qQ {X:List Int}:List.take X.length (X.map (Value.int .i64))=X.map (.int .i64):=List.take_of_length_le (by simp)
def fl (o:Nat→Option Bool) (rt:Bool) (L:List Int):List Int:=L.filter fun t=>decide (o t.toNat=some rt)
theorem PK {o:Nat→Option Bool} {rt:Bool} {L:List Int} {i:Nat} (hi:i<L.length) (h:o (L.getD i 0).toNat=some rt):fl o rt (L.take (i+1))=fl o rt (L.take i)++[L.getD i 0]:=by
 unfold fl
 rw[List.take_succ_eq_append_getElem hi,List.filter_append]
 simp only[List.getD,hi,List.getElem?_eq_getElem,Option.getD_some] at h ⊢
 simp[h]
theorem KB {o:Nat→Option Bool} {rt:Bool} {L:List Int} {i:Nat} (hi:i<L.length) (h:o (L.getD i 0).toNat≠some rt):fl o rt (L.take (i+1))=fl o rt (L.take i):=by
 unfold fl
 rw[List.take_succ_eq_append_getElem hi,List.filter_append]
 simp only[List.getD,hi,List.getElem?_eq_getElem,Option.getD_some] at h
 simp[h]
theorem KC {o:Nat→Option Bool} {rt:Bool} {L:List Int}:(fl o rt L).length≤L.length:=List.length_filter_le _ _
set_option maxRecDepth 100000 in
set_option maxHeartbeats 16000000 in
theorem ofB {h:PT aj} {n bb pb rb gb ob rk xk:Nat} {R X:List bp} {G:List Int} (H:Bb h n bb pb rb gb ob R rk X xk G) (hX:iV X xk) (o:Nat→Option Bool) (ho:∀ t∈bB X,∃ (u:Nat) (x:Int),t=u∧(1≤u∧u≤G.length)∧G[u-1]? = some x∧Rs R u x (o u)) (rt:Bool):
  cT Tryz.prog OB 55 [pt bb,.bool rt] h n fun r h' n'=>aY .i64 h' n r (fl o rt (bB X))∧Kept h h'∧bX h' n'∧n≤n':=by
 have H0:=H
 obtain⟨W,⟨a0,a1,a3,a4,a5,a6,a7,g1⟩,g2,⟨b0,b1,b2,b3,g3⟩,g4,g5,g6⟩:=H
 have n1:=W.lt g1
 have LW:=hX.len
 have PJ:X.length=(bB X).length:=cK.symm
 refine aB (N:=40) Tryz.func55 rfl rfl fun z hP hO hro hN hQ=>?_
 repeat' first |simp(maxSteps:=2000000) (disch:=first |omega |assumption) only[go_sem, *,rA] | (apply xs<;>intro _)<;>try omega
 rw[pz g3 g5 hX]
 by_cases A7:X.length=0
 ·rw[if_pos A7]
  have ho2:bB X=[]:=List.length_eq_zero_iff.1 (by omega)
  have hfl:fl o rt (bB X)=[]:=by rw[ho2];rfl
  clear ho
  repeat' first |simp(maxSteps:=2000000) (disch:=first |omega |assumption) only[go_sem, *] | (apply xs<;>intro _)<;>try omega
  rw[ct]
  repeat' first |simp(maxSteps:=2000000) (disch:=first |omega |assumption) only[go_sem, *] | (apply xs<;>intro _)<;>try omega
  first |exact⟨.inl ⟨rfl,hfl⟩,Nat.le_refl _⟩ |exact⟨.inl ⟨rfl,rfl⟩,Nat.le_refl _⟩ |exact⟨.inl ⟨rfl,rfl⟩,Kept.refl _,Nat.le_refl _⟩
 ·rw[if_neg A7,PJ]
  have k4:Kept h (h.set n (row ((bB X).map (.int .i64)))):=W.kept (Nat.le_refl _)
  have W4:bX (h.set n (row ((bB X).map (.int .i64)))) (n+1):=W.set (Nat.le_succ _) (Nat.lt_succ_self _)
  have hrow:(h.set n (row ((bB X).map (.int .i64)))).get n=row ((bB X).map (.int .i64)):=bS
  generalize h.set n _=h4 at*
  repeat' first |simp(maxSteps:=2000000) (disch:=first |omega |assumption) only[go_sem, *] | (apply xs<;>intro _)<;>try omega
  refine cU (fun t m h' n'=>∃ (i:Nat) (sl:Value),i≤(bB X).length∧t=(bB X).length-i∧m.n=40∧m.fO=[]∧m.get 0=pt bb∧m.get 1 = .bool rt∧m.get 5=sl∧m.get 15 = .slice (some ⟨n,0,none⟩) (bB X).length (aA+1)∧m.get 16=I6 (bB X).length∧m.get 17=I6 i∧Kept h h'∧bX h' n'∧n+1≤n'∧h'.get n=row ((bB X).map (.int .i64))∧aY .i64 h' (n+1) sl (fl o rt ((bB X).take i))) (bB X).length ?_ ?_
  ·refine⟨0,.slice none 0 0,by omega,by omega,?_⟩
   simp(maxSteps:=2000000) (disch:=first |omega |assumption) only[go_sem, *]
   exact⟨Nat.le_refl _,.inl ⟨rfl,rfl⟩⟩
  ·clear hrow W4 k4
   rintro tt m h1 VX ih ⟨i,sl,hi,rfl,m1,m2,m3,m4,m5,m6,m7,m8,q1,q2,q3,q4,q5⟩
   by_cases hlt:i<(bB X).length
   ·have e7:(i:Int)<(bB X).length:=by omega
    have hgi:((bB X).map (Value.int .i64))[i]? = some (.int .i64 ((bB X).getD i 0)):=by rw[List.getElem?_map,List.getElem?_eq_getElem hlt];simp[List.getD,hlt]
    obtain⟨u,x,hu,hu1,hu2,hu3⟩:=ho ((bB X).getD i 0) (by simp[List.getD,hlt])
    have rg:=fN (H0.keep q1 q2) hu1 hu2 hu3
    have OW:(i:Int)+1=((i+1:Nat):Int):=by omega
    have Md:=@PK o rt (bB X) i hlt
    have hfo:=@KB o rt (bB X) i hlt
    rw[hu] at hgi Md hfo
    rw[Int.toNat_natCast] at Md hfo
    clear ho hu hu3
    generalize hT:bB X=L at*
    clear hT
    repeat' first |simp(maxSteps:=2000000) (disch:=first |omega |assumption) only[go_sem, *] | (apply xs<;>intro _)<;>try omega
    refine fL (rg) (by simp only[*]) (by simp only[*]) (by simp only[go_sem, *]) (by simp only[go_sem, *]) ?_
    rintro r h2 n2 ⟨⟨g,q,rfl,hq⟩,k2,W2,hn2⟩
    have K2:=q1.trans k2
    have q4':=k2 _ _ q4
    have gk:∀ {h':PT aj},Kept h1 h'→aY .i64 h' (n+1) sl (fl o rt (L.take i)):=fun k=>by
     rcases q5 with c | ⟨b,c1,c2,c3⟩
     ·exact .inl c
     ·exact .inr ⟨b,c1,c2,k _ _ c3⟩
    have kk:Kept h1 ((h2.set n2 (row [.int .i64 0,.bool false])).set n2 (row [I6 g,.bool q])):=Kept.set' q2 hn2 (Kept.set' q2 hn2 k2)
    have ww:bX ((h2.set n2 (row [.int .i64 0,.bool false])).set n2 (row [I6 g,.bool q])) (n2+1):=(W2.set (Nat.le_succ _) (Nat.lt_succ_self _)).set (Nat.le_refl _) (Nat.lt_succ_self _)
    have kq:=gk kk
    clear q5 gk
    have vX: ¬ o u=some rt→fl o rt (L.take (i+1))=fl o rt (L.take i):=hfo
    cases Tq:o u with
    |none=>
     have hf:=vX (by rw[Tq];simp)
     clear Md hfo vX
     repeat' first |simp(maxSteps:=2000000) (disch:=first |omega |assumption) only[go_sem, *,Option.isSome_none] | (apply xs<;>intro _)<;>try omega
     refine ih (L.length-(i+1)) _ _ _ (by omega) ⟨i+1,sl,by omega,rfl,?_⟩
     rw[hf]
     clear ih
     simp(maxSteps:=2000000) (disch:=first |omega |assumption) only[go_sem, *]
     exact⟨q1.trans kk,by omega⟩
    |some q0=>
     obtain⟨rfl,rfl⟩:=hq q0 Tq
     by_cases Tr:q=rt
     ·have hf:=Md (by rw[Tq,Tr])
      clear Md hfo vX hq
      subst Tr
      have hbq:(q==q)=true:=by simp
      have XA:(fl o q (L.take i)).length≤1025:=Nat.le_trans KC (by rw[List.length_take];omega)
      generalize hF:fl o q (L.take i)=F at*
      rcases kq with ⟨rfl,rfl⟩ | ⟨b,rfl,w2,w3⟩
      ·repeat' first |simp(maxSteps:=2000000) (disch:=first |omega |assumption) only[go_sem, *,Option.isSome_some] | (apply xs<;>intro _)<;>try omega
       refine ih (L.length-(i+1)) _ _ _ (by omega) ⟨i+1,.slice (some ⟨n2+1+1,0,none⟩) 1 (aA+1),by omega,rfl,?_⟩
       rw[hf]
       clear ih
       simp(maxSteps:=2000000) (disch:=first |omega |assumption) only[go_sem, *]
       refine⟨Kept.set' W (by omega) (Kept.set' W (by omega) (q1.trans kk)),(ww.set (Nat.le_succ _) (Nat.lt_succ_self _)).set (Nat.le_succ _) (Nat.lt_succ_self _),by omega,.inr ⟨n2+1+1,rfl,by omega,bS⟩⟩
      ·have PY:=ww.lt w3
       have A8:=qQ (X:=F)
       have Kf:Nat.ble (F.length+1) 1048576=true:=Nat.ble_eq_true_of_le (by omega)
       have hsn:F.map (Value.int .i64)++[.int .i64 (u:Int)]=(F++[(u:Int)]).map (.int .i64):=by simp
       repeat' first |simp(maxSteps:=2000000) (disch:=first |omega |assumption) only[go_sem, *,Option.isSome_some] | (apply xs<;>intro _)<;>try omega
       refine ih (L.length-(i+1)) _ _ _ (by omega) ⟨i+1,.slice (some ⟨n2+1+1,0,none⟩) (F.length+1) (aA+1),by omega,rfl,?_⟩
       rw[hf]
       clear ih
       simp(maxSteps:=2000000) (disch:=first |omega |assumption) only[go_sem, *]
       refine⟨Kept.set' W (by omega) (Kept.set' W (by omega) (Kept.set' W (by omega) (q1.trans kk))),(((ww.set (m:=n2+1+1+1) (by omega) (by omega)).set (Nat.le_refl _) (by omega)).set (Nat.le_refl _) (by omega)),by omega,.inr ⟨n2+1+1,by simp,by omega,bS⟩⟩
     ·have hf:=vX (by rw[Tq];simpa using Tr)
      have hbq:(q==rt)=false:=by simpa using Tr
      clear Md hfo vX
      repeat' first |simp(maxSteps:=2000000) (disch:=first |omega |assumption) only[go_sem, *,Option.isSome_some] | (apply xs<;>intro _)<;>try omega
      refine ih (L.length-(i+1)) _ _ _ (by omega) ⟨i+1,sl,by omega,rfl,?_⟩
      rw[hf]
      clear ih
      simp(maxSteps:=2000000) (disch:=first |omega |assumption) only[go_sem, *]
      exact⟨q1.trans kk,by omega⟩
   ·have e7: ¬ (i:Int)<(bB X).length:=by omega
    rw[List.take_of_length_le (by omega)] at q5
    clear ih ho
    repeat' first |simp(maxSteps:=2000000) (disch:=first |omega |assumption) only[go_sem, *] | (apply xs<;>intro _)<;>try omega
    refine⟨?_,by omega⟩
    rcases q5 with c | ⟨b,c1,c2,c3⟩
    ·exact .inl c
    ·exact .inr ⟨b,c1,by omega,c3⟩
set_option maxRecDepth 100000 in
theorem uk {h:PT aj} {n bb pb rb gb ob rk xk:Nat} {R X:List bp} {G:List Int} (H:Bb h n bb pb rb gb ob R rk X xk G) (hX:iV X xk) (o:Nat→Option Bool) (ho:∀ t∈bB X,∃ (u:Nat) (x:Int),t=u∧(1≤u∧u≤G.length)∧G[u-1]? = some x∧Rs R u x (o u)):
  cT Tryz.prog OB 19 [pt bb] h n fun r h' n'=>aY .i64 h' n r (fl o false (bB X))∧Kept h h'∧bX h' n'∧n≤n':=by
 have of:=ofB H hX o ho false
 refine aB (N:=7) Tryz.func19 rfl rfl fun z hP hO hro hN hQ=>?_
 repeat' first |simp(maxSteps:=2000000) (disch:=first |omega |assumption) only[go_sem, *] | (apply xs<;>intro _)<;>try omega
 refine fL (of) (by simp only[*]) (by simp only[*]) (by simp only[go_sem, *]) (by simp only[go_sem, *]) ?_
 rintro r h2 n2 ⟨q1,q2,q3,q4⟩
 repeat' first |simp(maxSteps:=2000000) (disch:=first |omega |assumption) only[go_sem, *] | (apply xs<;>intro _)<;>try omega
set_option maxRecDepth 100000 in
theorem qR {h:PT aj} {n bb pb rb gb ob rk xk:Nat} {R X:List bp} {G:List Int} (H:Bb h n bb pb rb gb ob R rk X xk G) (hX:iV X xk) (o:Nat→Option Bool) (ho:∀ t∈bB X,∃ (u:Nat) (x:Int),t=u∧(1≤u∧u≤G.length)∧G[u-1]? = some x∧Rs R u x (o u)):
  cT Tryz.prog OB 33 [pt bb] h n fun r h' n'=>aY .i64 h' n r (fl o true (bB X))∧Kept h h'∧bX h' n'∧n≤n':=by
 have of:=ofB H hX o ho true
 refine aB (N:=7) Tryz.func33 rfl rfl fun z hP hO hro hN hQ=>?_
 repeat' first |simp(maxSteps:=2000000) (disch:=first |omega |assumption) only[go_sem, *] | (apply xs<;>intro _)<;>try omega
 refine fL (of) (by simp only[*]) (by simp only[*]) (by simp only[go_sem, *]) (by simp only[go_sem, *]) ?_
 rintro r h2 n2 ⟨q1,q2,q3,q4⟩
 repeat' first |simp(maxSteps:=2000000) (disch:=first |omega |assumption) only[go_sem, *] | (apply xs<;>intro _)<;>try omega
end Go.Proofs.YtfhmopghjoeamaaGreat
set_option linter.unusedVariables false
set_option linter.unusedSimpArgs false
namespace Go.Proofs.YtfhmopghjoeamaaGreat
open Go.Am
theorem lU {x:Int} {e:bp}:∀ (l:List bp) (i:Nat),aT x (l++[e]) i=match aT x l i with |some r=>some r |none=>if x=e.1 then some (i+l.length,e.2.1) else none
 | [],i=>by
  rw[List.nil_append,aT,aT]
  simp only[List.length_nil,Nat.add_zero]
  split<;>rfl
 |a::l,i=>by
  rw[List.cons_append,aT,aT,lU l (i+1)]
  by_cases c:x=a.1
  ·rw[if_pos c,if_pos c]
  ·rw[if_neg c,if_neg c]
   rw[show i+1+l.length=i+(a::l).length by rw[List.length_cons];omega]
theorem mY {x t:Int} {v w:Value} {c:Nat} (hx:x≠t):∀ (l:List bp) (i j:Nat),l[j]? = some (t,w,c)→aT x (l.set j (t,v,c)) i=aT x l i
 | [],_,_,h=>by simp at h
 |a::l,i,0,h=>by
  simp only[List.getElem?_cons_zero,Option.some.injEq] at h
  subst h
  rw[List.set_cons_zero,aT,aT,if_neg hx,if_neg hx]
 |a::l,i,j+1,h=>by
  rw[List.set_cons_succ,aT,aT,mY hx l (i+1) j (by simpa using h)]
theorem jA {t:Int} {v w:Value} {c:Nat}:∀ (l:List bp) (i j:Nat),aT t l i=some (i+j,w)→l[j]? = some (t,w,c)→aT t (l.set j (t,v,c)) i=some (i+j,v)
 | [],_,_,h,_=>by simp[aT] at h
 |a::l,i,0,h,h2=>by
  rw[List.set_cons_zero,aT,if_pos rfl];rfl
 |a::l,i,j+1,h,h2=>by
  rw[aT] at h
  split at h
  ·simp only[Option.some.injEq,Prod.mk.injEq] at h
   have:=h.1
   omega
  ·rename_i q
   rw[List.set_cons_succ,aT,if_neg q]
   have:=jA (v:=v) l (i+1) j (by rw[h,show i+(j+1)=i+1+j by omega]) (by simpa using h2)
   rw[this,show i+(j+1)=i+1+j by omega]
theorem vY {R:List bp} {rk t:Nat} {v:Value}:∃ i,aT (t:Int) (lT R rk t v).1 0=some (i,v):=by
 unfold lT
 cases hf:aT (t:Int) R 0 with
 |none=>exact⟨R.length,by simp only[lU,hf,if_pos];simp⟩
 |some iv=>
  obtain⟨i,w⟩:=iv
  obtain⟨c,hc⟩:=kr hf
  simp only[hc]
  exact⟨i,by have:=jA (v:=v) R 0 i (by rw[hf];simp) hc;rw[this];simp⟩
theorem um {R:List bp} {rk t:Nat} {v:Value} {x:Int} (hx:x≠t):aT x (lT R rk t v).1 0=aT x R 0:=by
 unfold lT
 cases hf:aT (t:Int) R 0 with
 |none=>
  simp only[lU,if_neg hx]
  cases aT x R 0<;>rfl
 |some iv=>
  obtain⟨i,w⟩:=iv
  obtain⟨c,hc⟩:=kr hf
  simp only[hc]
  exact mY hx R 0 i hc
theorem vZ {x:Int}:∀ {l:List bp} {i:Nat},(∃ e∈l,e.1=x)→∃ j v,aT x l i=some (j,v)
 | [],_,h=>by simp at h
 |a::l,i,h=>by
  rw[aT]
  by_cases c:x=a.1
  ·exact⟨i,a.2.1,if_pos c⟩
  ·rw[if_neg c]
   obtain⟨e,he,rfl⟩:=h
   rcases List.mem_cons.1 he with rfl |he
   ·exact absurd rfl c
   ·exact vZ ⟨e,he,rfl⟩
def ko (k:Int):Option Bool:=if k=2 then some false else if k=3 then some true else none
def fP (p:Int→Bool) (K:List Int) (m:Nat):List Int:=((List.range m).filter fun i=>p (K.getD (i+1) 0)).map fun i:Nat=>((i+1:Nat):Int)
theorem DW {p:Int→Bool} {K:List Int} {m:Nat} (h:p (K.getD (m+1) 0)=true):fP p K (m+1)=fP p K m++[((m+1:Nat):Int)]:=by
 unfold fP;rw[List.range_succ,List.filter_append,List.map_append,List.filter_cons_of_pos (p:=fun i=>p (K.getD (i+1) 0)) h];rfl
theorem zg {p:Int→Bool} {K:List Int} {m:Nat} (h:p (K.getD (m+1) 0)=false):fP p K (m+1)=fP p K m:=by
 unfold fP;rw[List.range_succ,List.filter_append,List.map_append,List.filter_cons_of_neg (p:=fun i=>p (K.getD (i+1) 0)) (by show ¬p (K.getD (m+1) 0)=true;rw[h];simp)];simp
theorem kV {p:Int→Bool} {K:List Int} {m:Nat}:(fP p K m).length≤m:=by
 unfold fP;rw[List.length_map];exact Nat.le_trans (List.length_filter_le _ _) (by rw[List.length_range];exact Nat.le_refl _)
theorem zh {p:Int→Bool} {K:List Int} {m:Nat} {x:Int}:x∈fP p K m↔∃ u:Nat,x=u∧1≤u∧u≤m∧p (K.getD u 0)=true:=by
 unfold fP
 rw[List.mem_map]
 constructor
 ·rintro ⟨i,hi,rfl⟩
  rw[List.mem_filter,List.mem_range] at hi
  exact⟨i+1,rfl,by omega,by omega,hi.2⟩
 ·rintro ⟨u,rfl,h1,h2,h3⟩
  refine⟨u-1,?_,by omega⟩
  rw[List.mem_filter,List.mem_range,show u-1+1=u by omega]
  exact⟨by omega,h3⟩
theorem yw {p:Int→Bool} {K:List Int} {m:Nat}:(fP p K m).Pairwise (·<·):=by
 induction m with
 |zero=>exact List.Pairwise.nil
 |succ m ih=>
  cases h:p (K.getD (m+1) 0) with
  |true=>
   rw[DW h,List.pairwise_append]
   refine⟨ih,List.pairwise_singleton _ _,fun a ha b hb=>?_⟩
   obtain⟨u,rfl,-,h2,-⟩:=zh.1 ha
   rw[List.mem_singleton] at hb
   omega
  |false=>rw[zg h];exact ih
theorem qS:∀ {l m:List Int},l.Pairwise (·<·)→m.Pairwise (·<·)→(∀ x,x∈l↔x∈m)→l=m
 | [],[],_,_,_=>rfl
 | [],y::m,_,_,h=>by have:=(h y).2 (by simp);simp at this
 |x::l,[],_,_,h=>by have:=(h x).1 (by simp);simp at this
 |x::l,y::m,h1,h2,h=>by
  obtain⟨a1,a2⟩:=List.pairwise_cons.1 h1
  obtain⟨b1,b2⟩:=List.pairwise_cons.1 h2
  have hxy:x=y:=by
   rcases List.mem_cons.1 ((h x).1 (by simp)) with e |e
   ·exact e
   ·rcases List.mem_cons.1 ((h y).2 (by simp)) with e2 |e2
    ·exact e2.symm
    ·have:=a1 y e2;have:=b1 x e;omega
  subst hxy
  congr 1
  refine qS a2 b2 fun z=>⟨fun hz=>?_,fun hz=>?_⟩
  ·rcases List.mem_cons.1 ((h z).1 (by simp[hz])) with e |e
   ·have:=a1 z hz;omega
   ·exact e
  ·rcases List.mem_cons.1 ((h z).2 (by simp[hz])) with e |e
   ·have:=b1 z hz;omega
   ·exact e
theorem wh {X:List bp} {xk:Nat} (H:iV X xk):(bB X).Pairwise (·<·):=by
 have h1:=jv (X.map fun e=>e.1)
 have h2:(bB X).Nodup:=(gQ _).nodup_iff.2 H.nd
 exact List.Pairwise.imp (fun {a b} (h:a≤b∧a≠b)=>by omega) (h1.and h2)
structure Ri (n:Nat) (H:List Int) (stk:Nat→List Nat) (X:List bp) (xk:Nat) (G:List Int) (R:List bp) (K:List Int) (b:Int):Prop where
 yx:K.length=n+1
 k0:K.getD 0 0=0
 kv:∀ u,0≤K.getD u 0∧K.getD u 0≤3
 n1:n≤1024
 AJ:G.length=n
 free:∀ j t,j<6→t∈stk j→K.getD t 0=0
 ox:iV X xk
 out:∀ x,(∃ e∈X,e.1=x)↔∃ u:Nat,x=u∧1≤u∧u≤n∧K.getD u 0≠0
 gb:∀ u,0≤G.getD u 0∧G.getD u 0≤b
 rs:∀ u,1≤u→u≤n→Rs R u (G.getD (u-1) 0) (ko (K.getD u 0))
 rb:∀ u i v,1≤u→u≤n→aT ((u:Nat):Int) R 0=some (i,v)→∃ g r,v = .agg ⟨[.int .i64 g,.bool r]⟩∧g≤G.getD (u-1) 0
section
variable {n xk:Nat} {H G K:List Int} {stk:Nat→List Nat} {X R:List bp} {b:Int}
theorem Ri.DX (I:Ri n H stk X xk G R K b):bB X=fP (fun k=>decide (k≠0)) K n:=by
 refine qS (wh I.ox) yw fun x=>?_
 rw[mX,I.out x,zh]
 simp only[decide_eq_true_eq]
theorem qT {p:Int→Bool} {o:Nat→Option Bool} {rt:Bool} {m:Nat} {q:Int→Bool} (h:∀ u,(p (K.getD u 0)&&decide (o u=some rt))=q (K.getD u 0)):fl o rt (fP p K m)=fP q K m:=by
 unfold fl fP
 rw[List.filter_map,List.filter_filter]
 congr 1
 refine List.filter_congr fun i _=>?_
 rw[←h (i+1),Bool.and_comm]
 rfl
theorem Ri.linked (I:Ri n H stk X xk G R K b):fl (fun u=>ko (K.getD u 0)) false (bB X)=fP (fun k=>decide (k=2)) K n:=by
 rw[I.DX]
 refine qT fun u=>?_
 generalize K.getD u 0=k
 simp only[ko]
 by_cases c:k=2
 ·subst c;simp
 ·by_cases c3:k=3
  ·subst c3;simp
  ·simp[c,c3]
theorem Ri.retired (I:Ri n H stk X xk G R K b):fl (fun u=>ko (K.getD u 0)) true (bB X)=fP (fun k=>decide (k=3)) K n:=by
 rw[I.DX]
 refine qT fun u=>?_
 generalize K.getD u 0=k
 simp only[ko]
 by_cases c:k=2
 ·subst c;simp
 ·by_cases c3:k=3
  ·subst c3;simp
  ·simp[c,c3]
theorem bq {L:List Int} {i j:Nat} {x:Int} (hi:i<L.length):(L.set i x).getD j 0=if j=i then x else L.getD j 0:=by
 simp only[List.getD]
 by_cases c:j=i
 ·subst c;rw[if_pos rfl,List.getElem?_set_self hi];rfl
 ·rw[if_neg c,List.getElem?_set_ne (Ne.symm c)]
theorem Ri.take (I:Ri n H stk X xk G R K b) {j a:Nat} {r:List Nat} (hj:j<6) (he:stk j=a::r) (ha:1≤a∧a≤n) (hnd:∀ k,k<6→(stk k).Nodup) (Ir:∀ k t,k<6→t∈stk k→t=a→k=j):
  Ri n H (Ba stk j r) (X++[((a:Int),.bool false,xk)]) (xk+1) G R (K.set a 1) b:=by
 have hK0:=I.free j a hj (by rw[he];simp)
 have hlt:a<K.length:=by rw[I.yx];omega
 have hna:∀ e∈X,e.1≠(a:Int):=fun e hm c=>by
  obtain⟨u,hu,_,_,h4⟩:=(I.out a).1 ⟨e,hm,c⟩
  have:u=a:=by omega
  subst this;exact h4 hK0
 have hko:∀ u,ko ((K.set a 1).getD u 0)=ko (K.getD u 0):=fun u=>by
  rw[bq hlt];split
  ·rename_i c;rw[c,hK0];rfl
  ·rfl
 refine⟨by rw[List.length_set];exact I.yx,by rw[bq hlt,if_neg (by omega)];exact I.k0,fun u=>?_,I.n1,I.AJ,fun k t hk ht=>?_,?_,fun x=>?_,I.gb,fun u h1 h2=>by rw[hko];exact I.rs u h1 h2,I.rb⟩
 ·rw[bq hlt];split
  ·omega
  ·exact I.kv u
 ·rw[bq hlt]
  by_cases c:k=j
  ·subst c
   rw[cJ] at ht
   have:=hnd k hk
   rw[he] at this
   rw[if_neg fun q:t=a=>(List.nodup_cons.1 this).1 (by rw[←q];exact ht)]
   exact I.free k t hk (by rw[he];simp[ht])
  ·rw[eR c] at ht
   rw[if_neg fun q=>c (Ir k t hk ht q)]
   exact I.free k t hk ht
 ·obtain⟨o1,o2,o3,o4,o5⟩:=I.ox
  refine⟨fun e hm=>?_,?_,fun e hm=>?_,fun e hm=>?_,?_⟩
  ·rcases List.mem_append.1 hm with q |q
   ·exact o1 e q
   ·rw[List.mem_singleton.1 q]
  ·rw[List.map_append,List.map_singleton,List.nodup_append]
   refine⟨o2,by simp,fun x hx y hy=>?_⟩
   obtain⟨e,hm,rfl⟩:=List.mem_map.1 hx
   rw[List.mem_singleton] at hy
   rw[hy];exact hna e hm
  ·rcases List.mem_append.1 hm with q |q
   ·exact o3 e q
   ·rw[List.mem_singleton.1 q];have:=I.n1;exact⟨by omega,by show (a:Int)≤1024;omega⟩
  ·rcases List.mem_append.1 hm with q |q
   ·have:=o4 e q;omega
   ·rw[List.mem_singleton.1 q];exact Nat.lt_succ_self _
  ·rw[List.map_append,List.map_singleton,List.nodup_append]
   refine⟨o5,by simp,fun x hx y hy=>?_⟩
   obtain⟨e,hm,rfl⟩:=List.mem_map.1 hx
   have hy:y=xk:=List.mem_singleton.1 hy
   have:=o4 e hm
   omega
 ·constructor
  ·rintro ⟨e,hm,rfl⟩
   rcases List.mem_append.1 hm with q |q
   ·obtain⟨u,h1,h2,h3,h4⟩:=(I.out e.1).1 ⟨e,q,rfl⟩
    refine⟨u,h1,h2,h3,?_⟩
    rw[bq hlt];split
    ·omega
    ·exact h4
   ·rw[List.mem_singleton.1 q]
    exact⟨a,rfl,ha.1,ha.2,by rw[bq hlt,if_pos rfl];decide⟩
  ·rintro ⟨u,rfl,h2,h3,h4⟩
   by_cases c:u=a
   ·subst c;exact⟨_,List.mem_append_right _ (List.mem_singleton.2 rfl),rfl⟩
   ·rw[bq hlt,if_neg c] at h4
    obtain⟨e,hm,q⟩:=(I.out u).2 ⟨u,rfl,h2,h3,h4⟩
    exact⟨e,List.mem_append_left _ hm,q⟩
theorem Ri.put (I:Ri n H stk X xk G R K b) {t rk:Nat} {k:Int} {q:Bool} (ht:1≤t∧t≤n) (hK:K.getD t 0≠0) (hk:ko k=some q) (SV:1≤k∧k≤3):
  Ri n H stk X xk G (lT R rk t (.agg ⟨[.int .i64 (G.getD (t-1) 0),.bool q]⟩)).1 (K.set t k) b:=by
 have hlt:t<K.length:=by rw[I.yx];omega
 refine⟨by rw[List.length_set];exact I.yx,by rw[bq hlt,if_neg (by omega)];exact I.k0,fun u=>?_,I.n1,I.AJ,fun j a hj ha=>?_,I.ox,fun x=>?_,I.gb,fun u h1 h2=>?_,fun u i v h1 h2 hf=>?_⟩
 ·rw[bq hlt];split
  ·omega
  ·exact I.kv u
 ·have:=I.free j a hj ha
  rw[bq hlt,if_neg fun c:a=t=>hK (by rw[←c];exact this)];exact this
 ·rw[I.out x]
  constructor
  ·rintro ⟨u,h1,h2,h3,h4⟩
   refine⟨u,h1,h2,h3,?_⟩
   rw[bq hlt];split
   ·omega
   ·exact h4
  ·rintro ⟨u,h1,h2,h3,h4⟩
   refine⟨u,h1,h2,h3,?_⟩
   rw[bq hlt] at h4
   split at h4
   ·rename_i c;rw[c];exact hK
   ·exact h4
 ·by_cases c:u=t
  ·subst c
   rw[bq hlt,if_pos rfl,hk]
   exact vY
  ·rw[bq hlt,if_neg c]
   have:=I.rs u h1 h2
   cases ho:ko (K.getD u 0) with
   |none=>
    rw[ho] at this
    rcases this with e | ⟨i,g,r,e,e2⟩
    ·exact .inl (by rw[um (by omega)];exact e)
    ·exact .inr ⟨i,g,r,by rw[um (by omega)];exact e,e2⟩
   |some q'=>
    rw[ho] at this
    obtain⟨i,e⟩:=this
    exact⟨i,by rw[um (by omega)];exact e⟩
 ·by_cases c:u=t
  ·subst c
   obtain⟨i',e⟩:=vY (R:=R) (rk:=rk) (t:=u) (v := .agg ⟨[.int .i64 (G.getD (u-1) 0),.bool q]⟩)
   rw[e] at hf
   simp only[Option.some.injEq,Prod.mk.injEq] at hf
   exact⟨_,_,hf.2.symm,Int.le_refl _⟩
  ·rw[um (by omega)] at hf
   exact I.rb u i v h1 h2 hf
theorem Ri.give (I:Ri n H stk X xk G R K b) {t i j:Nat} {v:Value} {c0:Nat} (ht:1≤t∧t≤n) (hj:j<6) (Tl:X[i]? = some ((t:Int),v,c0)):
  Ri n H (Ba stk j (t::stk j)) (X.eraseIdx i) xk (G.set (t-1) (G.getD (t-1) 0+1)) R (K.set t 0) (b+1):=by
 have hlt:t<K.length:=by rw[I.yx];omega
 have JV:t-1<G.length:=by rw[I.AJ];omega
 have hi:i<X.length:=(List.getElem?_eq_some_iff.1 Tl).1
 have hsub:(X.eraseIdx i).Sublist X:=List.eraseIdx_sublist _ _
 have hmem:∀ e,e∈X.eraseIdx i↔e∈X∧e.1≠(t:Int):=fun e=>by
  have hx:X=X.take i++((t:Int),v,c0)::X.drop (i+1):=by
   rw[←(List.getElem?_eq_some_iff.1 Tl).2,List.getElem_cons_drop,List.take_append_drop]
  have hnd:=I.ox.nd
  rw[hx,List.map_append,List.map_cons,List.nodup_append] at hnd
  obtain⟨n1,n2,n3⟩:=hnd
  have n4:=(List.nodup_cons.1 n2).1
  rw[List.eraseIdx_eq_take_drop_succ,List.mem_append]
  constructor
  ·rintro (q |q)
   ·refine⟨List.mem_of_mem_take q,fun c=>?_⟩
    exact n3 e.1 (List.mem_map_of_mem q) (t:Int) (by simp) c
   ·refine⟨List.mem_of_mem_drop q,fun c=>?_⟩
    exact n4 (by show (t:Int)∈_;rw[←c];exact List.mem_map_of_mem q)
  ·rintro ⟨q,c⟩
   rw[hx] at q
   rcases List.mem_append.1 q with q |q
   ·exact .inl q
   ·rcases List.mem_cons.1 q with q |q
    ·exact absurd (by rw[q]) c
    ·exact .inr q
 refine⟨by rw[List.length_set];exact I.yx,by rw[bq hlt];split;rfl;exact I.k0,fun u=>?_,I.n1,by rw[List.length_set];exact I.AJ,fun k a hk ha=>?_,?_,fun x=>?_,fun u=>?_,fun u h1 h2=>?_,fun u i' v' h1 h2 hf=>?_⟩
 ·rw[bq hlt];split
  ·omega
  ·exact I.kv u
 ·rw[bq hlt];split
  ·rfl
  ·rename_i c
   by_cases ck:k=j
   ·subst ck
    rw[cJ] at ha
    rcases List.mem_cons.1 ha with q |q
    ·exact absurd q c
    ·exact I.free k a hk q
   ·rw[eR ck] at ha;exact I.free k a hk ha
 ·obtain⟨o1,o2,o3,o4,o5⟩:=I.ox
  exact⟨fun e hm=>o1 e (hsub.subset hm),(hsub.map _).nodup o2,fun e hm=>o3 e (hsub.subset hm),fun e hm=>o4 e (hsub.subset hm),(hsub.map _).nodup o5⟩
 ·constructor
  ·rintro ⟨e,hm,rfl⟩
   obtain⟨q1,q2⟩:=(hmem e).1 hm
   obtain⟨u,h1,h2,h3,h4⟩:=(I.out e.1).1 ⟨e,q1,rfl⟩
   exact⟨u,h1,h2,h3,by rw[bq hlt,if_neg fun c=>q2 (by rw[h1,c])];exact h4⟩
  ·rintro ⟨u,rfl,h2,h3,h4⟩
   rw[bq hlt] at h4
   split at h4
   ·exact absurd rfl h4
   ·rename_i c
    obtain⟨e,hm,q⟩:=(I.out u).2 ⟨u,rfl,h2,h3,h4⟩
    exact⟨e,(hmem e).2 ⟨hm,by rw[q];omega⟩,q⟩
 ·rw[bq JV]
  have:=I.gb u
  have:=I.gb (t-1)
  split<;>omega
 ·by_cases c:u=t
  ·subst c
   rw[bq hlt,if_pos rfl,bq JV,if_pos rfl,show ko 0=none from rfl]
   cases hf:aT ((u:Nat):Int) R 0 with
   |none=>exact .inl hf
   |some iv=>
    obtain⟨i',v'⟩:=iv
    obtain⟨g,r,rfl,hg⟩:=I.rb u i' v' h1 h2 hf
    exact .inr ⟨i',g,r,hf,by omega⟩
  ·rw[bq hlt,if_neg c,bq JV,if_neg (by omega)]
   exact I.rs u h1 h2
 ·obtain⟨g,r,e,hg⟩:=I.rb u i' v' h1 h2 hf
  refine⟨g,r,e,?_⟩
  rw[bq JV];split
  ·rename_i c;rw[c] at hg;omega
  ·exact hg
end
end Go.Proofs.YtfhmopghjoeamaaGreat
set_option linter.unusedVariables false
set_option linter.unusedSimpArgs false
namespace Go.Proofs.YtfhmopghjoeamaaGreat
open Go.Am
theorem H_.same {d d':Rl→Nat} {C C':Rl→Option aj} {lb:Nat} {l:bZ} {mk ev:Value} {R:List bp} {rk:Nat} {X:List bp} {xk:Nat} {G:List Int} (B:H_ d C lb l mk ev R rk X xk G) (hM:d' rM=d rM) (fr:∀ a,a=4∨(70≤a∧a≤78)→d' (a,0)=d (a,0)∧C' (a,0)=C (a,0)):H_ d' C' lb l mk ev R rk X xk G:=by
 obtain⟨b1,b2,b3,b4,b5,b6,b7⟩:=B
 refine⟨?_,?_,?_,?_,?_,?_,?_⟩
 ·rw[(fr 70 (by omega)).2,b1,hM,(fr 75 (by omega)).1,(fr 78 (by omega)).1,(fr 4 (by omega)).1,(fr 73 (by omega)).1,(fr 74 (by omega)).1]
 ·rw[(fr 74 (by omega)).2];exact b2
 ·rw[(fr 75 (by omega)).2,b3,hM,(fr 76 (by omega)).1,(fr 77 (by omega)).1]
 ·rw[(fr 76 (by omega)).2];exact b4
 ·rw[(fr 77 (by omega)).2];exact b5
 ·rw[(fr 78 (by omega)).2,b6,hM]
 ·obtain⟨v,hv⟩:=b7;exact⟨v,by rw[(fr 73 (by omega)).2];exact hv⟩
section
variable {h1 h h':PT aj} {n1 n n' lb:Nat} {l:bZ} {mk ev:Value} {p5 p6:Nat} {W:List Int} {stk:Nat→List Nat} {tag:Nat→Int} {X:List bp} {xk:Nat} {G:List Int} {R:List bp} {rk k:Nat} {d d':Rl→Nat} {C C':Rl→Option aj} {Y:List Nat} {K:List Int} {b:Int}
theorem Po.same (P:Po h1 n1 lb l mk ev p5 p6 W stk tag X xk G R rk k d C h n) (N:Ny n d C Y W k d' C' h' n') (hY:∀ a∈Y,78<a):Po h1 n1 lb l mk ev p5 p6 W stk tag X xk G R rk k d' C' h' n':=by
 obtain⟨P1,S,F,M,B,K0,e5,e6,hp,hH,hlk,wz⟩:=P
 exact⟨Nat.le_trans P1 N.le,N.st,N.fz _ _ P1 F,N.mem,B.same N.dM fun a ha=>N.fr a 0 (by omega) fun q=>by have:=hY a q;omega,K0,e5,e6,hp,hH,hlk,wz⟩
theorem Po.reg (P:Po h1 n1 lb l mk ev p5 p6 W stk tag X xk G R rk k d C h n) {h2:PT aj} {R':List bp} {Ts:Nat} (q:Kept h h2) (w:bX h2 n') (hn:n≤n'):
  Po h1 n1 lb l mk ev p5 p6 W stk tag X xk G R' Ts k d (upd C (74,0) (some (.map (bA .i64 R') Ts))) (h2.set (d (74,0)) (some (.map (bA .i64 R') Ts))) n':=by
 obtain⟨P1,S,F,⟨L,M⟩,B,K0,e5,e6,hp,hH,hlk,wz⟩:=P
 have S2:=(S.kept q w).set (74,0) (.map (bA .i64 R') Ts) B.reg rfl
 obtain⟨b1,b2,b3,b4,b5,b6,⟨v,b7⟩⟩:=B
 exact⟨Nat.le_trans P1 hn,S2,F.set (by decide) b2 _,⟨L,M.of fun a ha=>⟨rfl,aq (by omega)⟩⟩,⟨(aq (by decide)).trans b1,au,(aq (by decide)).trans b3,(aq (by decide)).trans b4,(aq (by decide)).trans b5,(aq (by decide)).trans b6,⟨v,(aq (by decide)).trans b7⟩⟩,K0,e5,e6,hp,hH,hlk,wz⟩
theorem Po.keep (P:Po h1 n1 lb l mk ev p5 p6 W stk tag X xk G R rk k d C h n) (q:Kept h h') (w:bX h' n') (hn:n≤n'):Po h1 n1 lb l mk ev p5 p6 W stk tag X xk G R rk k d C h' n':=by
 obtain⟨P1,S,F,M,B,K0,e5,e6,hp,hH,hlk,wz⟩:=P
 exact⟨Nat.le_trans P1 hn,S.kept q w,F,M,B,K0,e5,e6,hp,hH,hlk,wz⟩
theorem Po.rg (P:Po h1 n1 lb l mk ev p5 p6 W stk tag X xk G R rk k d C h n):Bb h n (d (70,0)) (d (75,0)) (d (74,0)) (d (77,0)) (d (76,0)) R rk X xk G:=by
 obtain⟨P1,S,F,M,B,K0,e5,e6,hp,hH,hlk,wz⟩:=P
 exact⟨S.wf,⟨_,_,_,_,_,_,_,S.at B.base⟩,S.at B.reg,⟨_,_,_,_,S.at B.pool⟩,S.at B.DG,S.at B.out,by omega⟩
theorem Ri.ho (I:Ri n l.H stk X xk G R K b):∀ t∈bB X,∃ (u:Nat) (x:Int),t=u∧(1≤u∧u≤G.length)∧G[u-1]? = some x∧Rs R u x (ko (K.getD u 0)):=fun t ht=>by
 obtain⟨u,rfl,u1,u2,-⟩:=(I.out t).1 (mX.1 ht)
 have hl:u-1<G.length:=by rw[I.AJ];omega
 exact⟨u,G.getD (u-1) 0,rfl,⟨u1,by rw[I.AJ];exact u2⟩,by simp[List.getD,hl],I.rs u u1 u2⟩
end
def Bs (h1:PT aj) (n1 lb:Nat) (l:bZ) (mk ev:Value) (p5 p6:Nat) (b:Int) (k:Nat) (K:List Int) (d:Rl→Nat) (C:Rl→Option aj) (h:PT aj) (n:Nat):Prop:=
 ∃ W stk tag X xk G R rk,Po h1 n1 lb l mk ev p5 p6 W stk tag X xk G R rk k d C h n∧Ri l.H.length l.H stk X xk G R K b
structure Own (d:Rl→Nat) (C:Rl→Option aj) (d':Rl→Nat) (C':Rl→Option aj):Prop where
 bb:d' (70,0)=d (70,0)
 own:∀ a,90≤a→a≤99→d' (a,0)=d (a,0)∧C' (a,0)=C (a,0)
section
variable {h1 h:PT aj} {n1 n lb:Nat} {l:bZ} {mk ev:Value} {p5 p6 k:Nat} {d:Rl→Nat} {C:Rl→Option aj} {K:List Int} {b:Int}
theorem Bs.take (H:Bs h1 n1 lb l mk ev p5 p6 b k K d C h n) (hk:k≤90000) {j:Nat} (hj:j<6):
  cT Tryz.prog OB 28 [pt (d (70,0)),.bool true,I6 ((j:Int)+1)] h n fun v h' n'=>∃ (a k':Nat) (d':Rl→Nat) (C':Rl→Option aj),v=I6 a∧k'≤k+3∧Own d C d' C'∧a≤l.H.length∧K.getD a 0=0∧Bs h1 n1 lb l mk ev p5 p6 b k' (if a=0 then K else K.set a 1) d' C' h' n':=by
 obtain⟨W,stk,tag,X,xk,G,R,rk,P,I⟩:=H
 cases he:stk j with
 |nil=>
  refine(Ks P hk hj he).mono ?_
  rintro v h' n' ⟨rfl,d',C',e,N,P'⟩
  exact⟨0,k+1,d',C',rfl,by omega,⟨e,N⟩,by omega,I.k0,by rw[if_pos rfl];exact⟨_,_,_,_,_,_,_,_,P',I⟩⟩
 |cons a r=>
  have ha:=P.W7.mem j a hj (by rw[he];simp)
  have hK:=I.free j a hj (by rw[he];simp)
  refine(Kw P hk hj he fun e hm c=>?_).mono ?_
  ·obtain⟨u,hu,_,_,h4⟩:=(I.out a).1 ⟨e,hm,c⟩
   have:u=a:=by omega
   subst this;exact h4 hK
  ·rintro v h' n' ⟨rfl,W',d',C',e,N,P'⟩
   refine⟨a,k+3,d',C',rfl,by omega,⟨e,N⟩,ha.2.1,hK,?_⟩
   rw[if_neg (by omega)]
   refine⟨_,_,_,_,_,_,_,_,P',I.take hj he ⟨ha.1,ha.2.1⟩ (fun k hk=>P.W7.nd k hk) fun k t hk ht c=>?_⟩
   subst c
   have:=(P.W7.mem k t hk ht).2.2
   omega
theorem Own.refl {d:Rl→Nat} {C:Rl→Option aj}:Own d C d C:=⟨rfl,fun _ _ _=>⟨rfl,rfl⟩⟩
theorem Bs.link (H:Bs h1 n1 lb l mk ev p5 p6 b k K d C h n) (t:Int):
  cT Tryz.prog OB 30 [pt (d (70,0)),I6 t] h n fun v h' n'=>(v=I6 0∧(1≤t∧t≤l.H.length)∧K.getD t.toNat 0=1∧∃ d' C',Own d C d' C'∧Bs h1 n1 lb l mk ev p5 p6 b k (K.set t.toNat 2) d' C' h' n')∨(∃ e:Int,e≠0∧v=I6 e∧ ¬((1≤t∧t≤l.H.length)∧K.getD t.toNat 0=1)∧Bs h1 n1 lb l mk ev p5 p6 b k K d C h' n'):=by
 obtain⟨W,stk,tag,X,xk,G,R,rk,P,I⟩:=H
 have hg:=P.hG
 by_cases hin:1≤t∧t≤l.H.length
 ·obtain⟨u,rfl⟩:=Int.eq_ofNat_of_zero_le (show 0≤t by omega)
  have hl:u-1<G.length:=by omega
  have hG:G[u-1]? = some (G.getD (u-1) 0):=by simp[List.getD,hl]
  have hR:=I.rs u (by omega) (by omega)
  rw[Int.toNat_natCast]
  by_cases hK:K.getD u 0=1
  ·have hm:(u:Int)∈bB X:=mX.2 ((I.out u).2 ⟨u,rfl,by omega,by omega,by rw[hK];decide⟩)
   rw[hK] at hR
   refine(DV P.rg ⟨by omega,by omega⟩ hG hR I.ox hm).mono ?_
   rintro v h' n' ⟨rfl,h2,q1,q2,q3,rfl⟩
   refine .inl ⟨rfl,hin,hK,_,_,⟨rfl,fun a h9 Pg=>⟨rfl,aq (by omega)⟩⟩,_,_,_,_,_,_,_,_,P.reg q1 q2 q3,I.put ⟨by omega,by omega⟩ (by rw[hK];decide) rfl ⟨by decide,by decide⟩⟩
  ·refine(zf P.rg I.ox (.inr ⟨u,_,_,rfl,hG,hR,?_⟩)).mono ?_
   ·by_cases h0:K.getD u 0=0
    ·refine .inr fun c=>?_
     obtain⟨w,hw,_,_,h4⟩:=(I.out u).1 (mX.1 c)
     have:w=u:=by omega
     subst this;exact h4 h0
    ·refine .inl ?_
     have:=I.kv u
     have hc:K.getD u 0=2∨K.getD u 0=3:=by omega
     rcases hc with e |e<;>rw[e]<;>decide
   ·rintro v h' n' ⟨⟨e,he,rfl⟩,q1,q2,q3⟩
    exact .inr ⟨e,he,rfl,fun c=>hK c.2,_,_,_,_,_,_,_,_,P.keep q1 q2 q3,I⟩
 ·refine(zf P.rg I.ox (.inl (by rw[hg];exact hin))).mono ?_
  rintro v h' n' ⟨⟨e,he,rfl⟩,q1,q2,q3⟩
  exact .inr ⟨e,he,rfl,fun c=>hin c.1,_,_,_,_,_,_,_,_,P.keep q1 q2 q3,I⟩
theorem Bs.unlink (H:Bs h1 n1 lb l mk ev p5 p6 b k K d C h n) (t:Int):
  cT Tryz.prog OB 31 [pt (d (70,0)),I6 t] h n fun v h' n'=>(v=I6 0∧(1≤t∧t≤l.H.length)∧K.getD t.toNat 0=2∧∃ d' C',Own d C d' C'∧Bs h1 n1 lb l mk ev p5 p6 b k (K.set t.toNat 3) d' C' h' n')∨(∃ e:Int,e≠0∧v=I6 e∧ ¬((1≤t∧t≤l.H.length)∧K.getD t.toNat 0=2)∧Bs h1 n1 lb l mk ev p5 p6 b k K d C h' n'):=by
 obtain⟨W,stk,tag,X,xk,G,R,rk,P,I⟩:=H
 have hg:=P.hG
 by_cases hin:1≤t∧t≤l.H.length
 ·obtain⟨u,rfl⟩:=Int.eq_ofNat_of_zero_le (show 0≤t by omega)
  have hl:u-1<G.length:=by omega
  have hG:G[u-1]? = some (G.getD (u-1) 0):=by simp[List.getD,hl]
  have hR:=I.rs u (by omega) (by omega)
  rw[Int.toNat_natCast]
  by_cases hK:K.getD u 0=2
  ·rw[hK] at hR
   refine(yu P.rg ⟨by omega,by omega⟩ hG hR).mono ?_
   rintro v h' n' ⟨rfl,h2,q1,q2,q3,rfl⟩
   refine .inl ⟨rfl,hin,hK,_,_,⟨rfl,fun a h9 Pg=>⟨rfl,aq (by omega)⟩⟩,_,_,_,_,_,_,_,_,P.reg q1 q2 q3,I.put ⟨by omega,by omega⟩ (by rw[hK];decide) rfl ⟨by decide,by decide⟩⟩
  ·refine(sJ P.rg (.inr ⟨u,_,_,rfl,hG,hR,fun c=>?_⟩)).mono ?_
   ·unfold ko at c
    split at c
    ·rename_i e;exact hK e
    ·split at c<;>simp at c
   ·rintro v h' n' ⟨⟨e,he,rfl⟩,q1,q2,q3⟩
    exact .inr ⟨e,he,rfl,fun c=>hK c.2,_,_,_,_,_,_,_,_,P.keep q1 q2 q3,I⟩
 ·refine(sJ P.rg (.inl (by rw[hg];exact hin))).mono ?_
  rintro v h' n' ⟨⟨e,he,rfl⟩,q1,q2,q3⟩
  exact .inr ⟨e,he,rfl,fun c=>hin c.1,_,_,_,_,_,_,_,_,P.keep q1 q2 q3,I⟩
theorem Bs.back (H:Bs h1 n1 lb l mk ev p5 p6 b k K d C h n) (hk:k≤90000) (hb:b<999999) (hbd:∀ i,i<l.H.length→1≤l.H.getD i 0∧l.H.getD i 0≤6) (t:Int):
  cT Tryz.prog OB 28 [pt (d (70,0)),.bool false,I6 t] h n fun v h' n'=>(v=I6 t∧(1≤t∧t≤l.H.length)∧K.getD t.toNat 0≠0∧∃ d' C',Own d C d' C'∧Bs h1 n1 lb l mk ev p5 p6 (b+1) (k+3) (K.set t.toNat 0) d' C' h' n')∨(v=I6 0∧ ¬((1≤t∧t≤l.H.length)∧K.getD t.toNat 0≠0)∧h'=h∧n'=n):=by
 obtain⟨W,stk,tag,X,xk,G,R,rk,P,I⟩:=H
 have hg:=P.hG
 by_cases hin:1≤t∧t≤l.H.length
 ·obtain⟨u,rfl⟩:=Int.eq_ofNat_of_zero_le (show 0≤t by omega)
  have hl:u-1<G.length:=by omega
  have hG:G[u-1]? = some (G.getD (u-1) 0):=by simp[List.getD,hl]
  rw[Int.toNat_natCast]
  by_cases hK:K.getD u 0=0
  ·have hf:aT (u:Int) X 0=none:=lR fun e hm c=>by
    obtain⟨w,hw,_,_,h4⟩:=(I.out u).1 ⟨e,hm,c⟩
    have:w=u:=by omega
    subst this;exact h4 hK
   refine(DS P (.inr hf)).mono ?_
   rintro v h' n' ⟨rfl,rfl,rfl⟩
   exact .inr ⟨rfl,fun c=>c.2 hK,rfl,rfl⟩
  ·obtain⟨i,v,hf⟩:=vZ (i:=0) ((I.out u).2 ⟨u,rfl,by omega,by omega,hK⟩)
   obtain⟨c0,hc⟩:=kr hf
   have hv:v = .bool false:=I.ox.val _ (List.mem_of_getElem? hc)
   subst hv
   have hf2:aT (u:Int) (X.set i ((u:Int),.bool true,c0)) 0=some (i,.bool true):=by
    have:=jA (v := .bool true) X 0 i (by rw[hf];simp) hc
    rw[this];simp
   obtain⟨x1,x2⟩:=hbd (u-1) (by omega)
   obtain⟨j,hj⟩:∃ j:Nat,l.H.getD (u-1) 0=(j:Int)+1:=⟨(l.H.getD (u-1) 0-1).toNat,by omega⟩
   have hgb:=I.gb (u-1)
   refine(Kz P hk ⟨by omega,by omega⟩ (by omega) hj hf hc hf2 (fun c=>hK (I.free j u (by omega) c)) hG ⟨by omega,by omega⟩).mono ?_
   rintro v h' n' ⟨rfl,W',d',C',e,N,P'⟩
   exact .inl ⟨rfl,hin,hK,d',C',⟨e,N⟩,_,_,_,_,_,_,_,_,P',I.give ⟨by omega,by omega⟩ (by omega) hc⟩
 ·refine(DS P (.inl hin)).mono ?_
  rintro v h' n' ⟨rfl,rfl,rfl⟩
  exact .inr ⟨rfl,fun c=>hin c.1,rfl,rfl⟩
theorem Bs.keep (H:Bs h1 n1 lb l mk ev p5 p6 b k K d C h n) {h':PT aj} {n':Nat} (q:Kept h h') (w:bX h' n') (hn:n≤n'):Bs h1 n1 lb l mk ev p5 p6 b k K d C h' n':=by
 obtain⟨W,stk,tag,X,xk,G,R,rk,P,I⟩:=H
 exact⟨_,_,_,_,_,_,_,_,P.keep q w hn,I⟩
theorem Bs.uk (H:Bs h1 n1 lb l mk ev p5 p6 b k K d C h n):
  cT Tryz.prog OB 19 [pt (d (70,0))] h n fun r h' n'=>aY .i64 h' n r (fP (fun k=>decide (k=2)) K l.H.length)∧Kept h h'∧bX h' n'∧n≤n':=by
 obtain⟨W,stk,tag,X,xk,G,R,rk,P,I⟩:=H
 have:=Go.Proofs.YtfhmopghjoeamaaGreat.uk P.rg I.ox (fun u=>ko (K.getD u 0)) I.ho
 rwa [I.linked] at this
theorem Bs.qR (H:Bs h1 n1 lb l mk ev p5 p6 b k K d C h n):
  cT Tryz.prog OB 33 [pt (d (70,0))] h n fun r h' n'=>aY .i64 h' n r (fP (fun k=>decide (k=3)) K l.H.length)∧Kept h h'∧bX h' n'∧n≤n':=by
 obtain⟨W,stk,tag,X,xk,G,R,rk,P,I⟩:=H
 have:=Go.Proofs.YtfhmopghjoeamaaGreat.qR P.rg I.ox (fun u=>ko (K.getD u 0)) I.ho
 rwa [I.retired] at this
end
end Go.Proofs.YtfhmopghjoeamaaGreat
