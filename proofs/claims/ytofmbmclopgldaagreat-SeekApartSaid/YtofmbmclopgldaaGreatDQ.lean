/-
A part.
-/
import Derived.Test.YtofmbmclopgldaaGreatBV
set_option linter.all false
set_option maxRecDepth 100000
set_option maxHeartbeats 16000000
namespace Go.Proofs.YtofmbmclopgldaaGreat
open Go.Am Go.Proofs.Tryz
variable {O:Over}
theorem tA{xs ys:List Int}{i:Nat}(h1:i<xs.length)(h2:i<ys.length)(h:xs.take i=ys.take i)(e:xs.getD i 0=ys.getD i 0):xs.take (i+1)=ys.take (i+1):=by
 rw[List.take_add_one,List.take_add_one,h];simp[List.getD,h1,h2] at e;simp[h1,h2,e]
theorem tB(n a:Nat):(n.ble a&&a.blt n)=false:=by
 cases h:n.ble a
 ·rfl
 ·have:=Nat.le_of_ble_eq_true h;cases h2:a.blt n
  ·rfl
  ·have:=Nat.le_of_ble_eq_true h2;omega
theorem Jk{xs ys:List Int}{i:Nat}(e: ¬ xs.getD i 0=ys.getD i 0): ¬ xs=ys:=fun h=>e (by rw[h])
theorem qt(xs ys:List Int)(s t:Value)(h:PT aj)(n:Nat)(hs:aN .i64 h s xs)(ht:aN .i64 h t ys)(hl:xs.length<1000000)(zo:ys.length<1000000):
  cE prog O 55 [s,t] h n fun v h' n'=>v = .bool (decide (xs=ys))∧h'=h∧n'=n:=by
 obtain⟨a,cap,rfl,hA⟩:=hs.len;obtain⟨b,Z4,rfl,hB⟩:=ht.len;clear hs ht;refine ay (N:=26) func55 rfl rfl fun z hP hO hro hN hQ=>?_;by_cases hlen:xs.length=ys.length
 ·have KN:(xs.length:Int)=ys.length:=by omega
  repeat' first|simp(disch:=first|omega|assumption) only[go_sem, *] | (apply xs<;>intro _)<;>try omega
  refine a_ (fun t m h' n'=>h'=h∧n'=n∧∃ i:Nat,i≤xs.length∧t=xs.length-i∧xs.take i=ys.take i∧m.n=26∧m.fF=[]∧m.get 0 = .slice a xs.length cap∧m.get 1 = .slice b ys.length Z4∧m.get 5 = .int .i64 i) xs.length ?_ ?_
  ·refine⟨rfl,rfl,0,by omega,by omega,rfl,?_⟩;simp(disch:=first|omega|assumption) only[go_sem, *]
  ·rintro t m h n ih ⟨rfl,rfl,i,hi,rfl,zJ,m1,m2,m3,m4,m5⟩
   rcases Nat.lt_or_ge i xs.length with hlt |hge
   ·obtain⟨bk,off,sp,L,ro,rfl,hb,hL⟩:=hA i hlt;obtain⟨bk2,off2,sp2,L2,Es,rfl,mT,hL2⟩:=hB i qJ;have e1:(i:Int)<xs.length:=by omega
    have e2:(i:Int)<ys.length:=by omega
    clear hA hB;by_cases e3:xs.getD i 0=ys.getD i 0
    ·rw[e3] at hL;have Z5:=tA hlt qJ zJ e3
     repeat' first|simp(disch:=first|omega|assumption) only[go_sem, *,tB] | (apply xs<;>intro _)<;>try omega | ((with_reducible refine b8 6 ?_);refine dw 26 6 acu (by first | (simp only[go_sem, *];done)|rfl) (by kernel_rfl) (by kernel_rfl) ?_)
     refine ih (xs.length-(i+1)) _ _ _ qJ ⟨rfl,rfl,i+1,by omega,by omega,Z5,?_⟩;simp(disch:=first|omega|assumption) only[go_sem, *];simp
    ·have hxy:=Jk e3
     repeat' first|simp(disch:=first|omega|assumption) only[go_sem, *,tB] | (apply xs<;>intro _)<;>try omega | ((with_reducible refine b8 6 ?_);refine dw 26 6 acu (by first | (simp only[go_sem, *];done)|rfl) (by kernel_rfl) (by kernel_rfl) ?_)
   ·have e1: ¬ (i:Int)<xs.length:=by omega
    have e2: ¬ (i:Int)<ys.length:=by omega
    have hxy:xs=ys:=by
     have:=zJ
     rwa [List.take_of_length_le hge,List.take_of_length_le qJ] at this
    repeat' first|simp(disch:=first|omega|assumption) only[go_sem, *] | (apply xs<;>intro _)<;>try omega
 ·have KN: ¬ (xs.length:Int)=ys.length:=by omega
  have hxy: ¬ xs=ys:=fun e=>hlen (by rw[e])
  repeat' first|simp(disch:=first|omega|assumption) only[go_sem, *] | (apply xs<;>intro _)<;>try omega
end Go.Proofs.YtofmbmclopgldaaGreat
namespace Go.Proofs.YtofmbmclopgldaaGreat
open Go.Am Go.Proofs.Tryz
theorem yX{X:List Int}:List.take X.length (X.map (Value.int .i64))=X.map (.int .i64):=List.take_of_length_le (by simp)
def fl(o:Nat→Option Bool)(rt:Bool)(L:List Int):List Int:=L.filter fun t=>decide (o t.toNat=some rt)
theorem af'{o:Nat→Option Bool}{rt:Bool}{L:List Int}{i:Nat}(hi:i<L.length)(h:o (L.getD i 0).toNat=some rt):fl o rt (L.take (i+1))=fl o rt (L.take i)++[L.getD i 0]:=by
 unfold fl;rw[List.take_succ_eq_append_getElem hi,List.filter_append];simp only[List.getD,hi,List.getElem?_eq_getElem,Option.getD_some] at h ⊢;simp[h]
theorem Z6{o:Nat→Option Bool}{rt:Bool}{L:List Int}{i:Nat}(hi:i<L.length)(h:o (L.getD i 0).toNat≠some rt):fl o rt (L.take (i+1))=fl o rt (L.take i):=by
 unfold fl;rw[List.take_succ_eq_append_getElem hi,List.filter_append];simp only[List.getD,hi,List.getElem?_eq_getElem,Option.getD_some] at h;simp[h]
theorem Z7{o:Nat→Option Bool}{rt:Bool}{L:List Int}:(fl o rt L).length≤L.length:=List.length_filter_le _ _
theorem ofB{h:PT aj}{n bb pb rb gb ob rk xk:Nat}{R X:List cK}{G:List Int}(H:Qc h n bb pb rb gb ob R rk X xk G)(hX:oh X xk)(o:Nat→Option Bool)(ho:∀ t∈cO X,∃ (u:Nat) (x:Int),t=u∧(1≤u∧u≤G.length)∧G[u-1]? = some x∧Rs R u x (o u))(rt:Bool):
  cE prog OB 68 [pt bb,.bool rt] h n fun r h' n'=>bg .i64 h' n r (fl o rt (cO X))∧Kept h h'∧bQ h' n'∧n≤n':=by
 have H0:=H;obtain⟨W,⟨a0,a1,a3,a4,a5,a6,a7,g1⟩,g2,⟨b0,b1,b2,b3,g3⟩,g4,g5,g6⟩:=H;have n1:=W.lt g1;have RS:=hX.len;have hXn:X.length=(cO X).length:=gO.symm;refine ay (N:=40) func68 rfl rfl fun z hP hO hro hN hQ=>?_
 repeat' first|simp(disch:=first|omega|assumption) only[go_sem, *,BN] | (apply xs<;>intro _)<;>try omega
 rw[Jj g3 g5 hX];by_cases Us:X.length=0
 ·rw[if_pos Us];have ho2:cO X=[]:=List.length_eq_zero_iff.1 qJ;have hfl:fl o rt (cO X)=[]:=by rw[ho2];rfl
  clear ho
  repeat' first|simp(disch:=first|omega|assumption) only[go_sem, *] | (apply xs<;>intro _)<;>try omega
  rw[eR]
  repeat' first|simp(disch:=first|omega|assumption) only[go_sem, *] | (apply xs<;>intro _)<;>try omega
  first|exact⟨.inl ⟨rfl,hfl⟩,Nat.le_refl _⟩ |exact⟨.inl ⟨rfl,rfl⟩,Nat.le_refl _⟩ |exact⟨.inl ⟨rfl,rfl⟩,Kept.refl _,Nat.le_refl _⟩
 ·rw[if_neg Us,hXn];have k4:Kept h (h.set n (row ((cO X).map (.int .i64)))):=W.kept (Nat.le_refl _);have W4:bQ (h.set n (row ((cO X).map (.int .i64)))) (n+1):=W.set (Nat.le_succ _) (Nat.lt_succ_self _);have hrow:(h.set n (row ((cO X).map (.int .i64)))).get n=row ((cO X).map (.int .i64)):=aI;generalize h.set n _=h4 at*
  repeat' first|simp(disch:=first|omega|assumption) only[go_sem, *] | (apply xs<;>intro _)<;>try omega
  refine a_ (fun t m h' n'=>∃ (i:Nat) (sl:Value),i≤(cO X).length∧t=(cO X).length-i∧m.n=40∧m.fF=[]∧m.get 0=pt bb∧m.get 1 = .bool rt∧m.get 5=sl∧m.get 15 = .slice (some ⟨n,0,none⟩) (cO X).length (aA+1)∧m.get 16=I6 (cO X).length∧m.get 17=I6 i∧Kept h h'∧bQ h' n'∧n+1≤n'∧h'.get n=row ((cO X).map (.int .i64))∧bg .i64 h' (n+1) sl (fl o rt ((cO X).take i))) (cO X).length ?_ ?_
  ·refine⟨0,.slice none 0 0,by omega,by omega,?_⟩;simp(disch:=first|omega|assumption) only[go_sem, *];exact⟨Nat.le_refl _,.inl ⟨rfl,rfl⟩⟩
  ·clear hrow W4 k4;rintro tt m h1 n1' ih ⟨i,sl,hi,rfl,m1,m2,m3,m4,m5,m6,m7,m8,q1,q2,q3,q4,q5⟩;by_cases hlt:i<(cO X).length
   ·have e7:(i:Int)<(cO X).length:=by omega
    have hgi:((cO X).map (Value.int .i64))[i]? = some (.int .i64 ((cO X).getD i 0)):=by rw[List.getElem?_map,List.getElem?_eq_getElem hlt];simp[List.getD,hlt]
    obtain⟨u,x,hu,hu1,hu2,hu3⟩:=ho ((cO X).getD i 0) (by simp[List.getD,hlt]);have rg:=vn (H0.keep q1 q2) hu1 hu2 hu3;have PG:(i:Int)+1=((i+1:Nat):Int):=by omega
    have hfi:=@af' o rt (cO X) i hlt;have hfo:=@Z6 o rt (cO X) i hlt;rw[hu] at hgi hfi hfo;rw[Int.toNat_natCast] at hfi hfo;clear ho hu hu3;generalize hT:cO X=L at*;clear hT
    repeat' first|simp(disch:=first|omega|assumption) only[go_sem, *] | (apply xs<;>intro _)<;>try omega
    refine jg (rg) ?_;rintro r h2 n2 ⟨⟨g,q,rfl,hq⟩,k2,W2,hn2⟩;have K2:=q1.trans k2;have q4':=k2 _ _ q4;have gk:∀ {h':PT aj},Kept h1 h'→bg .i64 h' (n+1) sl (fl o rt (L.take i)):=fun k=>by
     rcases q5 with c | ⟨b,c1,c2,c3⟩
     ·exact .inl c
     ·exact .inr ⟨b,c1,c2,k _ _ c3⟩
    have kk:Kept h1 ((h2.set n2 (row [.int .i64 0,.bool false])).set n2 (row [I6 g,.bool q])):=Kept.set' q2 hn2 (Kept.set' q2 hn2 k2);have ww:bQ ((h2.set n2 (row [.int .i64 0,.bool false])).set n2 (row [I6 g,.bool q])) (n2+1):=(W2.set (Nat.le_succ _) (Nat.lt_succ_self _)).set (Nat.le_refl _) (Nat.lt_succ_self _);have kq:=gk kk;clear q5 gk;have EJ: ¬ o u=some rt→fl o rt (L.take (i+1))=fl o rt (L.take i):=hfo;cases hou:o u with
    |none=>
     have hf:=EJ (by rw[hou];simp);clear hfi hfo EJ
     repeat' first|simp(disch:=first|omega|assumption) only[go_sem, *,Option.isSome_none] | (apply xs<;>intro _)<;>try omega
     refine ih (L.length-(i+1)) _ _ _ qJ ⟨i+1,sl,by omega,rfl,?_⟩;rw[hf];clear ih;simp(disch:=first|omega|assumption) only[go_sem, *];exact⟨q1.trans kk,by omega⟩
    |some q0=>
     obtain⟨rfl,rfl⟩:=hq q0 hou;by_cases hqr:q=rt
     ·have hf:=hfi (by rw[hou,hqr]);clear hfi hfo EJ hq;subst hqr;have hbq:(q==q)=true:=by simp
      have zR:(fl o q (L.take i)).length≤1025:=Nat.le_trans Z7 (by rw[List.length_take];omega);generalize hF:fl o q (L.take i)=F at*
      rcases kq with ⟨rfl,rfl⟩ | ⟨b,rfl,w2,w3⟩
      ·repeat' first|simp(disch:=first|omega|assumption) only[go_sem, *,Option.isSome_some] | (apply xs<;>intro _)<;>try omega
       refine ih (L.length-(i+1)) _ _ _ qJ ⟨i+1,.slice (some ⟨n2+1+1,0,none⟩) 1 (aA+1),by omega,rfl,?_⟩;rw[hf];clear ih;simp(disch:=first|omega|assumption) only[go_sem, *];refine⟨Kept.set' W qJ (Kept.set' W qJ (q1.trans kk)),(ww.set (Nat.le_succ _) (Nat.lt_succ_self _)).set (Nat.le_succ _) (Nat.lt_succ_self _),by omega,.inr ⟨n2+1+1,rfl,by omega,aI⟩⟩
      ·have FH:=ww.lt w3;have zJ:=yX (X:=F);have Lb:Nat.ble (F.length+1) 1048576=true:=Nat.ble_eq_true_of_le qJ;have hsn:F.map (Value.int .i64)++[.int .i64 (u:Int)]=(F++[(u:Int)]).map (.int .i64):=by simp
       repeat' first|simp(disch:=first|omega|assumption) only[go_sem, *,Option.isSome_some] | (apply xs<;>intro _)<;>try omega
       refine ih (L.length-(i+1)) _ _ _ qJ ⟨i+1,.slice (some ⟨n2+1+1,0,none⟩) (F.length+1) (aA+1),by omega,rfl,?_⟩;rw[hf];clear ih;simp(disch:=first|omega|assumption) only[go_sem, *];refine⟨Kept.set' W qJ (Kept.set' W qJ (Kept.set' W qJ (q1.trans kk))),(((ww.set (m:=n2+1+1+1) qJ qJ).set (Nat.le_refl _) qJ).set (Nat.le_refl _) qJ),by omega,.inr ⟨n2+1+1,by simp,by omega,aI⟩⟩
     ·have hf:=EJ (by rw[hou];simpa using hqr);have hbq:(q==rt)=false:=by simpa using hqr
      clear hfi hfo EJ
      repeat' first|simp(disch:=first|omega|assumption) only[go_sem, *,Option.isSome_some] | (apply xs<;>intro _)<;>try omega
      refine ih (L.length-(i+1)) _ _ _ qJ ⟨i+1,sl,by omega,rfl,?_⟩;rw[hf];clear ih;simp(disch:=first|omega|assumption) only[go_sem, *];exact⟨q1.trans kk,by omega⟩
   ·have e7: ¬ (i:Int)<(cO X).length:=by omega
    rw[List.take_of_length_le qJ] at q5;clear ih ho
    repeat' first|simp(disch:=first|omega|assumption) only[go_sem, *] | (apply xs<;>intro _)<;>try omega
    refine⟨?_,by omega⟩
    rcases q5 with c | ⟨b,c1,c2,c3⟩
    ·exact .inl c
    ·exact .inr ⟨b,c1,by omega,c3⟩
theorem UX{h:PT aj}{n bb pb rb gb ob rk xk:Nat}{R X:List cK}{G:List Int}(H:Qc h n bb pb rb gb ob R rk X xk G)(hX:oh X xk)(o:Nat→Option Bool)(ho:∀ t∈cO X,∃ (u:Nat) (x:Int),t=u∧(1≤u∧u≤G.length)∧G[u-1]? = some x∧Rs R u x (o u)):
  cE prog OB 17 [pt bb] h n fun r h' n'=>bg .i64 h' n r (fl o false (cO X))∧Kept h h'∧bQ h' n'∧n≤n':=by
 have of:=ofB H hX o ho false;refine ay (N:=7) func17 rfl rfl fun z hP hO hro hN hQ=>?_
 repeat' first|simp(disch:=first|omega|assumption) only[go_sem, *] | (apply xs<;>intro _)<;>try omega
 refine jg (of) ?_;rintro r h2 n2 ⟨q1,q2,q3,q4⟩
 repeat' first|simp(disch:=first|omega|assumption) only[go_sem, *] | (apply xs<;>intro _)<;>try omega
theorem Qe{h:PT aj}{n bb pb rb gb ob rk xk:Nat}{R X:List cK}{G:List Int}(H:Qc h n bb pb rb gb ob R rk X xk G)(hX:oh X xk)(o:Nat→Option Bool)(ho:∀ t∈cO X,∃ (u:Nat) (x:Int),t=u∧(1≤u∧u≤G.length)∧G[u-1]? = some x∧Rs R u x (o u)):
  cE prog OB 56 [pt bb] h n fun r h' n'=>bg .i64 h' n r (fl o true (cO X))∧Kept h h'∧bQ h' n'∧n≤n':=by
 have of:=ofB H hX o ho true;refine ay (N:=7) func56 rfl rfl fun z hP hO hro hN hQ=>?_
 repeat' first|simp(disch:=first|omega|assumption) only[go_sem, *] | (apply xs<;>intro _)<;>try omega
 refine jg (of) ?_;rintro r h2 n2 ⟨q1,q2,q3,q4⟩
 repeat' first|simp(disch:=first|omega|assumption) only[go_sem, *] | (apply xs<;>intro _)<;>try omega
theorem rJ{x:Int}{e:cK}:∀ (l:List cK) (i:Nat),bW x (l++[e]) i=match bW x l i with |some r=>some r |none=>if x=e.1 then some (i+l.length,e.2.1) else none
 | [],i=>by
  rw[List.nil_append,bW,bW];simp only[List.length_nil,Nat.add_zero];split<;>rfl
 |a::l,i=>by
  rw[List.cons_append,bW,bW,rJ l (i+1)];by_cases c:x=a.1
  ·rw[if_pos c,if_pos c]
  ·rw[if_neg c,if_neg c];rw[show i+1+l.length=i+(a::l).length by rw[List.length_cons];omega]
theorem tC{x t:Int}{v w:Value}{c:Nat}(hx:x≠t):∀ (l:List cK) (i j:Nat),l[j]? = some (t,w,c)→bW x (l.set j (t,v,c)) i=bW x l i
 | [],_,_,h=>by simp at h
 |a::l,i,0,h=>by
  simp only[List.getElem?_cons_zero,Option.some.injEq] at h;subst h;rw[List.set_cons_zero,bW,bW,if_neg hx,if_neg hx]
 |a::l,i,j+1,h=>by
  rw[List.set_cons_succ,bW,bW,tC hx l (i+1) j (by simpa using h)]
theorem tD{t:Int}{v w:Value}{c:Nat}:∀ (l:List cK) (i j:Nat),bW t l i=some (i+j,w)→l[j]? = some (t,w,c)→bW t (l.set j (t,v,c)) i=some (i+j,v)
 | [],_,_,h,_=>by simp[bW] at h
 |a::l,i,0,h,h2=>by
  rw[List.set_cons_zero,bW,if_pos rfl];rfl
 |a::l,i,j+1,h,h2=>by
  rw[bW] at h;split at h
  ·simp only[Option.some.injEq,Prod.mk.injEq] at h;have:=h.1;omega
  ·rename_i q;rw[List.set_cons_succ,bW,if_neg q];have:=tD (v:=v) l (i+1) j (by rw[h,show i+(j+1)=i+1+j by omega]) (by simpa using h2);rw[this,show i+(j+1)=i+1+j by omega]
theorem EK{R:List cK}{rk t:Nat}{v:Value}:∃ i,bW (t:Int) (uy R rk t v).1 0=some (i,v):=by
 unfold uy;cases hf:bW (t:Int) R 0 with
 |none=>exact⟨R.length,by simp only[rJ,hf,if_pos];simp⟩
 |some iv=>
  obtain⟨i,w⟩:=iv;obtain⟨c,hc⟩:=yV hf;simp only[hc];exact⟨i,by have:=tD (v:=v) R 0 i (by rw[hf];simp) hc;rw[this];simp⟩
theorem Ct{R:List cK}{rk t:Nat}{v:Value}{x:Int}(hx:x≠t):bW x (uy R rk t v).1 0=bW x R 0:=by
 unfold uy;cases hf:bW (t:Int) R 0 with
 |none=>
  simp only[rJ,if_neg hx];cases bW x R 0<;>rfl
 |some iv=>
  obtain⟨i,w⟩:=iv;obtain⟨c,hc⟩:=yV hf;simp only[hc];exact tC hx R 0 i hc
def ko(k:Int):Option Bool:=if k=2 then some false else if k=3 then some true else none
def mP(p:Int→Bool)(K:List Int)(m:Nat):List Int:=((List.range m).filter fun i=>p (K.getD (i+1) 0)).map fun i:Nat=>((i+1:Nat):Int)
theorem HF{p:Int→Bool}{K:List Int}{m:Nat}(h:p (K.getD (m+1) 0)=true):mP p K (m+1)=mP p K m++[((m+1:Nat):Int)]:=by
 unfold mP;rw[List.range_succ,List.filter_append,List.map_append,List.filter_cons_of_pos (p:=fun i=>p (K.getD (i+1) 0)) h];rfl
theorem Cu{p:Int→Bool}{K:List Int}{m:Nat}(h:p (K.getD (m+1) 0)=false):mP p K (m+1)=mP p K m:=by
 unfold mP;rw[List.range_succ,List.filter_append,List.map_append,List.filter_cons_of_neg (p:=fun i=>p (K.getD (i+1) 0)) (by show ¬p (K.getD (m+1) 0)=true;rw[h];simp)];simp
theorem tE{p:Int→Bool}{K:List Int}{m:Nat}:(mP p K m).length≤m:=by
 unfold mP;rw[List.length_map];exact Nat.le_trans (List.length_filter_le _ _) (by rw[List.length_range];exact Nat.le_refl _)
theorem Jl{p:Int→Bool}{K:List Int}{m:Nat}{x:Int}:x∈mP p K m↔∃ u:Nat,x=u∧1≤u∧u≤m∧p (K.getD u 0)=true:=by
 unfold mP;rw[List.mem_map];constructor
 ·rintro ⟨i,hi,rfl⟩;rw[List.mem_filter,List.mem_range] at hi;exact⟨i+1,rfl,by omega,by omega,hi.2⟩
 ·rintro ⟨u,rfl,h1,h2,h3⟩;refine⟨u-1,?_,by omega⟩;rw[List.mem_filter,List.mem_range,show u-1+1=u by omega];exact⟨by omega,h3⟩
theorem HG{p:Int→Bool}{K:List Int}{m:Nat}:(mP p K m).Pairwise (·<·):=by
 induction m with
 |zero=>exact List.Pairwise.nil
 |succ m ih=>
  cases h:p (K.getD (m+1) 0) with
  |true=>
   rw[HF h,List.pairwise_append];refine⟨ih,List.pairwise_singleton _ _,fun a ha b hb=>?_⟩;obtain⟨u,rfl,-,h2,-⟩:=Jl.1 ha;rw[List.mem_singleton] at hb;omega
  |false=>rw[Cu h];exact ih
theorem yY:∀ {l m:List Int},l.Pairwise (·<·)→m.Pairwise (·<·)→(∀ x,x∈l↔x∈m)→l=m
 | [],[],_,_,_=>rfl
 | [],y::m,_,_,h=>by have:=(h y).2 (by simp);simp at this
 |x::l,[],_,_,h=>by have:=(h x).1 (by simp);simp at this
 |x::l,y::m,h1,h2,h=>by
  obtain⟨a1,a2⟩:=List.pairwise_cons.1 h1;obtain⟨b1,b2⟩:=List.pairwise_cons.1 h2;have hxy:x=y:=by
   rcases List.mem_cons.1 ((h x).1 (by simp)) with e |e
   ·exact e
   ·rcases List.mem_cons.1 ((h y).2 (by simp)) with e2 |e2
    ·exact e2.symm
    ·have:=a1 y e2;have:=b1 x e;omega
  subst hxy
  congr 1
  refine yY a2 b2 fun z=>⟨fun hz=>?_,fun hz=>?_⟩
  ·rcases List.mem_cons.1 ((h z).1 (by simp[hz])) with e |e
   ·have:=a1 z hz;omega
   ·exact e
  ·rcases List.mem_cons.1 ((h z).2 (by simp[hz])) with e |e
   ·have:=b1 z hz;omega
   ·exact e
theorem EL{X:List cK}{xk:Nat}(H:oh X xk):(cO X).Pairwise (·<·):=by
 have h1:=nN (X.map fun e=>e.1);have h2:(cO X).Nodup:=(kR _).nodup_iff.2 H.nd;exact List.Pairwise.imp (fun {a b} (h:a≤b∧a≠b)=>by omega) (h1.and h2)
structure Ri(n:Nat)(H:List Int)(stk:Nat→List Nat)(X:List cK)(xk:Nat)(G:List Int)(R:List cK)(K:List Int)(b:Int):Prop where
 UY:K.length=n+1
 k0:K.getD 0 0=0
 kv:∀ u,0≤K.getD u 0∧K.getD u 0≤3
 n1:n≤1024
 UZ:G.length=n
 free:∀ j t,j<6→t∈stk j→K.getD t 0=0
 ox:oh X xk
 out:∀ x,(∃ e∈X,e.1=x)↔∃ u:Nat,x=u∧1≤u∧u≤n∧K.getD u 0≠0
 gb:∀ u,0≤G.getD u 0∧G.getD u 0≤b
 rs:∀ u,1≤u→u≤n→Rs R u (G.getD (u-1) 0) (ko (K.getD u 0))
 rb:∀ u i v,1≤u→u≤n→bW ((u:Nat):Int) R 0=some (i,v)→∃ g r,v = .agg ⟨[.int .i64 g,.bool r]⟩∧g≤G.getD (u-1) 0
section
variable {n xk:Nat} {H G K:List Int} {stk:Nat→List Nat} {X R:List cK} {b:Int}
theorem Ri.Qf(I:Ri n H stk X xk G R K b):cO X=mP (fun k=>decide (k≠0)) K n:=by
 refine yY (EL I.ox) HG fun x=>?_;rw[yU,I.out x,Jl];simp only[decide_eq_true_eq]
theorem yZ{p:Int→Bool}{o:Nat→Option Bool}{rt:Bool}{m:Nat}{q:Int→Bool}(h:∀ u,(p (K.getD u 0)&&decide (o u=some rt))=q (K.getD u 0)):fl o rt (mP p K m)=mP q K m:=by
 unfold fl mP;rw[List.filter_map,List.filter_filter]
 congr 1
 refine List.filter_congr fun i _=>?_;rw[←h (i+1),Bool.and_comm];rfl
theorem Ri.linked(I:Ri n H stk X xk G R K b):fl (fun u=>ko (K.getD u 0)) false (cO X)=mP (fun k=>decide (k=2)) K n:=by
 rw[I.Qf];refine yZ fun u=>?_;generalize K.getD u 0=k;simp only[ko];by_cases c:k=2
 ·subst c;simp
 ·by_cases c3:k=3
  ·subst c3;simp
  ·simp[c,c3]
theorem Ri.retired(I:Ri n H stk X xk G R K b):fl (fun u=>ko (K.getD u 0)) true (cO X)=mP (fun k=>decide (k=3)) K n:=by
 rw[I.Qf];refine yZ fun u=>?_;generalize K.getD u 0=k;simp only[ko];by_cases c:k=2
 ·subst c;simp
 ·by_cases c3:k=3
  ·subst c3;simp
  ·simp[c,c3]
theorem eX{L:List Int}{i j:Nat}{x:Int}(hi:i<L.length):(L.set i x).getD j 0=if j=i then x else L.getD j 0:=by
 simp only[List.getD];by_cases c:j=i
 ·subst c;rw[if_pos rfl,List.getElem?_set_self hi];rfl
 ·rw[if_neg c,List.getElem?_set_ne (Ne.symm c)]
theorem Ri.take(I:Ri n H stk X xk G R K b){j a:Nat}{r:List Nat}(hj:j<6)(he:stk j=a::r)(ha:1≤a∧a≤n)(hnd:∀ k,k<6→(stk k).Nodup)(XT:∀ k t,k<6→t∈stk k→t=a→k=j):
  Ri n H (up1 stk j r) (X++[((a:Int),.bool false,xk)]) (xk+1) G R (K.set a 1) b:=by
 have hK0:=I.free j a hj (by rw[he];simp);have hlt:a<K.length:=by rw[I.UY];omega
 have hna:∀ e∈X,e.1≠(a:Int):=fun e hm c=>by
  obtain⟨u,hu,_,_,h4⟩:=(I.out a).1 ⟨e,hm,c⟩;have:u=a:=by omega
  subst this;exact h4 hK0
 have Qg:∀ u,ko ((K.set a 1).getD u 0)=ko (K.getD u 0):=fun u=>by
  rw[eX hlt];split
  ·rename_i c;rw[c,hK0];rfl
  ·rfl
 refine⟨by rw[List.length_set];exact I.UY,by rw[eX hlt,if_neg qJ];exact I.k0,fun u=>?_,I.n1,I.UZ,fun k t hk ht=>?_,?_,fun x=>?_,I.gb,fun u h1 h2=>by rw[Qg];exact I.rs u h1 h2,I.rb⟩
 ·rw[eX hlt];split
  ·omega
  ·exact I.kv u
 ·rw[eX hlt];by_cases c:k=j
  ·subst c;rw[jU] at ht;have:=hnd k hk;rw[he] at this;rw[if_neg fun q:t=a=>(List.nodup_cons.1 this).1 (by rw[←q];exact ht)];exact I.free k t hk (by rw[he];simp[ht])
  ·rw[pM c] at ht;rw[if_neg fun q=>c (XT k t hk ht q)];exact I.free k t hk ht
 ·obtain⟨o1,o2,o3,o4,o5⟩:=I.ox;refine⟨fun e hm=>?_,?_,fun e hm=>?_,fun e hm=>?_,?_⟩
  ·rcases List.mem_append.1 hm with q |q
   ·exact o1 e q
   ·rw[List.mem_singleton.1 q]
  ·rw[List.map_append,List.map_singleton,List.nodup_append];refine⟨o2,by simp,fun x hx y hy=>?_⟩;obtain⟨e,hm,rfl⟩:=List.mem_map.1 hx;rw[List.mem_singleton] at hy;rw[hy];exact hna e hm
  ·rcases List.mem_append.1 hm with q |q
   ·exact o3 e q
   ·rw[List.mem_singleton.1 q];have:=I.n1;exact⟨by omega,by show (a:Int)≤1024;omega⟩
  ·rcases List.mem_append.1 hm with q |q
   ·have:=o4 e q;omega
   ·rw[List.mem_singleton.1 q];exact Nat.lt_succ_self _
  ·rw[List.map_append,List.map_singleton,List.nodup_append];refine⟨o5,by simp,fun x hx y hy=>?_⟩;obtain⟨e,hm,rfl⟩:=List.mem_map.1 hx;have hy:y=xk:=List.mem_singleton.1 hy;have:=o4 e hm;omega
 ·constructor
  ·rintro ⟨e,hm,rfl⟩
   rcases List.mem_append.1 hm with q |q
   ·obtain⟨u,h1,h2,h3,h4⟩:=(I.out e.1).1 ⟨e,q,rfl⟩;refine⟨u,h1,h2,h3,?_⟩;rw[eX hlt];split
    ·omega
    ·exact h4
   ·rw[List.mem_singleton.1 q];exact⟨a,rfl,ha.1,ha.2,by rw[eX hlt,if_pos rfl];decide⟩
  ·rintro ⟨u,rfl,h2,h3,h4⟩;by_cases c:u=a
   ·subst c;exact⟨_,List.mem_append_right _ (List.mem_singleton.2 rfl),rfl⟩
   ·rw[eX hlt,if_neg c] at h4;obtain⟨e,hm,q⟩:=(I.out u).2 ⟨u,rfl,h2,h3,h4⟩;exact⟨e,List.mem_append_left _ hm,q⟩
theorem Ri.put(I:Ri n H stk X xk G R K b){t rk:Nat}{k:Int}{q:Bool}(ht:1≤t∧t≤n)(hK:K.getD t 0≠0)(hk:ko k=some q)(hk3:1≤k∧k≤3):
  Ri n H stk X xk G (uy R rk t (.agg ⟨[.int .i64 (G.getD (t-1) 0),.bool q]⟩)).1 (K.set t k) b:=by
 have hlt:t<K.length:=by rw[I.UY];omega
 refine⟨by rw[List.length_set];exact I.UY,by rw[eX hlt,if_neg qJ];exact I.k0,fun u=>?_,I.n1,I.UZ,fun j a hj ha=>?_,I.ox,fun x=>?_,I.gb,fun u h1 h2=>?_,fun u i v h1 h2 hf=>?_⟩
 ·rw[eX hlt];split
  ·omega
  ·exact I.kv u
 ·have:=I.free j a hj ha;rw[eX hlt,if_neg fun c:a=t=>hK (by rw[←c];exact this)];exact this
 ·rw[I.out x];constructor
  ·rintro ⟨u,h1,h2,h3,h4⟩;refine⟨u,h1,h2,h3,?_⟩;rw[eX hlt];split
   ·omega
   ·exact h4
  ·rintro ⟨u,h1,h2,h3,h4⟩;refine⟨u,h1,h2,h3,?_⟩;rw[eX hlt] at h4;split at h4
   ·rename_i c;rw[c];exact hK
   ·exact h4
 ·by_cases c:u=t
  ·subst c;rw[eX hlt,if_pos rfl,hk];exact EK
  ·rw[eX hlt,if_neg c];have:=I.rs u h1 h2;cases ho:ko (K.getD u 0) with
   |none=>
    rw[ho] at this
    rcases this with e | ⟨i,g,r,e,e2⟩
    ·exact .inl (by rw[Ct qJ];exact e)
    ·exact .inr ⟨i,g,r,by rw[Ct qJ];exact e,e2⟩
   |some q'=>
    rw[ho] at this;obtain⟨i,e⟩:=this;exact⟨i,by rw[Ct qJ];exact e⟩
 ·by_cases c:u=t
  ·subst c;obtain⟨i',e⟩:=EK (R:=R) (rk:=rk) (t:=u) (v := .agg ⟨[.int .i64 (G.getD (u-1) 0),.bool q]⟩);rw[e] at hf;simp only[Option.some.injEq,Prod.mk.injEq] at hf;exact⟨_,_,hf.2.symm,Int.le_refl _⟩
  ·rw[Ct qJ] at hf;exact I.rb u i v h1 h2 hf
end
end Go.Proofs.YtofmbmclopgldaaGreat
namespace Go.Proofs.YtofmbmclopgldaaGreat
open Go.Am
section
variable {h1 h h':PT aj} {n1 n n' lb:Nat} {l:dg} {mk ev:Value} {p5 p6:Nat} {W:List Int} {stk:Nat→List Nat} {tag:Nat→Int} {X:List cK} {xk:Nat} {G:List Int} {R:List cK} {rk k:Nat} {d d':Rl→Nat} {C C':Rl→Option aj} {Y:List Nat} {K:List Int} {b:Int}
theorem Ri.ho(I:Ri n l.H stk X xk G R K b):∀ t∈cO X,∃ (u:Nat) (x:Int),t=u∧(1≤u∧u≤G.length)∧G[u-1]? = some x∧Rs R u x (ko (K.getD u 0)):=fun t ht=>by
 obtain⟨u,rfl,u1,u2,-⟩:=(I.out t).1 (yU.1 ht);have hl:u-1<G.length:=by rw[I.UZ];omega
 exact⟨u,G.getD (u-1) 0,rfl,⟨u1,by rw[I.UZ];exact u2⟩,by simp[List.getD,hl],I.rs u u1 u2⟩
end
def Bs(h1:PT aj)(n1 lb:Nat)(l:dg)(mk ev:Value)(p5 p6:Nat)(b:Int)(k:Nat)(K:List Int)(d:Rl→Nat)(C:Rl→Option aj)(h:PT aj)(n:Nat):Prop:=
 ∃ W stk tag X xk G R rk,Po h1 n1 lb l mk ev p5 p6 W stk tag X xk G R rk k d C h n∧Ri l.H.length l.H stk X xk G R K b
structure Own(d:Rl→Nat)(C:Rl→Option aj)(d':Rl→Nat)(C':Rl→Option aj):Prop where
 bb:d' (70,0)=d (70,0)
 own:∀ a,90≤a→a≤99→d' (a,0)=d (a,0)∧C' (a,0)=C (a,0)
section
variable {h1 h:PT aj} {n1 n lb:Nat} {l:dg} {mk ev:Value} {p5 p6 k:Nat} {d:Rl→Nat} {C:Rl→Option aj} {K:List Int} {b:Int}
end
end Go.Proofs.YtofmbmclopgldaaGreat
namespace Go.Proofs.YtofmbmclopgldaaGreat
open Go.Am Go.Proofs.Tryz
variable {O:Over}
theorem HI(xs ys:List Int)(s t:Value)(h:PT aj)(n:Nat)(hs:aN .u64 h s xs)(ht:aN .u64 h t ys)(hl:xs.length<1000000)(zo:ys.length<1000000):
  cE prog O 18 [s,t] h n fun v h' n'=>v = .bool (decide (xs=ys))∧h'=h∧n'=n:=by
 obtain⟨a,cap,rfl,hA⟩:=hs.len;obtain⟨b,Z4,rfl,hB⟩:=ht.len;clear hs ht;refine ay (N:=26) func18 rfl rfl fun z hP hO hro hN hQ=>?_;by_cases hlen:xs.length=ys.length
 ·have KN:(xs.length:Int)=ys.length:=by omega
  repeat' first|simp(disch:=first|omega|assumption) only[go_sem, *] | (apply xs<;>intro _)<;>try omega
  refine a_ (fun t m h' n'=>h'=h∧n'=n∧∃ i:Nat,i≤xs.length∧t=xs.length-i∧xs.take i=ys.take i∧m.n=26∧m.fF=[]∧m.get 0 = .slice a xs.length cap∧m.get 1 = .slice b ys.length Z4∧m.get 5 = .int .i64 i) xs.length ?_ ?_
  ·refine⟨rfl,rfl,0,by omega,by omega,rfl,?_⟩;simp(disch:=first|omega|assumption) only[go_sem, *]
  ·rintro t m h n ih ⟨rfl,rfl,i,hi,rfl,zJ,m1,m2,m3,m4,m5⟩
   rcases Nat.lt_or_ge i xs.length with hlt |hge
   ·obtain⟨bk,off,sp,L,ro,rfl,hb,hL⟩:=hA i hlt;obtain⟨bk2,off2,sp2,L2,Es,rfl,mT,hL2⟩:=hB i qJ;have e1:(i:Int)<xs.length:=by omega
    have e2:(i:Int)<ys.length:=by omega
    clear hA hB;by_cases e3:xs.getD i 0=ys.getD i 0
    ·rw[e3] at hL;have Z5:=tA hlt qJ zJ e3
     repeat' first|simp(disch:=first|omega|assumption) only[go_sem, *,tB] | (apply xs<;>intro _)<;>try omega | ((with_reducible refine b8 6 ?_);refine dw 26 6 acp (by first | (simp only[go_sem, *];done)|rfl) (by kernel_rfl) (by kernel_rfl) ?_)
     refine ih (xs.length-(i+1)) _ _ _ qJ ⟨rfl,rfl,i+1,by omega,by omega,Z5,?_⟩;simp(disch:=first|omega|assumption) only[go_sem, *];simp
    ·have hxy:=Jk e3
     repeat' first|simp(disch:=first|omega|assumption) only[go_sem, *,tB] | (apply xs<;>intro _)<;>try omega | ((with_reducible refine b8 6 ?_);refine dw 26 6 acp (by first | (simp only[go_sem, *];done)|rfl) (by kernel_rfl) (by kernel_rfl) ?_)
   ·have e1: ¬ (i:Int)<xs.length:=by omega
    have e2: ¬ (i:Int)<ys.length:=by omega
    have hxy:xs=ys:=by
     have:=zJ
     rwa [List.take_of_length_le hge,List.take_of_length_le qJ] at this
    repeat' first|simp(disch:=first|omega|assumption) only[go_sem, *] | (apply xs<;>intro _)<;>try omega
 ·have KN: ¬ (xs.length:Int)=ys.length:=by omega
  have hxy: ¬ xs=ys:=fun e=>hlen (by rw[e])
  repeat' first|simp(disch:=first|omega|assumption) only[go_sem, *] | (apply xs<;>intro _)<;>try omega
end Go.Proofs.YtofmbmclopgldaaGreat
