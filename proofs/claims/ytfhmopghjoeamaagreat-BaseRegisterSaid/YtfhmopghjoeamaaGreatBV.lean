/-
  A part of the proof: contracts of inner functions.
-/
import Derived.Test.YtfhmopghjoeamaaGreatBT
set_option linter.unusedVariables false
set_option linter.unusedSimpArgs false
namespace Go.Proofs.YtfhmopghjoeamaaGreat
open Go.Am
set_option maxRecDepth 100000 in
set_option maxHeartbeats 8000000 in
theorem KA {h:PT aj} {n:Nat} {L:List Int} {s:Value} {t:Int} (hs:(s = .slice none 0 0∧L=[])∨∃ b c,s = .slice (some ⟨b,0,none⟩) L.length c∧h.get b=row (L.map (.int .i64))) (hl:L.length≤10000):
  cT Tryz.prog OB 103 [s,I6 t] h n fun r h' n'=>(∃ k:Int,r=I6 k ∧ -1≤k∧k≤10000∧(0≤k↔t∈L))∧h'=h∧n'=n:=by
 obtain⟨a,c,rfl,ha⟩:∃ a c,s = .slice a L.length c∧(0<L.length→∃ b,a=some ⟨b,0,none⟩∧h.get b=row (L.map (.int .i64))):=by
  rcases hs with ⟨rfl,rfl⟩ | ⟨b,c,rfl,hb⟩
  ·exact⟨_,_,rfl,fun q=>absurd q (by simp)⟩
  ·exact⟨_,_,rfl,fun _=>⟨b,rfl,hb⟩⟩
 refine aB (N:=19) Tryz.func103 rfl rfl fun z hP hO hro hN hQ=>?_
 repeat' first |simp(maxSteps:=2000000) (disch:=first |omega |assumption) only[go_sem, *] | (apply xs<;>intro _)<;>try omega
 refine cU (fun tt m h' n'=>∃ i:Nat,i≤L.length∧tt=L.length-i∧m.n=19∧m.fO=[]∧m.get 0 = .slice a L.length c∧m.get 1=I6 t∧m.get 7=I6 L.length∧m.get 8=I6 i∧h'=h∧n'=n∧∀ j,j<i→L.getD j 0≠t) L.length ?_ ?_
 ·refine⟨0,by omega,by omega,?_⟩
  simp(maxSteps:=2000000) (disch:=first |omega |assumption) only[go_sem, *]
  exact fun j hj=>absurd hj (by omega)
 ·rintro tt m h' n' ih ⟨i,hi,rfl,m1,m2,m3,m4,m5,m6,rfl,rfl,q⟩
  by_cases hlt:i<L.length
  ·obtain⟨b,rfl,hb⟩:=ha (by omega)
   have e7:(i:Int)<L.length:=by omega
   have hg:(L.map (Value.int .i64))[i]? = some (.int .i64 (L.getD i 0)):=by rw[List.getElem?_map,List.getElem?_eq_getElem hlt];simp[List.getD,hlt]
   have OW:(i:Int)+1=((i+1:Nat):Int):=by omega
   have hmem:L.getD i 0∈L:=by simp[List.getD,hlt]
   clear ha
   by_cases hx:t=L.getD i 0
   ·clear ih q
    rw[←hx] at hmem hg
    repeat' first |simp(maxSteps:=2000000) (disch:=first |omega |assumption) only[go_sem, *] | (apply xs<;>intro _)<;>try omega
    exact⟨_,rfl,by omega,by omega,fun _=>by rw[←hx];exact hmem,fun _=>by omega⟩
   ·have hne:L.getD i 0≠t:=fun e=>hx e.symm
    have q2:∀ j,j<i+1→ ¬L.getD j 0=t:=fun j hj=>by
     by_cases c:j=i
     ·rw[c];exact hne
     ·exact q j (by omega)
    generalize L.getD i 0=y at*
    clear q
    repeat' first |simp(maxSteps:=2000000) (disch:=first |omega |assumption) only[go_sem, *] | (apply xs<;>intro _)<;>try omega
    refine ih (L.length-(i+1)) _ _ _ (by omega) ⟨i+1,by omega,rfl,?_⟩
    clear ih
    simp(maxSteps:=2000000) (disch:=first |omega |assumption) only[go_sem, *]
    exact q2
  ·have e7: ¬ (i:Int)<L.length:=by omega
   have hno:t∉L:=fun hm=>by
    obtain⟨j,hj,e⟩:=List.mem_iff_getElem.1 hm
    exact q j (by omega) (by simp[List.getD,hj,e])
   clear ih ha
   repeat' first |simp(maxSteps:=2000000) (disch:=first |omega |assumption) only[go_sem, *] | (apply xs<;>intro _)<;>try omega
   exact⟨_,rfl,by omega,by omega,fun c=>absurd c (by decide),fun c=>by first |exact absurd c hno |exact absurd c id⟩
set_option maxRecDepth 100000 in
set_option maxHeartbeats 8000000 in
theorem nV {h:PT aj} {n:Nat} {L:List Int} {s:Value} {t:Int} (hs:(s = .slice none 0 0∧L=[])∨∃ b c,s = .slice (some ⟨b,0,none⟩) L.length c∧h.get b=row (L.map (.int .i64))) (hl:L.length≤10000):
  cT Tryz.prog OB 64 [s,I6 t] h n fun r h' n'=>r = .bool (decide (t∈L))∧h'=h∧n'=n:=by
 have ix:=KA (t:=t) (n:=n) hs hl
 refine aB (N:=9) Tryz.func64 rfl rfl fun z hP hO hro hN hQ=>?_
 repeat' first |simp(maxSteps:=2000000) (disch:=first |omega |assumption) only[go_sem, *] | (apply xs<;>intro _)<;>try omega
 refine fL (ix) (by simp only[*]) (by simp only[*]) (by simp only[go_sem, *]) (by simp only[go_sem, *]) ?_
 rintro r h2 n2 ⟨⟨k,rfl,k1,k2,k3⟩,rfl,rfl⟩
 by_cases c:t∈L
 ·have q:=k3.2 c
  have hd:decide (t∈L)=true:=decide_eq_true c
  clear k3
  repeat' first |simp(maxSteps:=2000000) (disch:=first |omega |assumption) only[go_sem, *] | (apply xs<;>intro _)<;>try omega
 ·have q: ¬ 0≤k:=fun e=>c (k3.1 e)
  have hd:decide (t∈L)=false:=decide_eq_false c
  clear k3
  repeat' first |simp(maxSteps:=2000000) (disch:=first |omega |assumption) only[go_sem, *] | (apply xs<;>intro _)<;>try omega
def bB (X:List bp):List Int:=ij (X.map fun e=>e.1)
structure iV (X:List bp) (xk:Nat):Prop where
 val:∀ e∈X,e.2.1 = .bool false
 nd:(X.map fun e=>e.1).Nodup
 wf:∀ e∈X,0≤e.1∧e.1≤1024
 st:∀ e∈X,e.2.2<xk
 sd:(X.map fun e=>e.2.2).Nodup
theorem sI {m:Nat} {l:List Int} (hn:l.Nodup) (hb:∀ x∈l,0≤x∧x<m):l.length≤m:=by
 have h:=hn.length_le_of_subset (l₂:=(List.range m).map fun k:Nat=>(k:Int)) fun x hx=>by
  have:=hb x hx
  exact List.mem_map.2 ⟨x.toNat,List.mem_range.2 (by omega),by omega⟩
 simpa using h
theorem DT:∀ {l:List Int},l.Nodup→LZ l=true
 | [],_=>rfl
 |x::l,h=>by
  obtain⟨h1,h2⟩:=List.nodup_cons.1 h
  simp only[LZ,Bool.and_eq_true,Bool.not_eq_true',List.any_eq_false,decide_eq_true_eq]
  exact⟨fun y hy e=>h1 (e ▸ hy),DT h2⟩
theorem DU:∀ {l:List Nat},l.Nodup→LY l=true
 | [],_=>rfl
 |x::l,h=>by
  obtain⟨h1,h2⟩:=List.nodup_cons.1 h
  simp only[LY,Bool.and_eq_true,Bool.not_eq_true',List.any_eq_false]
  exact⟨fun y hy e=>h1 (Nat.eq_of_beq_eq_true e ▸ hy),DU h2⟩
theorem qP:∀ {X:List bp},(∀ e∈X,e.2.1 = .bool false)→oG (bA .i64 X)=some (X.map fun e=>e.1)
 | [],_=>rfl
 | (x,v,c)::X,h=>by
  obtain rfl:v = .bool false:=h (x,v,c) (by simp)
  have ih:=qP (X:=X) fun e he=>h e (by simp[he])
  unfold bA at*
  simp only[List.map_cons,oG,ih]
theorem iV.ok {X:List bp} {xk:Nat} (H:iV X xk):Ou (bA .i64 X) xk (X.map fun e=>e.1)=true:=by
 obtain⟨h1,h2,h3,h4,h5⟩:=H
 unfold Ou
 simp only[Bool.and_eq_true,List.all_eq_true]
 refine⟨⟨⟨⟨fun x hx=>?_,DT h2⟩,fun e he=>?_⟩,?_⟩,?_⟩
 ·obtain⟨e,he,rfl⟩:=List.mem_map.1 hx
  have:=h3 e he
  have k1:IntKind.i64.min = -9223372036854775808:=rfl
  have k2:IntKind.i64.max=9223372036854775807:=rfl
  simp only[Lit.wf,k1,k2,Bool.and_eq_true,decide_eq_true_eq]
  omega
 ·unfold bA at he
  obtain⟨q,hq,rfl⟩:=List.mem_map.1 he
  exact Nat.ble_eq_true_of_le (h4 q hq)
 ·refine DU ?_
  rw[show (bA .i64 X).map (fun e=>e.2.2)=X.map fun e=>e.2.2 by unfold bA;rw[List.map_map];rfl]
  exact h5
 ·refine Nat.ble_eq_true_of_le ?_
  have:=sI (m:=1025) h2 fun x hx=>by
   obtain⟨e,he,rfl⟩:=List.mem_map.1 hx
   have:=h3 e he
   omega
  rw[List.length_map] at this
  unfold bA
  rw[List.length_map]
  omega
theorem iV.len {X:List bp} {xk:Nat} (H:iV X xk):X.length≤1025:=by
 have:=sI (m:=1025) H.nd fun x hx=>by
  obtain⟨e,he,rfl⟩:=List.mem_map.1 hx
  have:=H.wf e he
  omega
 rwa [List.length_map] at this
theorem cK {X:List bp}:(bB X).length=X.length:=by unfold bB;rw[(gQ _).length_eq,List.length_map]
theorem mX {X:List bp} {x:Int}:x∈bB X↔∃ e∈X,e.1=x:=by unfold bB;rw[(gQ _).mem_iff,List.mem_map]
theorem pz {z:Zx} {f:Value→AP aE} {d:Option Nat} {ops r:List Oper} {K:List KF} {m:Tm} {h:PT aj} {n pb rr xk:Nat} {v0 v1 v2 v3 v5:Value} {X:List bp} (hp:h.get pb=row [v0,v1,v2,v3,.map (some rr),v5]) (hm:h.get rr=some (.map (bA .i64 X) xk)) (H:iV X xk):
  iC z ((FX ⟨pb,0,none⟩).bind f) d ops r K m h n↔if X.length=0 then iC z (f (.slice none 0 0)) d ops r K m h n else iC z (f (.slice (some ⟨n,0,none⟩) X.length (aA+1))) d ops r K m (h.set n (row ((bB X).map (.int .i64)))) (n+1):=by
 have hk:=qP H.val
 have hlen:=cK (X:=X)
 unfold FX
 have hok:=H.ok
 have hL:ij (X.map fun e=>e.1)=bB X:=rfl
 simp only[AP.bind,tJ,hp,qp,PT.aF,Nat.zero_add,List.getElem?_cons_succ,List.getElem?_cons_zero,hm,hk,hok,cond_true,hL]
 unfold JU
 by_cases c:X.length=0
 ·rw[if_pos c]
  have:bB X=[]:=List.length_eq_zero_iff.1 (by omega)
  rw[this]
  rfl
 ·rw[if_neg c]
  cases ho:bB X with
  |nil=>rw[ho] at hlen;simp at hlen;omega
  |cons y L=>rw[ho] at hlen;rw[←hlen];rfl
def Rs (R:List bp) (t:Nat) (x:Int):Option Bool→Prop
 |none=>aT (t:Int) R 0=none∨∃ i g r,aT (t:Int) R 0=some (i,.agg ⟨[.int .i64 g,.bool r]⟩)∧g≠x
 |some r=>∃ i,aT (t:Int) R 0=some (i,.agg ⟨[.int .i64 x,.bool r]⟩)
structure Bb (h:PT aj) (n bb pb rb gb ob:Nat) (R:List bp) (rk:Nat) (X:List bp) (xk:Nat) (G:List Int):Prop where
 wf:bX h n
 base:∃ v0 v1 v3 v4 v5 v6 v7,h.get bb=row [v0,v1,pt pb,v3,v4,v5,v6,v7,.map (some rb)]
 reg:h.get rb=some (.map (bA .i64 R) rk)
 pool:∃ v0 v1 v2 v3,h.get pb=row [v0,v1,v2,v3,.map (some ob),.slice (some ⟨gb,0,none⟩) G.length G.length]
 DG:h.get gb=row (G.map (.int .i64))
 out:h.get ob=some (.map (bA .i64 X) xk)
 len:G.length≤1024
theorem Bb.keep {h h':PT aj} {n n' bb pb rb gb ob:Nat} {R:List bp} {rk:Nat} {X:List bp} {xk:Nat} {G:List Int} (H:Bb h n bb pb rb gb ob R rk X xk G) (k:Kept h h') (w:bX h' n'):Bb h' n' bb pb rb gb ob R rk X xk G:=by
 obtain⟨h1,⟨a0,a1,a3,a4,a5,a6,a7,h2⟩,h3,⟨b0,b1,b2,b3,h4⟩,h5,h6,h7⟩:=H
 exact⟨w,⟨_,_,_,_,_,_,_,k _ _ h2⟩,k _ _ h3,⟨_,_,_,_,k _ _ h4⟩,k _ _ h5,k _ _ h6,h7⟩
set_option maxRecDepth 100000 in
set_option maxHeartbeats 8000000 in
theorem fN {h:PT aj} {n bb pb rb gb ob t rk xk:Nat} {R X:List bp} {G:List Int} {x:Int} {o:Option Bool} (H:Bb h n bb pb rb gb ob R rk X xk G) (ht:1≤t∧t≤G.length) (hG:G[t-1]? = some x) (hR:Rs R t x o):
  cT Tryz.prog OB 63 [pt bb,I6 t] h n fun r h' n'=>(∃ g q,r=oF [.agg ⟨[I6 g,.bool q]⟩,.bool o.isSome]∧∀ p,o=some p→q=p∧g=x)∧Kept h h'∧bX h' n'∧n≤n':=by
 obtain⟨W,⟨a0,a1,a3,a4,a5,a6,a7,g1⟩,g2,⟨b0,b1,b2,b3,g3⟩,g4,g5,g6⟩:=H
 have n1:=W.lt g1
 have n2:=W.lt g2
 have n3:=W.lt g3
 have n4:=W.lt g4
 obtain⟨t1,t2⟩:=ht
 have hgt:(G.map (Value.int .i64))[t-1]? = some (.int .i64 x):=by rw[List.getElem?_map,hG];rfl
 have ht1:(t:Int)-1=((t-1:Nat):Int):=by omega
 have ht2:((t-1:Nat):Int)<G.length:=by omega
 have J1:(0:Int)≤((t-1:Nat):Int):=by omega
 have Tn: ¬ (t:Int)<1:=by omega
 have Tp: ¬ (G.length:Int)<t:=by omega
 refine aB (N:=35) Tryz.func63 rfl rfl fun z hP hO hro hN hQ=>?_
 cases o with
 |none=>
  rcases hR with hR | ⟨i,g,r,hR,hne⟩
  ·repeat' first |simp(maxSteps:=2000000) (disch:=first |omega | (repeat first |assumption |exact Kept.refl _ |refine Kept.set' (by assumption) ?_ ?_ |refine Kept.set (by assumption) ?_ ?_ |omega)) only[go_sem, *] | (apply xs<;>intro _)<;>try omega |refine fun (_ _:List Nat)=>?_ | (first |refine aC Tryz.func62 rfl ?_ ?_ ?_ ?_ |fail)<;>intros
   exact⟨⟨0,false,rfl,fun p c=>c.elim⟩,Kept.set' W (Nat.le_refl _) (Kept.set' W (Nat.le_refl _) (W.kept (Nat.le_refl _))),((W.set (Nat.le_succ _) (Nat.lt_succ_self _)).set (Nat.le_refl _) (Nat.lt_succ_self _)).set (Nat.le_refl _) (Nat.lt_succ_self _),Nat.le_succ _⟩
  ·repeat' first |simp(maxSteps:=2000000) (disch:=first |omega | (repeat first |assumption |exact Kept.refl _ |refine Kept.set' (by assumption) ?_ ?_ |refine Kept.set (by assumption) ?_ ?_ |omega)) only[go_sem, *] | (apply xs<;>intro _)<;>try omega |refine fun (_ _:List Nat)=>?_ | (first |refine aC Tryz.func62 rfl ?_ ?_ ?_ ?_ |fail)<;>intros
   exact⟨⟨g,r,rfl,fun p c=>c.elim⟩,Kept.set' W (Nat.le_refl _) (Kept.set' W (Nat.le_refl _) (W.kept (Nat.le_refl _))),((W.set (Nat.le_succ _) (Nat.lt_succ_self _)).set (Nat.le_refl _) (Nat.lt_succ_self _)).set (Nat.le_refl _) (Nat.lt_succ_self _),Nat.le_succ _⟩
 |some r=>
  obtain⟨i,hR⟩:=hR
  repeat' first |simp(maxSteps:=2000000) (disch:=first |omega | (repeat first |assumption |exact Kept.refl _ |refine Kept.set' (by assumption) ?_ ?_ |refine Kept.set (by assumption) ?_ ?_ |omega)) only[go_sem, *] | (apply xs<;>intro _)<;>try omega |refine fun (_ _:List Nat)=>?_ | (first |refine aC Tryz.func62 rfl ?_ ?_ ?_ ?_ |fail)<;>intros
  exact⟨⟨x,r,rfl,fun p c=>⟨c,rfl⟩⟩,Kept.set' W (Nat.le_refl _) (Kept.set' W (Nat.le_refl _) (W.kept (Nat.le_refl _))),((W.set (Nat.le_succ _) (Nat.lt_succ_self _)).set (Nat.le_refl _) (Nat.lt_succ_self _)).set (Nat.le_refl _) (Nat.lt_succ_self _),Nat.le_succ _⟩
end Go.Proofs.YtfhmopghjoeamaaGreat
set_option linter.unusedVariables false
set_option linter.unusedSimpArgs false
namespace Go.Proofs.YtfhmopghjoeamaaGreat
open Go.Am
theorem vV {x:Int} {v:Value}:∀ {l:List bp} {i j:Nat},aT x l i=some (j,v)→i≤j∧∃ c,l[j-i]? = some (x,v,c)
 | [],_,_,h=>by simp[aT] at h
 |e::l,i,j,h=>by
  rw[aT] at h
  split at h
  ·rename_i c
   simp only[Option.some.injEq,Prod.mk.injEq] at h
   obtain⟨rfl,rfl⟩:=h
   exact⟨Nat.le_refl _,e.2.2,by rw[Nat.sub_self,c];rfl⟩
  ·obtain⟨h1,c,h2⟩:=vV h
   refine⟨by omega,c,?_⟩
   rw[show j-i=(j-(i+1))+1 by omega]
   simpa using h2
theorem kr {x:Int} {v:Value} {l:List bp} {j:Nat} (h:aT x l 0=some (j,v)):∃ c,l[j]? = some (x,v,c):=(vV h).2
def lT (R:List bp) (rk t:Nat) (v:Value):List bp×Nat:=match aT (t:Int) R 0 with
 |some (i,_)=>(match R[i]? with |some e=>R.set i ((t:Int),v,e.2.2) |none=>R,rk)
 |none=>(R++[((t:Int),v,rk)],rk+1)
set_option maxRecDepth 100000 in
set_option maxHeartbeats 16000000 in
theorem DV {h:PT aj} {n bb pb rb gb ob t rk xk:Nat} {R X:List bp} {G:List Int} {x:Int} (H:Bb h n bb pb rb gb ob R rk X xk G) (ht:1≤t∧t≤G.length) (hG:G[t-1]? = some x) (hR:Rs R t x none) (hX:iV X xk) (hm:(t:Int)∈bB X):
  cT Tryz.prog OB 30 [pt bb,I6 t] h n fun r h' n'=>r=I6 0∧∃ h2,Kept h h2∧bX h2 n'∧n≤n'∧h'=h2.set rb (some (.map (bA .i64 (lT R rk t (.agg ⟨[I6 x,.bool false]⟩)).1) (lT R rk t (.agg ⟨[I6 x,.bool false]⟩)).2)):=by
 have H0:=H
 obtain⟨W,⟨a0,a1,a3,a4,a5,a6,a7,g1⟩,g2,⟨b0,b1,b2,b3,g3⟩,g4,g5,g6⟩:=H
 have n1:=W.lt g1
 have n2:=W.lt g2
 have n3:=W.lt g3
 have n4:=W.lt g4
 obtain⟨t1,t2⟩:=ht
 have hgt:(G.map (Value.int .i64))[t-1]? = some (.int .i64 x):=by rw[List.getElem?_map,hG];rfl
 have ht1:(t:Int)-1=((t-1:Nat):Int):=by omega
 have ht2:((t-1:Nat):Int)<G.length:=by omega
 have J1:(0:Int)≤((t-1:Nat):Int):=by omega
 have Tn: ¬ (t:Int)<1:=by omega
 have Tp: ¬ (G.length:Int)<t:=by omega
 have rg:cT Tryz.prog OB 63 [pt bb,I6 t] h n fun r h' n'=>(∃ g q,r=oF [.agg ⟨[I6 g,.bool q]⟩,.bool false]∧∀ p,none=some p→q=p∧g=x)∧Kept h h'∧bX h' n'∧n≤n':=fN H0 ⟨t1,t2⟩ hG hR
 have A7: ¬ X.length=0:=fun c=>by
  have:=cK (X:=X)
  rw[c] at this
  rw[List.length_eq_zero_iff.1 this] at hm
  simp at hm
 refine aB (N:=49) Tryz.func30 rfl rfl fun z hP hO hro hN hQ=>?_
 repeat' first |simp(maxSteps:=2000000) (disch:=first |omega | (repeat first |assumption |exact Kept.refl _ |refine Kept.set' (by assumption) ?_ ?_ |refine Kept.set (by assumption) ?_ ?_ |omega)) only[go_sem, *] | (apply xs<;>intro _)<;>try omega |refine fun (_ _:List Nat)=>?_ | (first |refine aC Tryz.func62 rfl ?_ ?_ ?_ ?_ |fail)<;>intros
 refine fL (rg) (by simp only[*]) (by simp only[*]) (by simp only[go_sem, *]) (by simp only[go_sem, *]) ?_
 rintro r h2 qG ⟨⟨g,q,rfl,-⟩,k2,W2,hn2⟩
 have PF:=k2 _ _ g1
 have PG:=k2 _ _ g2
 have PI:=k2 _ _ g3
 clear rg
 repeat' first |simp(maxSteps:=2000000) (disch:=first |omega | (repeat first |assumption |exact Kept.refl _ |refine Kept.set' (by assumption) ?_ ?_ |refine Kept.set (by assumption) ?_ ?_ |omega)) only[go_sem, *,rA] | (apply xs<;>intro _)<;>try omega |refine fun (_ _:List Nat)=>?_ | (first |refine aC Tryz.func62 rfl ?_ ?_ ?_ ?_ |fail)<;>intros
 generalize wA:(h2.set _ _).set _ _=h3
 have k3:Kept h h3:=by rw[←wA];exact Kept.set' W (by omega) (Kept.set' W (by omega) k2)
 have W3:bX h3 (qG+1):=by rw[←wA];exact(W2.set (Nat.le_succ _) (Nat.lt_succ_self _)).set (Nat.le_refl _) (Nat.lt_succ_self _)
 clear wA PF PG PI
 rw[pz (k3 _ _ g3) (k3 _ _ g5) hX,if_neg A7]
 have PJ:X.length=(bB X).length:=cK.symm
 rw[PJ]
 have k4:Kept h (h3.set (qG+1) (row ((bB X).map (.int .i64)))):=Kept.set' W (by omega) k3
 have W4:bX (h3.set (qG+1) (row ((bB X).map (.int .i64)))) (qG+1+1):=W3.set (Nat.le_succ _) (Nat.lt_succ_self _)
 have hrow:(h3.set (qG+1) (row ((bB X).map (.int .i64)))).get (qG+1)=row ((bB X).map (.int .i64)):=bS
 generalize h3.set (qG+1) _=h4 at*
 have LW:=hX.len
 repeat' first |simp(maxSteps:=2000000) (disch:=first |omega | (repeat first |assumption |exact Kept.refl _ |refine Kept.set' (by assumption) ?_ ?_ |refine Kept.set (by assumption) ?_ ?_ |omega)) only[go_sem, *] | (apply xs<;>intro _)<;>try omega |refine fun (_ _:List Nat)=>?_ | (first |refine aC Tryz.func62 rfl ?_ ?_ ?_ ?_ |fail)<;>intros
 refine fL (nV (L:=bB X) (t:=(t:Int)) (.inr ⟨qG+1,aA+1,rfl,hrow⟩) (by rw[cK];omega)) (by simp only[*]) (by simp only[*]) (by simp only[go_sem, *]) (by simp only[go_sem, *]) ?_
 rintro r h5 n5 ⟨rfl,rfl,rfl⟩
 rw[decide_eq_true hm]
 have PF:=k4 _ _ g1
 have PG:=k4 _ _ g2
 have PI:=k4 _ _ g3
 cases hf:aT (t:Int) R 0 with
 |none=>
  have hp:lT R rk t (.agg ⟨[I6 x,.bool false]⟩)=(R++[((t:Int),.agg ⟨[I6 x,.bool false]⟩,rk)],rk+1):=by unfold lT;rw[hf]
  rw[hp] at hQ
  clear hR
  repeat' first |simp(maxSteps:=2000000) (disch:=first |omega | (repeat first |assumption |exact Kept.refl _ |refine Kept.set' (by assumption) ?_ ?_ |refine Kept.set (by assumption) ?_ ?_ |omega)) only[go_sem, *] | (apply xs<;>intro _)<;>try omega |refine fun (_ _:List Nat)=>?_ | (first |refine aC Tryz.func62 rfl ?_ ?_ ?_ ?_ |fail)<;>intros
  rw[sv]
  exact⟨_,k4,W4,by omega,rfl⟩
 |some iv=>
  obtain⟨i,v⟩:=iv
  obtain⟨c,hc⟩:=kr hf
  have hp:lT R rk t (.agg ⟨[I6 x,.bool false]⟩)=(R.set i ((t:Int),.agg ⟨[I6 x,.bool false]⟩,c),rk):=by unfold lT;rw[hf];simp only[hc]
  have hpe:cZ (.int .i64 t) (.agg ⟨[I6 x,.bool false]⟩) (bA .i64 R) i=bA .i64 (R.set i ((t:Int),.agg ⟨[I6 x,.bool false]⟩,c)):=by rw[mN,hc]
  rw[hp] at hQ
  clear hR
  repeat' first |simp(maxSteps:=2000000) (disch:=first |omega | (repeat first |assumption |exact Kept.refl _ |refine Kept.set' (by assumption) ?_ ?_ |refine Kept.set (by assumption) ?_ ?_ |omega)) only[go_sem, *] | (apply xs<;>intro _)<;>try omega |refine fun (_ _:List Nat)=>?_ | (first |refine aC Tryz.func62 rfl ?_ ?_ ?_ ?_ |fail)<;>intros
  exact⟨_,k4,W4,by omega,rfl⟩
set_option maxRecDepth 100000 in
set_option maxHeartbeats 16000000 in
theorem zf {h:PT aj} {n bb pb rb gb ob rk xk:Nat} {t:Int} {R X:List bp} {G:List Int} (H:Bb h n bb pb rb gb ob R rk X xk G) (hX:iV X xk) (hb: ¬ (1≤t∧t≤G.length)∨∃ (u:Nat) (x:Int) (o:Option Bool),t=u∧G[u-1]? = some x∧Rs R u x o∧(o≠none∨t∉bB X)):
  cT Tryz.prog OB 30 [pt bb,I6 t] h n fun r h' n'=>(∃ e,e≠0∧r=I6 e)∧Kept h h'∧bX h' n'∧n≤n':=by
 have H0:=H
 obtain⟨W,⟨a0,a1,a3,a4,a5,a6,a7,g1⟩,g2,⟨b0,b1,b2,b3,g3⟩,g4,g5,g6⟩:=H
 have n1:=W.lt g1
 have n2:=W.lt g2
 have n3:=W.lt g3
 have n4:=W.lt g4
 by_cases hin:1≤t∧t≤G.length
 ·obtain⟨u,x,o,rfl,hG,hR,hno⟩:=hb.resolve_left (fun c=>c hin)
  obtain⟨t1,t2⟩:=hin
  have hgt:(G.map (Value.int .i64))[u-1]? = some (.int .i64 x):=by rw[List.getElem?_map,hG];rfl
  have ht1:(u:Int)-1=((u-1:Nat):Int):=by omega
  have ht2:((u-1:Nat):Int)<G.length:=by omega
  have J1:(0:Int)≤((u-1:Nat):Int):=by omega
  have Tn: ¬ (u:Int)<1:=by omega
  have Tp: ¬ (G.length:Int)<u:=by omega
  have rg:=fN H0 ⟨by omega,by omega⟩ hG hR
  cases o with
  |some q0=>
   have rg:cT Tryz.prog OB 63 [pt bb,I6 u] h n fun r h' n'=>(∃ g q,r=oF [.agg ⟨[I6 g,.bool q]⟩,.bool true]∧∀ p,some q0=some p→q=p∧g=x)∧Kept h h'∧bX h' n'∧n≤n':=rg
   clear hb hno
   refine aB (N:=49) Tryz.func30 rfl rfl fun z hP hO hro hN hQ=>?_
   repeat' first |simp(maxSteps:=2000000) (disch:=first |omega | (repeat first |assumption |exact Kept.refl _ |refine Kept.set' (by assumption) ?_ ?_ |refine Kept.set (by assumption) ?_ ?_ |omega)) only[go_sem, *] | (apply xs<;>intro _)<;>try omega |refine fun (_ _:List Nat)=>?_ | (first |refine aC Tryz.func62 rfl ?_ ?_ ?_ ?_ |fail)<;>intros
   refine fL (rg) (by simp only[*]) (by simp only[*]) (by simp only[go_sem, *]) (by simp only[go_sem, *]) ?_
   rintro r h2 qG ⟨⟨g,q,rfl,-⟩,k2,W2,hn2⟩
   clear rg
   repeat' first |simp(maxSteps:=2000000) (disch:=first |omega | (repeat first |assumption |exact Kept.refl _ |refine Kept.set' (by assumption) ?_ ?_ |refine Kept.set (by assumption) ?_ ?_ |omega)) only[go_sem, *] | (apply xs<;>intro _)<;>try omega |refine fun (_ _:List Nat)=>?_ | (first |refine aC Tryz.func62 rfl ?_ ?_ ?_ ?_ |fail)<;>intros
   exact⟨⟨_,by decide,rfl⟩,Kept.set' W (by omega) (Kept.set' W (by omega) k2),(W2.set (Nat.le_succ _) (Nat.lt_succ_self _)).set (Nat.le_refl _) (Nat.lt_succ_self _),by omega⟩
  |none=>
   have rg:cT Tryz.prog OB 63 [pt bb,I6 u] h n fun r h' n'=>(∃ g q,r=oF [.agg ⟨[I6 g,.bool q]⟩,.bool false]∧∀ p,none=some p→q=p∧g=x)∧Kept h h'∧bX h' n'∧n≤n':=rg
   have hm:(u:Int)∉bB X:=hno.resolve_left (fun c=>c rfl)
   clear hb hno
   refine aB (N:=49) Tryz.func30 rfl rfl fun z hP hO hro hN hQ=>?_
   repeat' first |simp(maxSteps:=2000000) (disch:=first |omega | (repeat first |assumption |exact Kept.refl _ |refine Kept.set' (by assumption) ?_ ?_ |refine Kept.set (by assumption) ?_ ?_ |omega)) only[go_sem, *] | (apply xs<;>intro _)<;>try omega |refine fun (_ _:List Nat)=>?_ | (first |refine aC Tryz.func62 rfl ?_ ?_ ?_ ?_ |fail)<;>intros
   refine fL (rg) (by simp only[*]) (by simp only[*]) (by simp only[go_sem, *]) (by simp only[go_sem, *]) ?_
   rintro r h2 qG ⟨⟨g,q,rfl,-⟩,k2,W2,hn2⟩
   have PF:=k2 _ _ g1
   have PG:=k2 _ _ g2
   have PI:=k2 _ _ g3
   clear rg
   repeat' first |simp(maxSteps:=2000000) (disch:=first |omega | (repeat first |assumption |exact Kept.refl _ |refine Kept.set' (by assumption) ?_ ?_ |refine Kept.set (by assumption) ?_ ?_ |omega)) only[go_sem, *,rA] | (apply xs<;>intro _)<;>try omega |refine fun (_ _:List Nat)=>?_ | (first |refine aC Tryz.func62 rfl ?_ ?_ ?_ ?_ |fail)<;>intros
   generalize wA:(h2.set _ _).set _ _=h3
   have k3:Kept h h3:=by rw[←wA];exact Kept.set' W (by omega) (Kept.set' W (by omega) k2)
   have W3:bX h3 (qG+1):=by rw[←wA];exact(W2.set (Nat.le_succ _) (Nat.lt_succ_self _)).set (Nat.le_refl _) (Nat.lt_succ_self _)
   clear wA PF PG PI
   have LW:=hX.len
   rw[pz (k3 _ _ g3) (k3 _ _ g5) hX]
   by_cases A7:X.length=0
   ·rw[if_pos A7]
    have ho:bB X=[]:=List.length_eq_zero_iff.1 (cK.trans A7)
    repeat' first |simp(maxSteps:=2000000) (disch:=first |omega | (repeat first |assumption |exact Kept.refl _ |refine Kept.set' (by assumption) ?_ ?_ |refine Kept.set (by assumption) ?_ ?_ |omega)) only[go_sem, *] | (apply xs<;>intro _)<;>try omega |refine fun (_ _:List Nat)=>?_ | (first |refine aC Tryz.func62 rfl ?_ ?_ ?_ ?_ |fail)<;>intros
    refine fL (nV (L:=[]) (t:=(u:Int)) (.inl ⟨rfl,rfl⟩) (by simp)) (by simp only[*]) (by simp only[*]) (by simp only[go_sem, *]) (by simp only[go_sem, *]) ?_
    rintro r h5 n5 ⟨rfl,rfl,rfl⟩
    rw[show decide ((u:Int)∈([]:List Int))=false from by simp]
    repeat' first |simp(maxSteps:=2000000) (disch:=first |omega | (repeat first |assumption |exact Kept.refl _ |refine Kept.set' (by assumption) ?_ ?_ |refine Kept.set (by assumption) ?_ ?_ |omega)) only[go_sem, *] | (apply xs<;>intro _)<;>try omega |refine fun (_ _:List Nat)=>?_ | (first |refine aC Tryz.func62 rfl ?_ ?_ ?_ ?_ |fail)<;>intros
    exact⟨⟨_,by decide,rfl⟩,by omega⟩
   ·rw[if_neg A7]
    have PJ:X.length=(bB X).length:=cK.symm
    rw[PJ]
    have k4:Kept h (h3.set (qG+1) (row ((bB X).map (.int .i64)))):=Kept.set' W (by omega) k3
    have W4:bX (h3.set (qG+1) (row ((bB X).map (.int .i64)))) (qG+1+1):=W3.set (Nat.le_succ _) (Nat.lt_succ_self _)
    have hrow:(h3.set (qG+1) (row ((bB X).map (.int .i64)))).get (qG+1)=row ((bB X).map (.int .i64)):=bS
    generalize h3.set (qG+1) _=h4 at*
    repeat' first |simp(maxSteps:=2000000) (disch:=first |omega | (repeat first |assumption |exact Kept.refl _ |refine Kept.set' (by assumption) ?_ ?_ |refine Kept.set (by assumption) ?_ ?_ |omega)) only[go_sem, *] | (apply xs<;>intro _)<;>try omega |refine fun (_ _:List Nat)=>?_ | (first |refine aC Tryz.func62 rfl ?_ ?_ ?_ ?_ |fail)<;>intros
    refine fL (nV (L:=bB X) (t:=(u:Int)) (.inr ⟨qG+1,aA+1,rfl,hrow⟩) (by rw[cK];omega)) (by simp only[*]) (by simp only[*]) (by simp only[go_sem, *]) (by simp only[go_sem, *]) ?_
    rintro r h5 n5 ⟨rfl,rfl,rfl⟩
    rw[decide_eq_false hm]
    repeat' first |simp(maxSteps:=2000000) (disch:=first |omega | (repeat first |assumption |exact Kept.refl _ |refine Kept.set' (by assumption) ?_ ?_ |refine Kept.set (by assumption) ?_ ?_ |omega)) only[go_sem, *] | (apply xs<;>intro _)<;>try omega |refine fun (_ _:List Nat)=>?_ | (first |refine aC Tryz.func62 rfl ?_ ?_ ?_ ?_ |fail)<;>intros
    exact⟨⟨_,by decide,rfl⟩,by omega⟩
 ·clear hb
  refine aB (N:=49) Tryz.func30 rfl rfl fun z hP hO hro hN hQ=>?_
  by_cases c:t<1
  ·repeat' first |simp(maxSteps:=2000000) (disch:=first |omega | (repeat first |assumption |exact Kept.refl _ |refine Kept.set' (by assumption) ?_ ?_ |refine Kept.set (by assumption) ?_ ?_ |omega)) only[go_sem, *] | (apply xs<;>intro _)<;>try omega |refine fun (_ _:List Nat)=>?_ | (first |refine aC Tryz.func62 rfl ?_ ?_ ?_ ?_ |fail)<;>intros
   exact⟨⟨_,by decide,rfl⟩,Kept.refl _,Nat.le_refl _⟩
  ·have c2:(G.length:Int)<t:=by omega
   repeat' first |simp(maxSteps:=2000000) (disch:=first |omega | (repeat first |assumption |exact Kept.refl _ |refine Kept.set' (by assumption) ?_ ?_ |refine Kept.set (by assumption) ?_ ?_ |omega)) only[go_sem, *] | (apply xs<;>intro _)<;>try omega |refine fun (_ _:List Nat)=>?_ | (first |refine aC Tryz.func62 rfl ?_ ?_ ?_ ?_ |fail)<;>intros
   exact⟨⟨_,by decide,rfl⟩,Kept.refl _,Nat.le_refl _⟩
set_option maxRecDepth 100000 in
set_option maxHeartbeats 16000000 in
theorem yu {h:PT aj} {n bb pb rb gb ob t rk xk:Nat} {R X:List bp} {G:List Int} {x:Int} (H:Bb h n bb pb rb gb ob R rk X xk G) (ht:1≤t∧t≤G.length) (hG:G[t-1]? = some x) (hR:Rs R t x (some false)):
  cT Tryz.prog OB 31 [pt bb,I6 t] h n fun r h' n'=>r=I6 0∧∃ h2,Kept h h2∧bX h2 n'∧n≤n'∧h'=h2.set rb (some (.map (bA .i64 (lT R rk t (.agg ⟨[I6 x,.bool true]⟩)).1) (lT R rk t (.agg ⟨[I6 x,.bool true]⟩)).2)):=by
 have H0:=H
 obtain⟨W,⟨a0,a1,a3,a4,a5,a6,a7,g1⟩,g2,⟨b0,b1,b2,b3,g3⟩,g4,g5,g6⟩:=H
 have n1:=W.lt g1
 have n2:=W.lt g2
 have n3:=W.lt g3
 have n4:=W.lt g4
 obtain⟨t1,t2⟩:=ht
 have hgt:(G.map (Value.int .i64))[t-1]? = some (.int .i64 x):=by rw[List.getElem?_map,hG];rfl
 have ht1:(t:Int)-1=((t-1:Nat):Int):=by omega
 have ht2:((t-1:Nat):Int)<G.length:=by omega
 have J1:(0:Int)≤((t-1:Nat):Int):=by omega
 have Tn: ¬ (t:Int)<1:=by omega
 have Tp: ¬ (G.length:Int)<t:=by omega
 obtain⟨i,hf⟩:=hR
 have rg:cT Tryz.prog OB 63 [pt bb,I6 t] h n fun r h' n'=>(∃ g q,r=oF [.agg ⟨[I6 g,.bool q]⟩,.bool true]∧∀ p,some false=some p→q=p∧g=x)∧Kept h h'∧bX h' n'∧n≤n':=fN (o:=some false) H0 ⟨t1,t2⟩ hG ⟨i,hf⟩
 obtain⟨c,hc⟩:=kr hf
 have hp:lT R rk t (.agg ⟨[I6 x,.bool true]⟩)=(R.set i ((t:Int),.agg ⟨[I6 x,.bool true]⟩,c),rk):=by unfold lT;rw[hf];simp only[hc]
 have hpe:∀ v,cZ (.int .i64 t) v (bA .i64 R) i=bA .i64 (R.set i ((t:Int),v,c)):=fun v=>by rw[mN,hc]
 refine aB (N:=43) Tryz.func31 rfl rfl fun z hP hO hro hN hQ=>?_
 rw[hp] at hQ
 repeat' first |simp(maxSteps:=2000000) (disch:=first |omega | (repeat first |assumption |exact Kept.refl _ |refine Kept.set' (by assumption) ?_ ?_ |refine Kept.set (by assumption) ?_ ?_ |omega)) only[go_sem, *] | (apply xs<;>intro _)<;>try omega | ((with_reducible refine dA 10 ?_);refine dw 43 10 ke (by first | (simp only[go_sem, *];done) |rfl) (by kernel_rfl) (by kernel_rfl) ?_) |refine fun (_ _:List Nat)=>?_ | (first |refine aC Tryz.func62 rfl ?_ ?_ ?_ ?_ |fail)<;>intros
 refine fL (rg) (by simp only[*]) (by simp only[*]) (by simp only[go_sem, *]) (by simp only[go_sem, *]) ?_
 rintro r h2 qG ⟨⟨g,q,rfl,hq⟩,k2,W2,hn2⟩
 obtain⟨rfl,rfl⟩:=hq false rfl
 have PF:=k2 _ _ g1
 have PG:=k2 _ _ g2
 have PI:=k2 _ _ g3
 clear rg
 repeat' first |simp(maxSteps:=2000000) (disch:=first |omega | (repeat first |assumption |exact Kept.refl _ |refine Kept.set' (by assumption) ?_ ?_ |refine Kept.set (by assumption) ?_ ?_ |omega)) only[go_sem, *] | (apply xs<;>intro _)<;>try omega | ((with_reducible refine dA 10 ?_);refine dw 43 10 ke (by first | (simp only[go_sem, *];done) |rfl) (by kernel_rfl) (by kernel_rfl) ?_) |refine fun (_ _:List Nat)=>?_ | (first |refine aC Tryz.func62 rfl ?_ ?_ ?_ ?_ |fail)<;>intros
 exact⟨_,Kept.set' W (by omega) (Kept.set' W (by omega) (Kept.set' W (by omega) k2)),((W2.set (Nat.le_succ _) (Nat.lt_succ_self _)).set (Nat.le_refl _) (Nat.lt_succ_self _)).set (Nat.le_refl _) (Nat.lt_succ_self _),by omega,rfl⟩
set_option maxRecDepth 100000 in
set_option maxHeartbeats 16000000 in
theorem sJ {h:PT aj} {n bb pb rb gb ob rk xk:Nat} {t:Int} {R X:List bp} {G:List Int} (H:Bb h n bb pb rb gb ob R rk X xk G) (hb: ¬ (1≤t∧t≤G.length)∨∃ (u:Nat) (x:Int) (o:Option Bool),t=u∧G[u-1]? = some x∧Rs R u x o∧o≠some false):
  cT Tryz.prog OB 31 [pt bb,I6 t] h n fun r h' n'=>(∃ e,e≠0∧r=I6 e)∧Kept h h'∧bX h' n'∧n≤n':=by
 have H0:=H
 obtain⟨W,⟨a0,a1,a3,a4,a5,a6,a7,g1⟩,g2,⟨b0,b1,b2,b3,g3⟩,g4,g5,g6⟩:=H
 have n1:=W.lt g1
 have n2:=W.lt g2
 have n3:=W.lt g3
 have n4:=W.lt g4
 by_cases hin:1≤t∧t≤G.length
 ·obtain⟨u,x,o,rfl,hG,hR,hno⟩:=hb.resolve_left (fun c=>c hin)
  obtain⟨t1,t2⟩:=hin
  have hgt:(G.map (Value.int .i64))[u-1]? = some (.int .i64 x):=by rw[List.getElem?_map,hG];rfl
  have ht1:(u:Int)-1=((u-1:Nat):Int):=by omega
  have ht2:((u-1:Nat):Int)<G.length:=by omega
  have J1:(0:Int)≤((u-1:Nat):Int):=by omega
  have Tn: ¬ (u:Int)<1:=by omega
  have Tp: ¬ (G.length:Int)<u:=by omega
  have rg:=fN H0 ⟨by omega,by omega⟩ hG hR
  have hc:o=none∨o=some true:=by
   cases o with
   |none=>exact .inl rfl
   |some b=>cases b with
    |false=>exact absurd rfl hno
    |true=>exact .inr rfl
  clear hb hno
  rcases hc with rfl |rfl
  ·have rg:cT Tryz.prog OB 63 [pt bb,I6 u] h n fun r h' n'=>(∃ g q,r=oF [.agg ⟨[I6 g,.bool q]⟩,.bool false]∧∀ p,none=some p→q=p∧g=x)∧Kept h h'∧bX h' n'∧n≤n':=rg
   refine aB (N:=43) Tryz.func31 rfl rfl fun z hP hO hro hN hQ=>?_
   repeat' first |simp(maxSteps:=2000000) (disch:=first |omega | (repeat first |assumption |exact Kept.refl _ |refine Kept.set' (by assumption) ?_ ?_ |refine Kept.set (by assumption) ?_ ?_ |omega)) only[go_sem, *] | (apply xs<;>intro _)<;>try omega | ((with_reducible refine dA 10 ?_);refine dw 43 10 ke (by first | (simp only[go_sem, *];done) |rfl) (by kernel_rfl) (by kernel_rfl) ?_) |refine fun (_ _:List Nat)=>?_ | (first |refine aC Tryz.func62 rfl ?_ ?_ ?_ ?_ |fail)<;>intros
   refine fL (rg) (by simp only[*]) (by simp only[*]) (by simp only[go_sem, *]) (by simp only[go_sem, *]) ?_
   rintro r h2 qG ⟨⟨g,q,rfl,-⟩,k2,W2,hn2⟩
   clear rg
   repeat' first |simp(maxSteps:=2000000) (disch:=first |omega | (repeat first |assumption |exact Kept.refl _ |refine Kept.set' (by assumption) ?_ ?_ |refine Kept.set (by assumption) ?_ ?_ |omega)) only[go_sem, *] | (apply xs<;>intro _)<;>try omega | ((with_reducible refine dA 10 ?_);refine dw 43 10 ke (by first | (simp only[go_sem, *];done) |rfl) (by kernel_rfl) (by kernel_rfl) ?_) |refine fun (_ _:List Nat)=>?_ | (first |refine aC Tryz.func62 rfl ?_ ?_ ?_ ?_ |fail)<;>intros
   exact⟨⟨_,by decide,rfl⟩,Kept.set' W (by omega) (Kept.set' W (by omega) k2),(W2.set (Nat.le_succ _) (Nat.lt_succ_self _)).set (Nat.le_refl _) (Nat.lt_succ_self _),by omega⟩
  ·have rg:cT Tryz.prog OB 63 [pt bb,I6 u] h n fun r h' n'=>(∃ g q,r=oF [.agg ⟨[I6 g,.bool q]⟩,.bool true]∧∀ p,some true=some p→q=p∧g=x)∧Kept h h'∧bX h' n'∧n≤n':=rg
   refine aB (N:=43) Tryz.func31 rfl rfl fun z hP hO hro hN hQ=>?_
   repeat' first |simp(maxSteps:=2000000) (disch:=first |omega | (repeat first |assumption |exact Kept.refl _ |refine Kept.set' (by assumption) ?_ ?_ |refine Kept.set (by assumption) ?_ ?_ |omega)) only[go_sem, *] | (apply xs<;>intro _)<;>try omega | ((with_reducible refine dA 10 ?_);refine dw 43 10 ke (by first | (simp only[go_sem, *];done) |rfl) (by kernel_rfl) (by kernel_rfl) ?_) |refine fun (_ _:List Nat)=>?_ | (first |refine aC Tryz.func62 rfl ?_ ?_ ?_ ?_ |fail)<;>intros
   refine fL (rg) (by simp only[*]) (by simp only[*]) (by simp only[go_sem, *]) (by simp only[go_sem, *]) ?_
   rintro r h2 qG ⟨⟨g,q,rfl,hq⟩,k2,W2,hn2⟩
   obtain⟨rfl,rfl⟩:=hq true rfl
   clear rg
   repeat' first |simp(maxSteps:=2000000) (disch:=first |omega | (repeat first |assumption |exact Kept.refl _ |refine Kept.set' (by assumption) ?_ ?_ |refine Kept.set (by assumption) ?_ ?_ |omega)) only[go_sem, *] | (apply xs<;>intro _)<;>try omega | ((with_reducible refine dA 10 ?_);refine dw 43 10 ke (by first | (simp only[go_sem, *];done) |rfl) (by kernel_rfl) (by kernel_rfl) ?_) |refine fun (_ _:List Nat)=>?_ | (first |refine aC Tryz.func62 rfl ?_ ?_ ?_ ?_ |fail)<;>intros
   exact⟨⟨_,by decide,rfl⟩,Kept.set' W (by omega) (Kept.set' W (by omega) k2),(W2.set (Nat.le_succ _) (Nat.lt_succ_self _)).set (Nat.le_refl _) (Nat.lt_succ_self _),by omega⟩
 ·clear hb
  refine aB (N:=43) Tryz.func31 rfl rfl fun z hP hO hro hN hQ=>?_
  by_cases c:t<1
  ·repeat' first |simp(maxSteps:=2000000) (disch:=first |omega | (repeat first |assumption |exact Kept.refl _ |refine Kept.set' (by assumption) ?_ ?_ |refine Kept.set (by assumption) ?_ ?_ |omega)) only[go_sem, *] | (apply xs<;>intro _)<;>try omega | ((with_reducible refine dA 10 ?_);refine dw 43 10 ke (by first | (simp only[go_sem, *];done) |rfl) (by kernel_rfl) (by kernel_rfl) ?_) |refine fun (_ _:List Nat)=>?_ | (first |refine aC Tryz.func62 rfl ?_ ?_ ?_ ?_ |fail)<;>intros
   exact⟨⟨_,by decide,rfl⟩,Kept.refl _,Nat.le_refl _⟩
  ·have c2:(G.length:Int)<t:=by omega
   repeat' first |simp(maxSteps:=2000000) (disch:=first |omega | (repeat first |assumption |exact Kept.refl _ |refine Kept.set' (by assumption) ?_ ?_ |refine Kept.set (by assumption) ?_ ?_ |omega)) only[go_sem, *] | (apply xs<;>intro _)<;>try omega | ((with_reducible refine dA 10 ?_);refine dw 43 10 ke (by first | (simp only[go_sem, *];done) |rfl) (by kernel_rfl) (by kernel_rfl) ?_) |refine fun (_ _:List Nat)=>?_ | (first |refine aC Tryz.func62 rfl ?_ ?_ ?_ ?_ |fail)<;>intros
   exact⟨⟨_,by decide,rfl⟩,Kept.refl _,Nat.le_refl _⟩
end Go.Proofs.YtfhmopghjoeamaaGreat
