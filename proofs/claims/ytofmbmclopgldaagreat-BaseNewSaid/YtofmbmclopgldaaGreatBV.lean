/-
  A part of the proof: contracts of inner functions.
-/
import Derived.Test.YtofmbmclopgldaaGreatBR
set_option linter.unusedVariables false
set_option linter.unusedSimpArgs false
namespace Go.Proofs.YtofmbmclopgldaaGreat
open Go.Am
structure Ny (n:Nat) (d:Rl→Nat) (C:Rl→Option ak) (X:List Nat) (W':List Int) (k':Nat) (d':Rl→Nat) (C':Rl→Option ak) (h':PT ak) (n':Nat):Prop where
 le:n≤n'
 st:St h' n' d' C'
 fz:∀ h1 n1,n1≤n→Fz h1 n1 d C→Fz h1 n1 d' C'
 mem:∃ L',mB d' C' W' L' k'
 dM:d' rM=d rM
 fr:∀ a b,2<a→a∉X→d' (a,b)=d (a,b)∧C' (a,b)=C (a,b)
structure Po (h1:PT ak) (n1 lb:Nat) (l:cK) (mk ev:Value) (p5 p6:Nat) (W:List Int) (stk:Nat→List Nat) (tag:Nat→Int) (X:List bG) (xk:Nat) (G:List Int) (R:List bG) (rk k:Nat) (d:Rl→Nat) (C:Rl→Option ak) (h:PT ak) (n:Nat):Prop where
 le:n1≤n
 st:St h n d C
 fz:Fz h1 n1 d C
 mem:∃ L,mB d C W L k
 obj:MO d C lb l mk ev R rk X xk G
 pok:HX p5 p6 l.H.length l.H W stk tag
 e5:l.P.getD 5 0=p5
 e6:l.P.getD 6 0=p6
 hp:p6≤60000
 hH:l.H.length≤1024
 look:(tI (pt lb)).look h1=some l
 hG:G.length=l.H.length
end Go.Proofs.YtofmbmclopgldaaGreat
set_option linter.unusedVariables false
set_option linter.unusedSimpArgs false
namespace Go.Proofs.YtofmbmclopgldaaGreat
open Go.Am
end Go.Proofs.YtofmbmclopgldaaGreat
set_option linter.unusedVariables false
set_option linter.unusedSimpArgs false
namespace Go.Proofs.YtofmbmclopgldaaGreat
open Go.Am
def cj (X:List bG):List Int:=jx (X.map fun e=>e.1)
structure kY (X:List bG) (xk:Nat):Prop where
 val:∀ e∈X,e.2.1 = .bool false
 nd:(X.map fun e=>e.1).Nodup
 wf:∀ e∈X,0≤e.1∧e.1≤1024
 st:∀ e∈X,e.2.2<xk
 sd:(X.map fun e=>e.2.2).Nodup
theorem vp {m:Nat} {l:List Int} (hn:l.Nodup) (hb:∀ x∈l,0≤x∧x<m):l.length≤m:=by
 have h:=hn.length_le_of_subset (l₂:=(List.range m).map fun k:Nat=>(k:Int)) fun x hx=>by
  have:=hb x hx
  exact List.mem_map.2 ⟨x.toNat,List.mem_range.2 (by omega),by omega⟩
 simpa using h
theorem Ia:∀ {l:List Int},l.Nodup→Rw l=true
 | [],_=>rfl
 |x::l,h=>by
  obtain⟨h1,h2⟩:=List.nodup_cons.1 h
  simp only[Rw,Bool.and_eq_true,Bool.not_eq_true',List.any_eq_false,decide_eq_true_eq]
  exact⟨fun y hy e=>h1 (e ▸ hy),Ia h2⟩
theorem Ib:∀ {l:List Nat},l.Nodup→Rv l=true
 | [],_=>rfl
 |x::l,h=>by
  obtain⟨h1,h2⟩:=List.nodup_cons.1 h
  simp only[Rv,Bool.and_eq_true,Bool.not_eq_true',List.any_eq_false]
  exact⟨fun y hy e=>h1 (Nat.eq_of_beq_eq_true e ▸ hy),Ib h2⟩
theorem t_:∀ {X:List bG},(∀ e∈X,e.2.1 = .bool false)→qD (bP .i64 X)=some (X.map fun e=>e.1)
 | [],_=>rfl
 | (x,v,c)::X,h=>by
  obtain rfl:v = .bool false:=h (x,v,c) (by simp)
  have ih:=t_ (X:=X) fun e he=>h e (by simp[he])
  unfold bP at*
  simp only[List.map_cons,qD,ih]
theorem kY.ok {X:List bG} {xk:Nat} (H:kY X xk):T7 (bP .i64 X) xk (X.map fun e=>e.1)=true:=by
 obtain⟨h1,h2,h3,h4,h5⟩:=H
 unfold T7
 simp only[Bool.and_eq_true,List.all_eq_true]
 refine⟨⟨⟨⟨fun x hx=>?_,Ia h2⟩,fun e he=>?_⟩,?_⟩,?_⟩
 ·obtain⟨e,he,rfl⟩:=List.mem_map.1 hx
  have:=h3 e he
  have k1:IntKind.i64.min = -9223372036854775808:=rfl
  have k2:IntKind.i64.max=9223372036854775807:=rfl
  simp only[Lit.wf,k1,k2,Bool.and_eq_true,decide_eq_true_eq]
  omega
 ·unfold bP at he
  obtain⟨q,hq,rfl⟩:=List.mem_map.1 he
  exact Nat.ble_eq_true_of_le (h4 q hq)
 ·refine Ib ?_
  rw[show (bP .i64 X).map (fun e=>e.2.2)=X.map fun e=>e.2.2 by unfold bP;rw[List.map_map];rfl]
  exact h5
 ·refine Nat.ble_eq_true_of_le ?_
  have:=vp (m:=1025) h2 fun x hx=>by
   obtain⟨e,he,rfl⟩:=List.mem_map.1 hx
   have:=h3 e he
   omega
  rw[List.length_map] at this
  unfold bP
  rw[List.length_map]
  omega
theorem kY.len {X:List bG} {xk:Nat} (H:kY X xk):X.length≤1025:=by
 have:=vp (m:=1025) H.nd fun x hx=>by
  obtain⟨e,he,rfl⟩:=List.mem_map.1 hx
  have:=H.wf e he
  omega
 rwa [List.length_map] at this
theorem dG {X:List bG}:(cj X).length=X.length:=by unfold cj;rw[(jf _).length_eq,List.length_map]
theorem o7 {X:List bG} {x:Int}:x∈cj X↔∃ e∈X,e.1=x:=by unfold cj;rw[(jf _).mem_iff,List.mem_map]
theorem rH {z:Zx} {f:Value→AP aD} {d:Option Nat} {ops r:List Oper} {K:List KF} {m:Tm} {h:PT ak} {n pb rr xk:Nat} {v0 v1 v2 v3 v5:Value} {X:List bG} (hp:h.get pb=row [v0,v1,v2,v3,.map (some rr),v5]) (hm:h.get rr=some (.map (bP .i64 X) xk)) (H:kY X xk):
  jE z ((Kh ⟨pb,0,none⟩).bind f) d ops r K m h n↔if X.length=0 then jE z (f (.slice none 0 0)) d ops r K m h n else jE z (f (.slice (some ⟨n,0,none⟩) X.length (aB+1))) d ops r K m (h.set n (row ((cj X).map (.int .i64)))) (n+1):=by
 have hk:=t_ H.val
 have hlen:=dG (X:=X)
 unfold Kh
 have hok:=H.ok
 have hL:jx (X.map fun e=>e.1)=cj X:=rfl
 simp only[AP.bind,vY,hp,sM,PT.aI,Nat.zero_add,List.getElem?_cons_succ,List.getElem?_cons_zero,hm,hk,hok,cond_true,hL]
 unfold OM
 by_cases c:X.length=0
 ·rw[if_pos c]
  have:cj X=[]:=List.length_eq_zero_iff.1 (by omega)
  rw[this]
  rfl
 ·rw[if_neg c]
  cases ho:cj X with
  |nil=>rw[ho] at hlen;simp at hlen;omega
  |cons y L=>rw[ho] at hlen;rw[←hlen];rfl
def Rs (R:List bG) (t:Nat) (x:Int):Option Bool→Prop
 |none=>bg (t:Int) R 0=none∨∃ i g r,bg (t:Int) R 0=some (i,.agg ⟨[.int .i64 g,.bool r]⟩)∧g≠x
 |some r=>∃ i,bg (t:Int) R 0=some (i,.agg ⟨[.int .i64 x,.bool r]⟩)
structure Lh (h:PT ak) (n bb pb rb gb ob:Nat) (R:List bG) (rk:Nat) (X:List bG) (xk:Nat) (G:List Int):Prop where
 wf:bL h n
 base:∃ v0 v1 v3 v4 v5 v6 v7,h.get bb=row [v0,v1,pt pb,v3,v4,v5,v6,v7,.map (some rb)]
 reg:h.get rb=some (.map (bP .i64 R) rk)
 pool:∃ v0 v1 v2 v3,h.get pb=row [v0,v1,v2,v3,.map (some ob),.slice (some ⟨gb,0,none⟩) G.length G.length]
 HU:h.get gb=row (G.map (.int .i64))
 out:h.get ob=some (.map (bP .i64 X) xk)
 len:G.length≤1024
theorem Lh.keep {h h':PT ak} {n n' bb pb rb gb ob:Nat} {R:List bG} {rk:Nat} {X:List bG} {xk:Nat} {G:List Int} (H:Lh h n bb pb rb gb ob R rk X xk G) (k:Kept h h') (w:bL h' n'):Lh h' n' bb pb rb gb ob R rk X xk G:=by
 obtain⟨h1,⟨a0,a1,a3,a4,a5,a6,a7,h2⟩,h3,⟨b0,b1,b2,b3,h4⟩,h5,h6,h7⟩:=H
 exact⟨w,⟨_,_,_,_,_,_,_,k _ _ h2⟩,k _ _ h3,⟨_,_,_,_,k _ _ h4⟩,k _ _ h5,k _ _ h6,h7⟩
set_option maxRecDepth 100000 in
set_option maxHeartbeats 8000000 in
theorem mF {h:PT ak} {n bb pb rb gb ob t rk xk:Nat} {R X:List bG} {G:List Int} {x:Int} {o:Option Bool} (H:Lh h n bb pb rb gb ob R rk X xk G) (ht:1≤t∧t≤G.length) (hG:G[t-1]? = some x) (hR:Rs R t x o):
  cW Tryz.prog OB 126 [pt bb,I6 t] h n fun r h' n'=>(∃ g q,r=nD [.agg ⟨[I6 g,.bool q]⟩,.bool o.isSome]∧∀ p,o=some p→q=p∧g=x)∧Kept h h'∧bL h' n'∧n≤n':=by
 obtain⟨W,⟨a0,a1,a3,a4,a5,a6,a7,g1⟩,g2,⟨b0,b1,b2,b3,g3⟩,g4,g5,g6⟩:=H
 have n1:=W.lt g1
 have n2:=W.lt g2
 have n3:=W.lt g3
 have n4:=W.lt g4
 obtain⟨t1,t2⟩:=ht
 have hgt:(G.map (Value.int .i64))[t-1]? = some (.int .i64 x):=by rw[List.getElem?_map,hG];rfl
 have ht1:(t:Int)-1=((t-1:Nat):Int):=by omega
 have ht2:((t-1:Nat):Int)<G.length:=by omega
 have Un:(0:Int)≤((t-1:Nat):Int):=by omega
 have ht4: ¬ (t:Int)<1:=by omega
 have ht5: ¬ (G.length:Int)<t:=by omega
 refine ay (N:=35) Tryz.func126 rfl rfl fun z hP hO hro hN hQ=>?_
 cases o with
 |none=>
  rcases hR with hR | ⟨i,g,r,hR,hne⟩
  ·repeat' first |simp(maxSteps:=2000000) (disch:=first |omega | (repeat first |assumption |exact Kept.refl _ |refine Kept.set' (by assumption) ?_ ?_ |refine Kept.set (by assumption) ?_ ?_ |omega)) only[go_sem, *] | (apply xs<;>intro _)<;>try omega |refine fun (_ _:List Nat)=>?_ | (first |refine aJ Tryz.func125 rfl ?_ ?_ ?_ ?_ |fail)<;>intros
   exact⟨⟨0,false,rfl,fun p c=>c.elim⟩,Kept.set' W (Nat.le_refl _) (Kept.set' W (Nat.le_refl _) (W.kept (Nat.le_refl _))),((W.set (Nat.le_succ _) (Nat.lt_succ_self _)).set (Nat.le_refl _) (Nat.lt_succ_self _)).set (Nat.le_refl _) (Nat.lt_succ_self _),Nat.le_succ _⟩
  ·repeat' first |simp(maxSteps:=2000000) (disch:=first |omega | (repeat first |assumption |exact Kept.refl _ |refine Kept.set' (by assumption) ?_ ?_ |refine Kept.set (by assumption) ?_ ?_ |omega)) only[go_sem, *] | (apply xs<;>intro _)<;>try omega |refine fun (_ _:List Nat)=>?_ | (first |refine aJ Tryz.func125 rfl ?_ ?_ ?_ ?_ |fail)<;>intros
   exact⟨⟨g,r,rfl,fun p c=>c.elim⟩,Kept.set' W (Nat.le_refl _) (Kept.set' W (Nat.le_refl _) (W.kept (Nat.le_refl _))),((W.set (Nat.le_succ _) (Nat.lt_succ_self _)).set (Nat.le_refl _) (Nat.lt_succ_self _)).set (Nat.le_refl _) (Nat.lt_succ_self _),Nat.le_succ _⟩
 |some r=>
  obtain⟨i,hR⟩:=hR
  repeat' first |simp(maxSteps:=2000000) (disch:=first |omega | (repeat first |assumption |exact Kept.refl _ |refine Kept.set' (by assumption) ?_ ?_ |refine Kept.set (by assumption) ?_ ?_ |omega)) only[go_sem, *] | (apply xs<;>intro _)<;>try omega |refine fun (_ _:List Nat)=>?_ | (first |refine aJ Tryz.func125 rfl ?_ ?_ ?_ ?_ |fail)<;>intros
  exact⟨⟨x,r,rfl,fun p c=>⟨c,rfl⟩⟩,Kept.set' W (Nat.le_refl _) (Kept.set' W (Nat.le_refl _) (W.kept (Nat.le_refl _))),((W.set (Nat.le_succ _) (Nat.lt_succ_self _)).set (Nat.le_refl _) (Nat.lt_succ_self _)).set (Nat.le_refl _) (Nat.lt_succ_self _),Nat.le_succ _⟩
end Go.Proofs.YtofmbmclopgldaaGreat
set_option linter.unusedVariables false
set_option linter.unusedSimpArgs false
namespace Go.Proofs.YtofmbmclopgldaaGreat
open Go.Am
def uc (R:List bG) (rk t:Nat) (v:Value):List bG×Nat:=match bg (t:Int) R 0 with
 |some (i,_)=>(match R[i]? with |some e=>R.set i ((t:Int),v,e.2.2) |none=>R,rk)
 |none=>(R++[((t:Int),v,rk)],rk+1)
end Go.Proofs.YtofmbmclopgldaaGreat
