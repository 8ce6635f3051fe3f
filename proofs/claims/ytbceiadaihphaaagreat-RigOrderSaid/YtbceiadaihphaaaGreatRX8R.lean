/-
  A part of the proof: contracts of inner functions.
-/
import Derived.Test.YtbceiadaihphaaaGreatRX8
set_option linter.unusedVariables false
set_option linter.unusedSimpArgs false
namespace Go.Proofs.YtbceiadaihphaaaGreat
open Go.Am
variable {e:gT} {x:eG e} {rep:e.σ→List Value→(Rl→Nat)→(Rl→Option aj)→Prop}
set_option maxRecDepth 100000 in
set_option maxHeartbeats 2000000 in
theorem RW {ns:Nat} (cq:0<ns∧ns≤64) (F:gp e x ns rep) (fit:e.Fits) {kd xp:Nat} (je:∀ {s k d C},rep s k d C→∃ x z,C (4,0)=row [x,U8 kd,z]) (ve:xp=if kd=3 then 16 else 13) {h:PT aj} {n t:Nat} {k:List Value} {d:Rl→Nat} {C:Rl→Option aj} {ops:Ops} {f:Nat→Value} {r:RS e} (ok:kW ops ns) (S:St h n d C) (R:bP rep ops ns f r k d C) (hf:va ops ns t d r f) (ht:t<ns) (he:e.br r.s t=false) (hw:e.wt r.s t=false) (hi:r.idx t≤(ops t).length) (hk:k.length≤540000) (ho:(ops t)[r.idx t]? = none):
  b9 Tryz.prog OP 29 [pt (d (40,0)),I6 t] h n fun v h' n'=>v=dY []∧hH rep ops ns (RS.ct ops xp r t) k d C h' n':=by
 have dQ:=S.at R.bA
 have qR:=S.at R.dJ
 have OS:=S.at R.kinds
 have uc:=S.lt R.bA
 have Aw:=S.lt R.dJ
 have V4:=S.lt R.kinds
 have d1:=S.df R.bA R.dJ (by simp)
 have d2:=S.df R.dJ R.kinds (by simp)
 have t1:(t:Int)<ns:=by omega
 obtain⟨IX,IY⟩:=cq
 have xO:=hf
 obtain⟨vo,oa⟩:=hf
 have f0:=oa 0 (by omega) (by omega) (by omega) (by omega)
 have f1:=oa 1 (by omega) (by omega) (by omega) (by omega)
 have f6:=oa 6 (by omega) (by omega) (by omega) (by omega)
 simp only[aZ] at f0 f1 f6
 simp only[cS] at dQ
 rw[Nat.add_zero] at f0
 have hlen:r.idx t=(ops t).length:=by
  have:=List.getElem?_eq_none_iff.1 ho
  omega
 have hb:RS.ct ops xp r t={ r with pc:=fs r.pc t 0 }:=by unfold RS.ct;rw[ho]
 rw[hb]
 obtain⟨p,cp,f0'⟩:∃ p cp,f (t*8) = .slice p (ops t).length cp:=by
  rw[f0];by_cases c:ops t=[]
  ·rw[if_pos c,c];exact⟨_,_,rfl⟩
  ·rw[if_neg c];exact⟨_,_,rfl⟩
 rw[hlen] at f1
 clear f0 ho hlen hi vo oa hb
 refine aC (N:=73) Tryz.func29 rfl rfl fun z hP hO hro hN hQ=>?_
 repeat' first |simp(disch:=first |omega |assumption) only[go_sem, *] | (apply xs<;>intro _)<;>try omega | ((with_reducible refine bR 2 ?_);refine dz 73 2 w29_2 ?_) |refine fun (_ _:List Nat)=>?_
 obtain⟨q1,q2⟩:=xO
 have e0:=q2 0 (by omega) (by omega) (by omega) (by omega)
 have e1:=q2 1 (by omega) (by omega) (by omega) (by omega)
 have e5:=q2 5 (by omega) (by omega) (by omega) (by omega)
 have e6:=q2 6 (by omega) (by omega) (by omega) (by omega)
 have e7:=q2 7 (by omega) (by omega) (by omega) (by omega)
 simp only[aZ,Nat.add_zero] at e0 e1 e5 e6 e7
 refine⟨rfl,hH.of (t:=t) R (((S.set (41,0) _ R.dJ rfl).set (41,0) _ ah rfl).set (41,0) _ ah rfl) (F.bC (F.bC (F.bC R.rep (by omega)) (by omega)) (by omega)) (fun a b _ c=>⟨rfl,rR⟩) rfl rfl rfl ah ?_ rfl rfl⟩
 refine iA (f:=f) (d:=d) (r:=r) ht (fun u j hu cu hj=>cK (Fr.rfl (C:=C)) cu rfl rfl rfl rfl (az cu) rfl rfl) q1 (fun i hi=>by simp only[az (hi 2 (by omega)),az (hi 3 (by omega)),az (hi 4 (by omega)),az (hi 5 (by omega)),az (hi 7 (by omega))]) (case8 ?_ ?_ ?_ ?_ ?_ ?_ ?_ ?_)<;>(simp(disch:=omega) only[iz,aA,aZ,Nat.add_zero,e0,e1,e5,e6,e7,he,hw,Bool.false_eq_true,if_false,if_true])<;>rfl
end Go.Proofs.YtbceiadaihphaaaGreat
namespace Go.Proofs.YtbceiadaihphaaaGreat
open Go.Am
variable {e:gT} {x:eG e} {rep:e.σ→List Value→(Rl→Nat)→(Rl→Option aj)→Prop}
set_option maxRecDepth 100000 in
set_option maxHeartbeats 2000000 in
theorem RX {ns:Nat} (cq:0<ns∧ns≤64) (F:gp e x ns rep) (fit:e.Fits) {kd xp:Nat} (je:∀ {s k d C},rep s k d C→∃ x z,C (4,0)=row [x,U8 kd,z]) (ve:xp=if kd=3 then 16 else 13) {h:PT aj} {n t:Nat} {k:List Value} {d:Rl→Nat} {C:Rl→Option aj} {ops:Ops} {f:Nat→Value} {r:RS e} (ok:kW ops ns) (S:St h n d C) (R:bP rep ops ns f r k d C) (hf:va ops ns t d r f) (ht:t<ns) (he:e.br r.s t=false) (hw:e.wt r.s t=false) (hi:r.idx t≤(ops t).length) (hk:k.length≤540000) {v:Nat} (ho:(ops t)[r.idx t]? = some (1,v)):
  b9 Tryz.prog OP 29 [pt (d (40,0)),I6 t] h n fun v h' n'=>v=dY []∧hH rep ops ns (RS.ct ops xp r t) k d C h' n':=by
 have dQ:=S.at R.bA
 have qR:=S.at R.dJ
 have OS:=S.at R.kinds
 have uc:=S.lt R.bA
 have Aw:=S.lt R.dJ
 have V4:=S.lt R.kinds
 have d1:=S.df R.bA R.dJ (by simp)
 have d2:=S.df R.dJ R.kinds (by simp)
 have t1:(t:Int)<ns:=by omega
 obtain⟨IX,IY⟩:=cq
 have xO:=hf
 obtain⟨vo,oa⟩:=hf
 have f0:=oa 0 (by omega) (by omega) (by omega) (by omega)
 have f1:=oa 1 (by omega) (by omega) (by omega) (by omega)
 have f6:=oa 6 (by omega) (by omega) (by omega) (by omega)
 simp only[aZ] at f0 f1 f6
 simp only[cS] at dQ
 rw[Nat.add_zero] at f0
 have hne:ops t≠[]:=fun q=>by rw[q] at ho;simp at ho
 have hlen:r.idx t<(ops t).length:=(List.getElem?_eq_some_iff.1 ho).1
 obtain⟨l1,l2⟩:=kM _ _ _ ho
 have Mz:=S.at (R.ops t ht hne)
 have V5:=S.lt (R.ops t ht hne)
 have d3:=S.df (R.ops t ht hne) R.dJ (by simp)
 have hi1: ¬ ((r.idx t:Nat):Int)=((ops t).length:Nat):=by omega
 have hi2:((r.idx t:Nat):Int)<((ops t).length:Nat):=by omega
 obtain⟨o1,o2⟩:=(ok t ht).2 _ (List.mem_of_getElem? ho)
 have hT:=jZ _ _ _ ho
 have hB:Nat.ble (r.idx t*2+2) (nZ (ops t)).length=true:=Nat.ble_eq_true_of_le (by rw[cO];omega)
 simp only at o1 o2 l1 l2 hT
 rw[if_neg hne] at f0
 have kf:eV ((1:Nat):Int) (l5 (d (40,0))) 0=some (0,.func (.func 33) ⟨[pt (d (40,0))]⟩ ⟨[]⟩):=rfl
 by_cases hv:v<64
 ·have GM: ¬ (64:Int)≤(v:Int):=by omega
  cases hn:e.bB r.s t with
  |true=>
   have hb:RS.ct ops xp r t={ r with pc:=fs r.pc t 1 }:=by unfold RS.ct;rw[ho];simp[hn]
   rw[hb]
   rw[hn] at f6
   clear ho hlen hi vo oa hb
   refine aC (N:=73) Tryz.func29 rfl rfl fun z hP hO hro hN hQ=>?_
   repeat' first |simp(disch:=first |omega |assumption) only[go_sem, *] | (apply xs<;>intro _)<;>try omega | ((with_reducible refine bR 2 ?_);refine dz 73 2 w29_2 ?_) | ((with_reducible refine bR 3 ?_);refine dz 73 3 w29_3 ?_) | ((with_reducible refine bR 4 ?_);refine dz 73 4 w29_4 ?_) |refine fun (_ _:List Nat)=>?_ | (first |refine aT Tryz.func33 rfl ?_ ?_ ?_ ?_ |fail)<;>intros
   obtain⟨q1,q2⟩:=xO
   have e0:=q2 0 (by omega) (by omega) (by omega) (by omega)
   have e1:=q2 1 (by omega) (by omega) (by omega) (by omega)
   have e5:=q2 5 (by omega) (by omega) (by omega) (by omega)
   have e6:=q2 6 (by omega) (by omega) (by omega) (by omega)
   have e7:=q2 7 (by omega) (by omega) (by omega) (by omega)
   simp only[aZ,Nat.add_zero] at e0 e1 e5 e6 e7
   refine⟨rfl,hH.of (t:=t) R (((((((S.set (41,0) _ R.dJ rfl).set (41,0) _ ah rfl).set (41,0) _ ah rfl).cg bG bH).set (41,0) _ ah rfl).set (41,0) _ ah rfl).set (41,0) _ ah rfl) (F.bC (F.bC (F.bC (F.bC (F.bC (F.bC R.rep (by omega)) (by omega)) (by omega)) (by omega)) (by omega)) (by omega)) (fun a b _ c=>⟨rfl,rR⟩) rfl rfl rfl ah ?_ rfl rfl⟩
   refine iA (f:=f) (d:=d) (r:=r) ht (fun u j hu cu hj=>cK (Fr.rfl (C:=C)) cu rfl rfl rfl rfl (az cu) rfl rfl) q1 (fun i hi=>by simp only[az (hi 2 (by omega)),az (hi 3 (by omega)),az (hi 4 (by omega)),az (hi 5 (by omega)),az (hi 7 (by omega))]) (case8 ?_ ?_ ?_ ?_ ?_ ?_ ?_ ?_)<;>(simp(disch:=omega) only[iz,aA,aZ,Nat.add_zero,e0,e1,e5,e6,e7,he,hw,Bool.false_eq_true,if_false,if_true])<;>rfl
  |false=>
   have hb:RS.ct ops xp r t={ r with s:=e.enter r.s t v,val:=fs r.val t v,pc:=fs r.pc t 0 }:=by unfold RS.ct;rw[ho];simp[hn,hv]
   rw[hb]
   rw[hn] at f6
   clear ho hlen hi vo oa hb
   refine aC (N:=73) Tryz.func29 rfl rfl fun z hP hO hro hN hQ=>?_
   repeat' first |simp(disch:=first |omega |assumption) only[go_sem, *] | (apply xs<;>intro _)<;>try omega | ((with_reducible refine bR 2 ?_);refine dz 73 2 w29_2 ?_) | ((with_reducible refine bR 3 ?_);refine dz 73 3 w29_3 ?_) | ((with_reducible refine bR 4 ?_);refine dz 73 4 w29_4 ?_) |refine fun (_ _:List Nat)=>?_ | (first |refine aT Tryz.func33 rfl ?_ ?_ ?_ ?_ |fail)<;>intros
   refine eJ (F.Mj ((((S.set (41,0) _ R.dJ rfl).set (41,0) _ ah rfl).set (41,0) _ ah rfl).cg bG bH) (F.bC (F.bC (F.bC R.rep (by omega)) (by omega)) (by omega)) hk ht hv he hn hw) (by simp only[*]) (by simp only[*]) (by simp only[go_sem, *]) (by simp only[go_sem, *]) ?_
   rintro rr h2 n2 ⟨d2,C2,rfl,S2,R2,cz⟩
   have vf:=S2.at ((cz.dZ 41 0 (by omega)).2.trans ah)
   rw[(cz.dZ 41 0 (by omega)).1] at vf
   clear dQ qR Mz OS kf
   repeat' first |simp(disch:=first |omega |assumption) only[go_sem, *] | (apply xs<;>intro _)<;>try omega |refine fun (_ _:List Nat)=>?_
   obtain⟨q1,q2⟩:=xO
   have e0:=q2 0 (by omega) (by omega) (by omega) (by omega)
   have e1:=q2 1 (by omega) (by omega) (by omega) (by omega)
   have e5:=q2 5 (by omega) (by omega) (by omega) (by omega)
   have e6:=q2 6 (by omega) (by omega) (by omega) (by omega)
   have e7:=q2 7 (by omega) (by omega) (by omega) (by omega)
   simp only[aZ,Nat.add_zero] at e0 e1 e5 e6 e7
   obtain⟨f1,f2,f3⟩:=fit.enter r.s t v hn
   have Co:=(cz.dZ 42 t (by omega)).1
   refine⟨rfl,hH.of (t:=t) R ((S2.set (41,0) _ ((cz.dZ 41 0 (by omega)).2.trans ah) (cz.dZ 41 0 (by omega)).1).set (41,0) _ ah (cz.dZ 41 0 (by omega)).1) (F.bC (F.bC R2 (by omega)) (by omega)) (fun a b q c=>⟨(cz.dZ a b q).1,by simp(disch:=first |decide |assumption |omega) only[rM,rW,rL,ah,au,aR,aG];rw[(cz.dZ a b q).2];simp(disch:=first |decide |assumption |omega) only[rM,rW,rL,ah,au,aR,aG]⟩) (cz.dZ 41 0 (by omega)).1 cz.uT cz.mem ah ?_ rfl rfl⟩
   refine iA (f:=f) (d:=d) (r:=r) ht (fun u j hu cu hj=>cK cz cu ((f1 u).trans (if_neg cu)) (f3 u) (f2 u) rfl (az cu) rfl (az cu)) q1 (fun i hi=>by simp only[az (hi 2 (by omega)),az (hi 3 (by omega)),az (hi 4 (by omega)),az (hi 5 (by omega)),az (hi 7 (by omega))]) (case8 ?_ ?_ ?_ ?_ ?_ ?_ ?_ ?_)<;>(simp(disch:=omega) only[iz,aA,aZ,Nat.add_zero,e0,e1,e5,e6,e7,he,hw,Bool.false_eq_true,if_false,if_true,f1,f2,f3,Co])<;>rfl
 ·have GM:(64:Int)≤(v:Int):=by omega
  have hb:RS.ct ops xp r t={ r with pc:=fs r.pc t 1 }:=by unfold RS.ct;rw[ho];simp[hv]
  rw[hb]
  clear ho hlen hi vo oa hb
  refine aC (N:=73) Tryz.func29 rfl rfl fun z hP hO hro hN hQ=>?_
  repeat' first |simp(disch:=first |omega |assumption) only[go_sem, *] | (apply xs<;>intro _)<;>try omega | ((with_reducible refine bR 2 ?_);refine dz 73 2 w29_2 ?_) | ((with_reducible refine bR 3 ?_);refine dz 73 3 w29_3 ?_) | ((with_reducible refine bR 4 ?_);refine dz 73 4 w29_4 ?_) |refine fun (_ _:List Nat)=>?_ | (first |refine aT Tryz.func33 rfl ?_ ?_ ?_ ?_ |fail)<;>intros
  obtain⟨q1,q2⟩:=xO
  have e0:=q2 0 (by omega) (by omega) (by omega) (by omega)
  have e1:=q2 1 (by omega) (by omega) (by omega) (by omega)
  have e5:=q2 5 (by omega) (by omega) (by omega) (by omega)
  have e6:=q2 6 (by omega) (by omega) (by omega) (by omega)
  have e7:=q2 7 (by omega) (by omega) (by omega) (by omega)
  simp only[aZ,Nat.add_zero] at e0 e1 e5 e6 e7
  refine⟨rfl,hH.of (t:=t) R (((((((S.set (41,0) _ R.dJ rfl).set (41,0) _ ah rfl).set (41,0) _ ah rfl).cg bG bH).set (41,0) _ ah rfl).set (41,0) _ ah rfl).set (41,0) _ ah rfl) (F.bC (F.bC (F.bC (F.bC (F.bC (F.bC R.rep (by omega)) (by omega)) (by omega)) (by omega)) (by omega)) (by omega)) (fun a b _ c=>⟨rfl,rR⟩) rfl rfl rfl ah ?_ rfl rfl⟩
  refine iA (f:=f) (d:=d) (r:=r) ht (fun u j hu cu hj=>cK (Fr.rfl (C:=C)) cu rfl rfl rfl rfl (az cu) rfl rfl) q1 (fun i hi=>by simp only[az (hi 2 (by omega)),az (hi 3 (by omega)),az (hi 4 (by omega)),az (hi 5 (by omega)),az (hi 7 (by omega))]) (case8 ?_ ?_ ?_ ?_ ?_ ?_ ?_ ?_)<;>(simp(disch:=omega) only[iz,aA,aZ,Nat.add_zero,e0,e1,e5,e6,e7,he,hw,Bool.false_eq_true,if_false,if_true])<;>rfl
end Go.Proofs.YtbceiadaihphaaaGreat
namespace Go.Proofs.YtbceiadaihphaaaGreat
open Go.Am
variable {e:gT} {x:eG e} {rep:e.σ→List Value→(Rl→Nat)→(Rl→Option aj)→Prop}
set_option maxRecDepth 100000 in
set_option maxHeartbeats 2000000 in
theorem RY {ns:Nat} (cq:0<ns∧ns≤64) (F:gp e x ns rep) (fit:e.Fits) {kd xp:Nat} (je:∀ {s k d C},rep s k d C→∃ x z,C (4,0)=row [x,U8 kd,z]) (ve:xp=if kd=3 then 16 else 13) {h:PT aj} {n t:Nat} {k:List Value} {d:Rl→Nat} {C:Rl→Option aj} {ops:Ops} {f:Nat→Value} {r:RS e} (ok:kW ops ns) (S:St h n d C) (R:bP rep ops ns f r k d C) (hf:va ops ns t d r f) (ht:t<ns) (he:e.br r.s t=false) (hw:e.wt r.s t=false) (hi:r.idx t≤(ops t).length) (hk:k.length≤540000) {kk v:Nat} (ho:(ops t)[r.idx t]? = some (kk,v)) (k1:kk≠1) (k2:kk≠2) (k3:kk≠3):
  b9 Tryz.prog OP 29 [pt (d (40,0)),I6 t] h n fun v h' n'=>v=dY []∧hH rep ops ns (RS.ct ops xp r t) k d C h' n':=by
 have dQ:=S.at R.bA
 have qR:=S.at R.dJ
 have OS:=S.at R.kinds
 have uc:=S.lt R.bA
 have Aw:=S.lt R.dJ
 have V4:=S.lt R.kinds
 have d1:=S.df R.bA R.dJ (by simp)
 have d2:=S.df R.dJ R.kinds (by simp)
 have t1:(t:Int)<ns:=by omega
 obtain⟨IX,IY⟩:=cq
 have xO:=hf
 obtain⟨vo,oa⟩:=hf
 have f0:=oa 0 (by omega) (by omega) (by omega) (by omega)
 have f1:=oa 1 (by omega) (by omega) (by omega) (by omega)
 have f6:=oa 6 (by omega) (by omega) (by omega) (by omega)
 simp only[aZ] at f0 f1 f6
 simp only[cS] at dQ
 rw[Nat.add_zero] at f0
 have hne:ops t≠[]:=fun q=>by rw[q] at ho;simp at ho
 have hlen:r.idx t<(ops t).length:=(List.getElem?_eq_some_iff.1 ho).1
 obtain⟨l1,l2⟩:=kM _ _ _ ho
 have Mz:=S.at (R.ops t ht hne)
 have V5:=S.lt (R.ops t ht hne)
 have d3:=S.df (R.ops t ht hne) R.dJ (by simp)
 have hi1: ¬ ((r.idx t:Nat):Int)=((ops t).length:Nat):=by omega
 have hi2:((r.idx t:Nat):Int)<((ops t).length:Nat):=by omega
 obtain⟨o1,o2⟩:=(ok t ht).2 _ (List.mem_of_getElem? ho)
 have hT:=jZ _ _ _ ho
 have hB:Nat.ble (r.idx t*2+2) (nZ (ops t)).length=true:=Nat.ble_eq_true_of_le (by rw[cO];omega)
 simp only at o1 o2 l1 l2 hT
 rw[if_neg hne] at f0
 have hb:RS.ct ops xp r t={ r with pc:=fs r.pc t 1 }:=by unfold RS.ct;rw[ho];simp[k1,k2,k3]
 rw[hb]
 have kk1: ¬ (kk:Int)=1:=by omega
 have kk2: ¬ (kk:Int)=2:=by omega
 have kk3: ¬ (kk:Int)=3:=by omega
 have kf:eV (kk:Int) (l5 (d (40,0))) 0=none:=by rw[zI,if_neg kk1,if_neg kk2,if_neg kk3]
 clear ho hlen hi vo oa hb
 refine aC (N:=73) Tryz.func29 rfl rfl fun z hP hO hro hN hQ=>?_
 repeat' first |simp(disch:=first |omega |assumption) only[go_sem, *] | (apply xs<;>intro _)<;>try omega | ((with_reducible refine bR 2 ?_);refine dz 73 2 w29_2 ?_) | ((with_reducible refine bR 3 ?_);refine dz 73 3 w29_3 ?_) | ((with_reducible refine bR 4 ?_);refine dz 73 4 w29_4 ?_) |refine fun (_ _:List Nat)=>?_
 obtain⟨q1,q2⟩:=xO
 have e0:=q2 0 (by omega) (by omega) (by omega) (by omega)
 have e1:=q2 1 (by omega) (by omega) (by omega) (by omega)
 have e5:=q2 5 (by omega) (by omega) (by omega) (by omega)
 have e6:=q2 6 (by omega) (by omega) (by omega) (by omega)
 have e7:=q2 7 (by omega) (by omega) (by omega) (by omega)
 simp only[aZ,Nat.add_zero] at e0 e1 e5 e6 e7
 refine⟨rfl,hH.of (t:=t) R (((((((S.set (41,0) _ R.dJ rfl).set (41,0) _ ah rfl).set (41,0) _ ah rfl).cg bG bH).set (41,0) _ ah rfl).set (41,0) _ ah rfl).set (41,0) _ ah rfl) (F.bC (F.bC (F.bC (F.bC (F.bC (F.bC R.rep (by omega)) (by omega)) (by omega)) (by omega)) (by omega)) (by omega)) (fun a b _ c=>⟨rfl,rR⟩) rfl rfl rfl ah ?_ rfl rfl⟩
 refine iA (f:=f) (d:=d) (r:=r) ht (fun u j hu cu hj=>cK (Fr.rfl (C:=C)) cu rfl rfl rfl rfl (az cu) rfl rfl) q1 (fun i hi=>by simp only[az (hi 2 (by omega)),az (hi 3 (by omega)),az (hi 4 (by omega)),az (hi 5 (by omega)),az (hi 7 (by omega))]) (case8 ?_ ?_ ?_ ?_ ?_ ?_ ?_ ?_)<;>(simp(disch:=omega) only[iz,aA,aZ,Nat.add_zero,e0,e1,e5,e6,e7,he,hw,Bool.false_eq_true,if_false,if_true])<;>rfl
end Go.Proofs.YtbceiadaihphaaaGreat
