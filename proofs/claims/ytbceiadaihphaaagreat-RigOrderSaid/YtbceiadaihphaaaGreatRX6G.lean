/-
  A part of the proof: contracts of inner functions.
-/
import Derived.Test.YtbceiadaihphaaaGreatRX3G
set_option linter.unusedVariables false
set_option linter.unusedSimpArgs false
namespace Go.Proofs.YtbceiadaihphaaaGreat
open Go.Am
theorem zE {nb st:Nat} (hnb:0<nb) (h0:st≠0) (h1:st<2^64):∃ b r,dH nb (kV 64 0 st)=b::r:=by
 obtain⟨i,hi⟩:=Nat.exists_testBit_of_ne_zero h0
 have hm:i%nb∈dH nb (kV 64 0 st):=by
  unfold dH
  rw[List.mem_filter]
  refine⟨by simpa using Nat.mod_lt _ hnb,?_⟩
  simp only[gB,List.any_eq_true,decide_eq_true_eq]
  exact⟨i,(qP 64 0 st i h1).2 ⟨Nat.zero_le _,by rw[Nat.sub_zero];exact hi⟩,rfl⟩
 cases hl:dH nb (kV 64 0 st) with
 |nil=>rw[hl] at hm;simp at hm
 |cons b r=>exact⟨b,r,rfl⟩
theorem Fi {nb v:Nat} {ms:List Nat} (h:v∈dH nb ms):v<nb:=by
 unfold dH at h
 simpa using (List.mem_filter.1 h).1
theorem Ch {ns nb:Nat} (cq:0<ns∧ns≤64) {h:PT aj} {n:Nat} {d:Rl→Nat} {C:Rl→Option aj} {s:GS} {L:List Value} {t st:Nat} (S:St h n d C) (R:gP ns nb s L d C) (ht:t<ns) (h0:st≠0) (h1:st<2^64):
  b9 Tryz.prog OP 71 [pt (d (4,0)),I6 t,U6 st] h n fun r h' n'=>∃ d' C',r=dY [pt (d' (10,t)),I6 0]∧St h' n' d' C'∧gP ns nb ((g_ ns nb).wait s t st) L d' C'∧Fr d C d' C' t:=by
 have R0:=R
 obtain⟨⟨hn0,hn1⟩,⟨k,M⟩,⟨X,ck,E,sx⟩,sc,sec,ow,wa⟩:=R
 have ef:∀ f,(nl (4*nb) f).length=4*nb:=fun f=>aV
 obtain⟨b0,r0,hl⟩:=zE hn0 h0 h1
 have hlt:∀ v,v∈b0::r0→v<nb:=fun v hv=>Fi (ms:=kV 64 0 st) (by rw[hl];exact hv)
 have hb0:=hlt b0 (by simp)
 obtain⟨kk,r,h',n',e,w,p,q,g,q1,q2,q3,q4,q5,rfl,S'⟩:=Md (t:=t) (ba:=4*b0+3) (b0:=b0) (base:=0) (th:=t) (s:=st) S E M ⟨by omega,by omega⟩ (by rw[ef];omega) (by rw[ef];omega) ⟨by omega,by omega⟩ ⟨hn0,hn1⟩ h1 h0 (by rw[hl];rfl) (by omega) hb0
 rw[hl] at S'
 have t_:((g_ ns nb).wait s t st).X t=some ⟨b0::r0,0,false⟩:=by show fs s.X t _ t=_;rw[aA,hl]
 refine⟨kk,_,h',n',e,_,_,rR,S',pW (k':=k) (L':=L) R0 ht (Nat.le_refl _) rfl (fun u c=>az c) (fun u x b r hu hx hlx hp=>?_) (fun a b h1 h2=>?_) (fun a b h1 h2=>?_) ?_ (fun x hx=>?_),?_⟩
 ·by_cases c:u=t
  ·subst c
   rw[t_] at hx
   obtain rfl:=Option.some.inj hx
   exact absurd hp (Nat.not_succ_le_zero 0)
  ·exact ow u x b r hu ((az c).symm.trans hx) hlx hp
 ·rw[ay (by simp;omega),ay (by simp;omega),ay (by simp;omega),ay (by simp;omega),ay (by simp;omega)]
 ·rw[ay (by simp;omega),ay (by simp;omega),ay (by simp;omega),ay (by simp;omega)]
 ·exact((((((((M.dR (by omega)).dR (by omega)).dR (by omega)).dR (by omega)).dR (by omega)).kH (by omega)).kH (by omega)).kH (by omega)).kH (by omega)
 ·rw[t_] at hx
  obtain rfl:=Option.some.inj hx
  exact⟨0,0,(b0::r0).map fun v:Nat=>(v:Int),b0,r0,rfl,rfl,hlt,Nat.zero_le _,Nat.zero_le _,rR,by simp(disch:=first |decide |assumption |omega) only[rM,rW,rL,ah,au,aR,aG];rw[List.map_map];rfl,rT,fun _=>rT⟩
 ·exact⟨fun a b c=>⟨rR,rR⟩,fun u c=>⟨rR,rR⟩,rR,rR⟩
def Fj (ns nb:Nat) (s:GS) (L:List Value) (t:Nat) (d:Rl→Nat) (C:Rl→Option aj) (r:Value) (h':PT aj) (n':Nat):Prop:=∃ d' C',r=dY [U8 (nY s t),.bool !((s.oO ns t).X t).isSome]∧St h' n' d' C'∧gP ns nb (s.oO ns t) (L++zB ns s t) d' C'∧Fr d C d' C' t∧d' (10,t)=d (10,t)
theorem Fk {d:Rl→Nat} {C:Rl→Option aj} {g k t:Nat} {W:List Int} {L:List Value} {B:Option aj}:Fr d C (upd d rL g) (upd (bM C (d rW) g W L k) (11,t) B) t:=
 ⟨fun a b c=>⟨rR,rR⟩,fun u c=>⟨rR,rR⟩,rR,rR⟩
theorem mV {ns nb:Nat} {h':PT aj} {n':Nat} {d:Rl→Nat} {C:Rl→Option aj} {s s':GS} {k t g:Nat} {L:List Value} {W:List Int} {uX:Nat} {xN:Bool} {x:GW} {pc:Int} {off fl:Nat} {Lf:List Int} {b:Nat} {r:List Nat} (R:gP ns nb s L d C) (ht:t<ns) (hX:s.X t=some x) (w:mU nb x d C t L.length off fl Lf b r) (Y9:pc=nY s t) (hp:uX≤5) (hp0:0<uX) (hW:W=nl (4*nb) (wG ns s')) (hlen:(L++zB ns s t).length=(k+1)*6)
  (S':St h' n' (upd d rL g) (upd (bM C (d rW) g W (L++zB ns s t) (k+1)) (11,t) (row (bV (d (5,0)) t (d (12,t)) off (r.length+1) (aB+1) (d (13,t)) xN.toNat (IL uX) (Y6 uX)))))
  (hs:s.oO ns t=s') (hS:s'.S=s.S) (B6:s'.X=fs s.X t (some ⟨b::r,uX,xN⟩)) (hK:s'.K b=some t∧∀ b',b'≠b→s'.K b'=s.K b') (hown:∀ u,u≠t→s.K b≠some u):Fj ns nb s L t d C (dY [U8 pc,.bool false]) h' n':=by
 subst hs hW Y9
 have t_:(s.oO ns t).X t=some ⟨b::r,uX,xN⟩:=by rw[B6,aA]
 refine⟨_,_,by rw[t_];rfl,S',pW (k':=k+1) (L':=L++zB ns s t) R ht (by rw[List.length_append];omega) hS (fun u c=>by rw[B6,az c]) (fun u y b' r' hu hy hl wD=>?_) (fun a b h1 h2=>?_) (fun a b h1 h2=>?_) ?_ (fun y hy=>?_),Fk,rR⟩
 ·by_cases c:u=t
  ·subst c
   rw[t_] at hy
   obtain rfl:=Option.some.inj hy
   obtain⟨rfl,rfl⟩:=List.cons.inj hl
   exact hK.1
  ·rw[B6,az c] at hy
   have:=R.own u y b' r' hu hy hl wD
   by_cases cb:b'=b
   ·subst cb;exact absurd this (hown u c)
   ·rw[hK.2 b' cb];exact this
 ·rw[ay (by simp;omega),aG h1]
 ·rw[ay h1]
 ·exact(dP.next (L:=L) (W:=nl (4*nb) (wG ns s)) (by rw[aV,aV]) hlen).dR (by omega)
 ·rw[t_] at hy
  obtain rfl:=Option.some.inj hy
  exact⟨off,fl,Lf,b,r,rfl,w.list,w.lt,by rw[List.length_append];have:=w.hfl;omega,hp,rE w.Ar,rE w.Cf,rR,fun q=>by simp only at q;omega⟩
end Go.Proofs.YtbceiadaihphaaaGreat
namespace Go.Proofs.YtbceiadaihphaaaGreat
open Go.Am
theorem zF {s:GS} {ns t b ph:Nat} {r:List Nat} {sd:Bool} (h:s.X t=some ⟨b::r,ph,sd⟩):s.oO ns t=if ph=0 then (if s.K b=none then { s with K:=fs s.K b (some t),X:=fs s.X t (some ⟨b::r,1,sd⟩) } else s)
   else if ph=1 then { s with X:=fs s.X t (some ⟨b::r,2,s.G b⟩) }
   else if ph=2 then (if s.cnt ns b (!sd)=0 then { s with X:=fs s.X t (some ⟨b::r,3,sd⟩) } else s)
   else if ph=3 then { s with G:=fs s.G b (!sd),X:=fs s.X t (some ⟨b::r,4,sd⟩) }
   else if ph=4 then (if s.cnt ns b sd=0 then { s with X:=fs s.X t (some ⟨b::r,5,sd⟩) } else s)
   else { s with K:=fs s.K b none,X:=fs s.X t (if r=[] then none else some ⟨r,0,sd⟩) }:=by
 unfold GS.oO;rw[h]
theorem zG {s:GS} {ns t b ph:Nat} {r:List Nat} {sd:Bool} (h:s.X t=some ⟨b::r,ph,sd⟩):zB ns s t=if ph=0 then bI t (4*b+3:Nat) 4 (Ff (s.K b):Nat) (if s.K b=none then (t:Int)+1 else (Ff (s.K b):Nat)) (decide (s.K b=none))
  else if ph=1 then bI t (4*b:Nat) 1 ((s.G b).toNat:Int) ((s.G b).toNat:Int) false
  else if ph=2 then bI t (4*b+1+(!sd).toNat:Nat) 1 (s.cnt ns b (!sd):Int) (s.cnt ns b (!sd):Int) false
  else if ph=3 then bI t (4*b:Nat) 2 ((s.G b).toNat:Int) (1-(sd.toNat:Int)) false
  else if ph=4 then bI t (4*b+1+sd.toNat:Nat) 1 (s.cnt ns b sd:Int) (s.cnt ns b sd:Int) false
  else bI t (4*b+3:Nat) 2 ((t:Int)+1) 0 false:=by
 unfold zB;rw[h]
theorem oS {Lf:List Int} {off b:Nat} {r:List Nat} (h:Lf.drop off=(b::r).map fun v:Nat=>(v:Int)):Lf[off]? = some (b:Int):=by
 have:=congrArg (fun l=>l[0]?) h
 simp only[List.getElem?_drop,Nat.add_zero] at this
 exact this
theorem Ci {Lf:List Int} {off b:Nat} {r:List Nat} (h:Lf.drop off=(b::r).map fun v:Nat=>(v:Int)):Lf.drop (off+1)=r.map fun v:Nat=>(v:Int):=by
 rw[←List.drop_drop,h];rfl
theorem gq {L:List Value} {k:Nat} {th a kd o n:Int} {sw:Bool} (h:L.length=k*6):(L++bI th a kd o n sw).length=(k+1)*6:=by
 rw[List.length_append,h];show _+6=_;omega
theorem toNat_lt (b:Bool):b.toNat<2:=by cases b<;>decide
theorem toNat_not (b:Bool):((!b).toNat:Int)=1-(b.toNat:Int):=by cases b<;>rfl
theorem u6 {ns:Nat} {s s':GS} (hG:s'.G=s.G) (hS:s'.S=s.S) (hK:s'.K=s.K):wG ns s'=wG ns s:=by
 funext j
 exact lZ (i0:=j+1) (fun b _=>by rw[hG]) (fun b sd _=>by unfold GS.cnt;rw[hS]) (fun b _=>by rw[hK]) j (by omega)
theorem w7 {ns nb:Nat} (cq:0<ns∧ns≤64) {h:PT aj} {n:Nat} {d:Rl→Nat} {C:Rl→Option aj} {s:GS} {L:List Value} {t b ph:Nat} {r:List Nat} {sd:Bool} (S:St h n d C) (R:gP ns nb s L d C) (hLl:L.length≤540000) (ht:t<ns) (hX:s.X t=some ⟨b::r,ph,sd⟩) (hp:ph=1∨ph=2∨ph=3∨ph=4):
  b9 Tryz.prog OP 59 [pt (d (10,t))] h n fun v h' n'=>Fj ns nb s L t d C v h' n':=by
 have R0:=R
 obtain⟨⟨hn0,hn1⟩,⟨k,M⟩,⟨X,ck,E,sx⟩,sc,sec,ow,wa⟩:=R
 have hlk:=M.len
 obtain⟨off,fl,Lf,b',r',w⟩:=wa t _ ht hX
 obtain⟨rfl,rfl⟩:=List.cons.inj w.left
 have Gt:=w.lt b (by simp)
 have ef:∀ f,(nl (4*nb) f).length=4*nb:=fun f=>aV
 have hL:=oS w.list
 have hKb:=ow t _ b r ht hX rfl (by simp only;omega)
 have hown:∀ u,u≠t→s.K b≠some u:=fun u c q=>by rw[hKb] at q;exact c (Option.some.inj q).symm
 have Ke:=toNat_lt sd
 have YP:=toNat_lt (!sd)
 have hsv:=toNat_not sd
 have Gn:=w.RM
 have ge:=zF (ns:=ns) hX
 have aE:=zG (ns:=ns) hX
 have pE:nY s t=IL ph:=by unfold nY;rw[hX]
 have acl:=fun (th a kd o n:Int) (sw:Bool)=>gq (th:=th) (a:=a) (kd:=kd) (o:=o) (n:=n) (sw:=sw) M.len
 rcases hp with rfl |rfl |rfl |rfl
 ·obtain⟨kk,v,h',n',e,g,q1,q2,rfl,S'⟩:=Iu (nb:=nb) (off:=off) (len:=r.length+1) (cap:=aB+1) (ba:=4*b) (base:=0) (th:=t) (b:=b) (side:=(sd.toNat:Int)) (Lf:=Lf) S M (by omega) E.xM w.Ar Gn w.Cf (by omega) hL ⟨by omega,by omega⟩ ⟨by omega,by omega⟩ ⟨by omega,by omega⟩ (by omega) (by rw[ef];omega) (by rw[ef];omega) sc
  rw[cV,IJ] at S'
  rw[if_neg (by omega),if_pos rfl] at aE
  rw[←aE] at S'
  exact⟨kk,_,h',n',e,mV (uX:=2) (xN:=s.G b) R0 ht hX w (pE.symm) (by omega) (by omega) (by rw[u6]<;>rfl) (by rw[aE];exact gq M.len) S' ge rfl rfl ⟨hKb,fun _ _=>rfl⟩ hown⟩
 ·obtain⟨kk,v,h',n',e,g,q1,q2,rfl,S'⟩:=Iw (nb:=nb) (off:=off) (len:=r.length+1) (cap:=aB+1) (ba:=4*b+1+(!sd).toNat) (base:=0) (th:=t) (b:=b) (side:=(sd.toNat:Int)) (Lf:=Lf) S M (by omega) E.xM w.Ar Gn w.Cf (by omega) hL ⟨by omega,by omega⟩ ⟨by omega,by omega⟩ ⟨by omega,by omega⟩ ⟨by omega,by omega⟩ (by omega) (by rw[ef];omega) (by rw[ef];omega) sc
  rw[cV,Cd] at S'
  rw[if_neg (by omega),if_neg (by omega),if_pos rfl] at aE
  rw[←aE] at S'
  by_cases c:s.cnt ns b (!sd)=0
  ·rw[if_pos (by omega),if_pos (by omega)] at S'
   rw[if_neg (by omega),if_neg (by omega),if_pos rfl,if_pos c] at ge
   exact⟨kk,_,h',n',e,mV (uX:=3) (xN:=sd) R0 ht hX w (pE.symm) (by omega) (by omega) (by rw[u6]<;>rfl) (by rw[aE];exact gq M.len) S' ge rfl rfl ⟨hKb,fun _ _=>rfl⟩ hown⟩
  ·rw[if_neg (by omega),if_neg (by omega)] at S'
   rw[if_neg (by omega),if_neg (by omega),if_pos rfl,if_neg c] at ge
   exact⟨kk,_,h',n',e,mV (uX:=2) (xN:=sd) R0 ht hX w (pE.symm) (by omega) (by omega) rfl (by rw[aE];exact gq M.len) S' ge rfl (wW hX).symm ⟨hKb,fun _ _=>rfl⟩ hown⟩
 ·obtain⟨kk,v,h',n',e,g,q1,q2,rfl,S'⟩:=Iy (nb:=nb) (off:=off) (len:=r.length+1) (cap:=aB+1) (ba:=4*b) (base:=0) (th:=t) (b:=b) (side:=(sd.toNat:Int)) (Lf:=Lf) S M (by omega) E.xM w.Ar Gn w.Cf (by omega) hL ⟨by omega,by omega⟩ ⟨by omega,by omega⟩ ⟨by omega,by omega⟩ ⟨by omega,by omega⟩ (by omega) (by rw[ef];omega) (by rw[ef];omega) sc
  rw[if_neg (by omega),if_neg (by omega),if_neg (by omega),if_pos rfl] at ge
  rw[cV,IJ] at S'
  rw[if_neg (by omega),if_neg (by omega),if_neg (by omega),if_pos rfl] at aE
  rw[←aE] at S'
  have dr:(nl (4*nb) (wG ns s)).set (4*b) (1-(sd.toNat:Int))=nl (4*nb) (wG ns { s with G:=fs s.G b (!sd),X:=fs s.X t (some ⟨b::r,4,sd⟩) }):=jz (by rw[IJ];show _=((fs s.G b (!sd) b).toNat:Int);rw[aA,hsv]) fun j _ c=>lZ (s:=s) (s':={ s with G:=fs s.G b (!sd),X:=fs s.X t (some ⟨b::r,4,sd⟩) }) (fun b' hb'=>az (fun q=>hb' (by rw[q]))) (fun _ _ _=>rfl) (fun _ _=>rfl) j c
  exact⟨kk,_,h',n',e,mV (uX:=4) (xN:=sd) R0 ht hX w (pE.symm) (by omega) (by omega) dr (by rw[aE];exact gq M.len) S' ge rfl rfl ⟨hKb,fun _ _=>rfl⟩ hown⟩
 ·obtain⟨kk,v,h',n',e,g,q1,q2,rfl,S'⟩:=EX (nb:=nb) (off:=off) (len:=r.length+1) (cap:=aB+1) (ba:=4*b+1+sd.toNat) (base:=0) (th:=t) (b:=b) (side:=(sd.toNat:Int)) (Lf:=Lf) S M (by omega) E.xM w.Ar Gn w.Cf (by omega) hL ⟨by omega,by omega⟩ ⟨by omega,by omega⟩ ⟨by omega,by omega⟩ ⟨by omega,by omega⟩ (by omega) (by rw[ef];omega) (by rw[ef];omega) sc
  rw[cV,Cd] at S'
  rw[if_neg (by omega),if_neg (by omega),if_neg (by omega),if_neg (by omega),if_pos rfl] at aE
  rw[←aE] at S'
  by_cases c:s.cnt ns b sd=0
  ·rw[if_pos (by omega),if_pos (by omega)] at S'
   rw[if_neg (by omega),if_neg (by omega),if_neg (by omega),if_neg (by omega),if_pos rfl,if_pos c] at ge
   exact⟨kk,_,h',n',e,mV (uX:=5) (xN:=sd) R0 ht hX w (pE.symm) (by omega) (by omega) (by rw[u6]<;>rfl) (by rw[aE];exact gq M.len) S' ge rfl rfl ⟨hKb,fun _ _=>rfl⟩ hown⟩
  ·rw[if_neg (by omega),if_neg (by omega)] at S'
   rw[if_neg (by omega),if_neg (by omega),if_neg (by omega),if_neg (by omega),if_pos rfl,if_neg c] at ge
   exact⟨kk,_,h',n',e,mV (uX:=4) (xN:=sd) R0 ht hX w (pE.symm) (by omega) (by omega) rfl (by rw[aE];exact gq M.len) S' ge rfl (wW hX).symm ⟨hKb,fun _ _=>rfl⟩ hown⟩
theorem w8 {ns nb:Nat} (cq:0<ns∧ns≤64) {h:PT aj} {n:Nat} {d:Rl→Nat} {C:Rl→Option aj} {s:GS} {L:List Value} {t b:Nat} {r:List Nat} {sd:Bool} (S:St h n d C) (R:gP ns nb s L d C) (hLl:L.length≤540000) (ht:t<ns) (hX:s.X t=some ⟨b::r,0,sd⟩):
  b9 Tryz.prog OP 59 [pt (d (10,t))] h n fun v h' n'=>Fj ns nb s L t d C v h' n':=by
 have R0:=R
 obtain⟨⟨hn0,hn1⟩,⟨k,M⟩,⟨X,ck,E,sx⟩,sc,sec,ow,wa⟩:=R
 have hlk:=M.len
 obtain⟨off,fl,Lf,b',r',w⟩:=wa t _ ht hX
 obtain⟨rfl,rfl⟩:=List.cons.inj w.left
 have Gt:=w.lt b (by simp)
 have hfl:=w.hfl
 have ef:∀ f,(nl (4*nb) f).length=4*nb:=fun f=>aV
 have hL:=oS w.list
 have Gn:=w.RM
 have w13:=w.r13 rfl
 have ge:=zF (ns:=ns) hX
 rw[if_pos rfl] at ge
 have aE:=zG (ns:=ns) hX
 rw[if_pos rfl] at aE
 have pE:nY s t=2:=by unfold nY;rw[hX];rfl
 have Kj:(nl (4*nb) (wG ns s))[4*b+3]'(by rw[ef];omega)=((Ff (s.K b):Nat):Int):=by rw[cV,IK]
 cases hK:s.K b with
 |none=>
  rw[hK] at Kj ge
  rw[if_pos rfl] at ge
  obtain⟨kk,v,h',n',e,g,q1,q2,rfl,S'⟩:=Iz (nb:=nb) (off:=off) (len:=r.length+1) (cap:=aB+1) (ba:=4*b+3) (base:=0) (th:=t) (b:=b) (side:=(sd.toNat:Int)) (fl:=fl) (Lf:=Lf) S M (by omega) E.xM w.Ar Gn w13 ⟨by omega,by omega⟩ w.Cf (by omega) hL ⟨by omega,by omega⟩ ⟨by omega,by omega⟩ ⟨by omega,by omega⟩ (by omega) (by rw[ef];omega) (by rw[ef];omega) sc Kj
  have dr:(nl (4*nb) (wG ns s)).set (4*b+3) ((t:Int)+1)=nl (4*nb) (wG ns (s.oO ns t)):=by
   rw[ge]
   exact jz (by rw[IK];show _=((Ff (fs s.K b (some t) b):Nat):Int);rw[aA];show (t:Int)+1=((t+1:Nat):Int);omega) fun j _ c=>lZ (s:=s) (s':={ s with K:=fs s.K b (some t),X:=fs s.X t (some ⟨b::r,1,sd⟩) }) (fun _ _=>rfl) (fun _ _ _=>rfl) (fun b' hb'=>az (fun q=>hb' (by rw[q]))) j c
  rw[dr] at S'
  have OO:zB ns s t=bI t (4*b+3:Nat) 4 0 ((t:Int)+1) true:=by rw[aE,hK];rfl
  rw[←OO] at S'
  have t_:(s.oO ns t).X t=some ⟨b::r,1,sd⟩:=by rw[ge];exact aA
  refine⟨kk,_,h',n',e,_,_,by rw[t_,pE];rfl,S',pW (k':=k+1) (L':=L++zB ns s t) R0 ht (by rw[List.length_append];omega) (by rw[ge]) (fun u c=>by rw[ge];exact az c) (fun u y b' r' hu hy hl wD=>?_) (fun a b h1 h2=>?_) (fun a b h1 h2=>?_) ?_ (fun y hy=>?_),?_,rR⟩
  ·rw[ge] at hy ⊢
   show fs s.K b (some t) b'=some u
   by_cases c:u=t
   ·subst c
    have hy':fs s.X u _ u=some y:=hy
    rw[aA] at hy'
    obtain rfl:=Option.some.inj hy'
    obtain⟨rfl,rfl⟩:=List.cons.inj hl
    exact aA
   ·have hy':fs s.X t _ u=some y:=hy
    rw[az c] at hy'
    have:=ow u y b' r' hu hy' hl wD
    rw[az (fun q=>by rw[q,hK] at this;simp at this)]
    exact this
  ·rw[ay (by simp;omega),ay (by simp;omega),aG h1]
  ·rw[ay h1]
  ·exact((dP.next (L:=L) (W:=nl (4*nb) (wG ns s)) (by rw[ef,ef]) (by rw[OO];exact gq M.len)).dR (by omega)).dR (by omega)
  ·rw[t_] at hy
   obtain rfl:=Option.some.inj hy
   exact⟨off,fl,Lf,b,r,rfl,w.list,w.lt,by rw[List.length_append];omega,(by show 1≤5;omega),rE w.Ar,rE w.Cf,rT,fun q=>by simp at q⟩
  ·exact⟨fun a b c=>⟨rR,rR⟩,fun u c=>⟨rR,rR⟩,rR,rR⟩
 |some u0=>
  rw[hK] at Kj ge
  rw[if_neg (by simp)] at ge
  have hne:(nl (4*nb) (wG ns s))[4*b+3]'(by rw[ef];omega)≠0:=by rw[Kj];show ((u0+1:Nat):Int)≠0;omega
  obtain⟨kk,v,h',n',e,g,q1,q2,rfl,S'⟩:=EY (nb:=nb) (off:=off) (len:=r.length+1) (cap:=aB+1) (ba:=4*b+3) (base:=0) (th:=t) (b:=b) (side:=(sd.toNat:Int)) (fl:=fl) (Lf:=Lf) S M (by omega) E.xM w.Ar Gn w13 ⟨by omega,by omega⟩ w.Cf (by omega) hL ⟨by omega,by omega⟩ ⟨by omega,by omega⟩ ⟨by omega,by omega⟩ (by omega) (by rw[ef];omega) (by rw[ef];omega) sc hne
  rw[Kj] at S'
  have OO:zB ns s t=bI t (4*b+3:Nat) 4 (Ff (some u0):Nat) (Ff (some u0):Nat) false:=by rw[aE,hK,if_neg (by simp),decide_eq_false (by simp)]
  rw[←OO] at S'
  have t_:(s.oO ns t).X t=some ⟨b::r,0,sd⟩:=by rw[ge];exact hX
  refine⟨kk,_,h',n',e,_,_,by rw[t_,pE];rfl,S',pW (k':=k+1) (L':=L++zB ns s t) R0 ht (by rw[List.length_append];omega) (by rw[ge]) (fun u c=>by rw[ge]) (fun u y b' r' hu hy hl wD=>?_) (fun a b h1 h2=>?_) (fun a b h1 h2=>?_) ?_ (fun y hy=>?_),?_,rR⟩
  ·rw[ge] at hy ⊢
   exact ow u y b' r' hu hy hl wD
  ·rw[ay (by simp;omega),ay (by simp;omega),aG h1]
  ·rw[ay h1]
  ·rw[ge]
   exact((dP.next (L:=L) (W:=nl (4*nb) (wG ns s)) rfl (by rw[OO];exact gq M.len)).dR (by omega)).dR (by omega)
  ·rw[t_] at hy
   obtain rfl:=Option.some.inj hy
   exact⟨off,fl+1,Lf,b,r,rfl,w.list,w.lt,by rw[OO,List.length_append];show (fl+1)*6≤L.length+6;omega,(by show 0≤5;omega),rE w.Ar,rE w.Cf,rT,fun _=>rT⟩
  ·exact⟨fun a b c=>⟨rR,rR⟩,fun u c=>⟨rR,rR⟩,rR,rR⟩
theorem w9 {ns nb:Nat} (cq:0<ns∧ns≤64) {h:PT aj} {n:Nat} {d:Rl→Nat} {C:Rl→Option aj} {s:GS} {L:List Value} {t b:Nat} {r:List Nat} {sd:Bool} (S:St h n d C) (R:gP ns nb s L d C) (hLl:L.length≤540000) (ht:t<ns) (hX:s.X t=some ⟨b::r,5,sd⟩):
  b9 Tryz.prog OP 59 [pt (d (10,t))] h n fun v h' n'=>Fj ns nb s L t d C v h' n':=by
 have R0:=R
 obtain⟨⟨hn0,hn1⟩,⟨k,M⟩,⟨X,ck,E,sx⟩,sc,sec,ow,wa⟩:=R
 have hlk:=M.len
 obtain⟨off,fl,Lf,b',r',w⟩:=wa t _ ht hX
 obtain⟨rfl,rfl⟩:=List.cons.inj w.left
 have Gt:=w.lt b (by simp)
 have ef:∀ f,(nl (4*nb) f).length=4*nb:=fun f=>aV
 have hL:=oS w.list
 have Dv:=Ci w.list
 have Gn:=w.RM
 have ge:=zF (ns:=ns) hX
 rw[if_neg (by omega),if_neg (by omega),if_neg (by omega),if_neg (by omega),if_neg (by omega)] at ge
 have aE:=zG (ns:=ns) hX
 rw[if_neg (by omega),if_neg (by omega),if_neg (by omega),if_neg (by omega),if_neg (by omega)] at aE
 have pE:nY s t=3:=by unfold nY;rw[hX];rfl
 have hKb:=ow t _ b r ht hX rfl (by simp)
 have Kj:(nl (4*nb) (wG ns s))[4*b+3]'(by rw[ef];omega)=(t:Int)+1:=by rw[cV,IK,hKb];show ((t+1:Nat):Int)=_;omega
 have dr:(nl (4*nb) (wG ns s)).set (4*b+3) 0=nl (4*nb) (wG ns (s.oO ns t)):=by
  rw[ge]
  exact jz (by rw[IK];show _=((Ff (fs s.K b none b):Nat):Int);rw[aA];rfl) fun j _ c=>lZ (s:=s) (s':={ s with K:=fs s.K b none,X:=fs s.X t (if r=[] then none else some ⟨r,0,sd⟩) }) (fun _ _=>rfl) (fun _ _ _=>rfl) (fun b' hb'=>az (fun q=>hb' (by rw[q]))) j c
 have hown:∀ u y b' r',u<ns→u≠t→(s.oO ns t).X u=some y→y.left=b'::r'→1≤y.ph→(s.oO ns t).K b'=some u:=fun u y b' r' hu c hy hl wD=>by
  rw[ge] at hy ⊢
  have hy':fs s.X t _ u=some y:=hy
  rw[az c] at hy'
  have:=ow u y b' r' hu hy' hl wD
  show fs s.K b none b'=some u
  rw[az (fun q=>by rw[q,hKb] at this;exact c (Option.some.inj this).symm)]
  exact this
 cases r with
 |nil=>
  obtain⟨kk,v,h',n',e,g,q1,q2,rfl,S'⟩:=wV (nb:=nb) (off:=off) (ba:=4*b+3) (base:=0) (th:=t) (b:=b) (side:=(sd.toNat:Int)) (Lf:=Lf) S M (by omega) E.xM w.Ar Gn w.Cf hL ⟨by omega,by omega⟩ ⟨by omega,by omega⟩ ⟨by omega,by omega⟩ (by omega) (by rw[ef];omega) (by rw[ef];omega) sc Kj
  rw[dr,←aE] at S'
  have t_:(s.oO ns t).X t=none:=by rw[ge];exact aA
  refine⟨kk,_,h',n',e,_,_,by rw[t_,pE];rfl,S',pW (k':=k+1) (L':=L++zB ns s t) R0 ht (by rw[List.length_append];omega) (by rw[ge]) (fun u c=>by rw[ge];exact az c) (fun u y b' r' hu hy hl wD=>?_) (fun a b h1 h2=>?_) (fun a b h1 h2=>?_) ?_ (fun y hy=>?_),Fk,rR⟩
  ·by_cases c:u=t
   ·subst c;rw[t_] at hy;simp at hy
   ·exact hown u y b' r' hu c hy hl wD
  ·rw[ay (by simp;omega),aG h1]
  ·rw[ay h1]
  ·exact(dP.next (L:=L) (W:=nl (4*nb) (wG ns s)) (by rw[ef,ef]) (by rw[aE];exact gq M.len)).dR (by omega)
  ·rw[t_] at hy;simp at hy
 |cons b2 r2=>
  have CF:=w.lt b2 (by simp)
  have V0:=oS Dv
  obtain⟨kk,v,h',n',e,g,g3,q1,q2,q3,rfl,S'⟩:=EZ (nb:=nb) (off:=off) (len:=r2.length+1+1) (ba:=4*b+3) (OJ:=4*b2+3) (base:=0) (th:=t) (b:=b) (b2:=b2) (side:=(sd.toNat:Int)) (Lf:=Lf) S M (by omega) E.xM w.Ar Gn w.Cf (by omega) hL V0 ⟨by omega,by omega⟩ ⟨by omega,by omega⟩ ⟨by omega,by omega⟩ ⟨by omega,by omega⟩ (by omega) (by rw[ef];omega) (by omega) (by rw[ef];omega) (by rw[ef];omega) sc Kj
  rw[dr,←aE] at S'
  have t_:(s.oO ns t).X t=some ⟨b2::r2,0,sd⟩:=by rw[ge];exact aA
  refine⟨kk,_,h',n',e,_,_,by rw[t_,pE];rfl,S',pW (k':=k+1) (L':=L++zB ns s t) R0 ht (by rw[List.length_append];omega) (by rw[ge]) (fun u c=>by rw[ge];exact az c) (fun u y b' r' hu hy hl wD=>?_) (fun a b h1 h2=>?_) (fun a b h1 h2=>?_) ?_ (fun y hy=>?_),?_,rR⟩
  ·by_cases c:u=t
   ·subst c;rw[t_] at hy
    obtain rfl:=Option.some.inj hy
    simp at wD
   ·exact hown u y b' r' hu c hy hl wD
  ·rw[ay (by simp;omega),ay (by simp;omega),aG h1]
  ·rw[ay (by simp;omega),ay h1]
  ·exact(((dP.next (L:=L) (W:=nl (4*nb) (wG ns s)) (by rw[ef,ef]) (by rw[aE];exact gq M.len)).dR (by omega)).dR (by omega)).kH (by omega)
  ·rw[t_] at hy
   obtain rfl:=Option.some.inj hy
   exact⟨off+1,0,Lf,b2,r2,rfl,Dv,fun v hv=>w.lt v (List.mem_cons_of_mem _ hv),Nat.zero_le _,(by show 0≤5;omega),rE w.Ar,rE w.Cf,rT,fun _=>rT⟩
  ·exact⟨fun a b c=>⟨rR,rR⟩,fun u c=>⟨rR,rR⟩,rR,rR⟩
end Go.Proofs.YtbceiadaihphaaaGreat
namespace Go.Proofs.YtbceiadaihphaaaGreat
open Go.Am
theorem zH {ns nb:Nat} (cq:0<ns∧ns≤64) {h:PT aj} {n:Nat} {d:Rl→Nat} {C:Rl→Option aj} {s:GS} {L:List Value} {t:Nat} (S:St h n d C) (R:gP ns nb s L d C) (hk:L.length≤540000) (ht:t<ns) (hw:(s.X t).isSome=true):
  b9 Tryz.prog OP 59 [pt (d (10,t))] h n fun v h' n'=>Fj ns nb s L t d C v h' n':=by
 obtain⟨x,hX⟩:=Option.isSome_iff_exists.1 hw
 obtain⟨off,fl,Lf,b,r,w⟩:=R.wa t x ht hX
 obtain⟨lf,ph,sd⟩:=x
 have hl:=w.left
 simp only at hl
 subst hl
 have hp:=w.ph
 simp only at hp
 by_cases c0:ph=0
 ·subst c0;exact w8 cq S R hk ht hX
 by_cases c5:ph=5
 ·subst c5;exact w9 cq S R hk ht hX
 exact w7 cq S R hk ht hX (by omega)
theorem Cj {ns nb:Nat} {d:Rl→Nat} {C:Rl→Option aj} {s:GS} {L:List Value} {a b:Nat} {B:Option aj} (R:gP ns nb s L d C) (ha:30≤a):gP ns nb s L d (upd C (a,b) B):=by
 obtain⟨hnb,⟨k,M⟩,⟨X,ck,⟨e1,e2,e3⟩,sx⟩,sc,sec,ow,wa⟩:=R
 refine⟨hnb,⟨k,M.dR (by omega)⟩,⟨X,ck,⟨rE e1,rE e2,rE e3⟩,sx⟩,rE sc,fun u hu=>(sec u hu).of rR rR rR rfl rfl rfl,ow,fun u x hu hX=>?_⟩
 obtain⟨off,fl,Lf,b0,r,w⟩:=wa u x hu hX
 exact⟨off,fl,Lf,b0,r,w.of (Nat.le_refl _) rR rR rR rR rfl rfl rfl rfl rfl⟩
theorem Cm {ns nb:Nat} {d:Rl→Nat} {C:Rl→Option aj} {s:GS} {L:List Value} {a b i:Nat} (R:gP ns nb s L d C) (ha:30≤a):gP ns nb s L (upd d (a,b) i) C:=by
 obtain⟨hnb,⟨k,M⟩,⟨X,ck,⟨e1,e2,e3⟩,sx⟩,sc,sec,ow,wa⟩:=R
 refine⟨hnb,⟨k,M.kH (by omega)⟩,⟨X,ck,⟨rE e1,rE e2,e3⟩,sx.same (fun u _=>rR) fun u=>Iff.rfl⟩,sc,fun u hu=>(sec u hu).of rfl rfl rfl rR rR rR,ow,fun u x hu hX=>?_⟩
 obtain⟨off,fl,Lf,b0,r,w⟩:=wa u x hu hX
 exact⟨off,fl,Lf,b0,r,w.of (Nat.le_refl _) rfl rfl rfl rfl rR rR rR rR rR⟩
theorem IQ {ns:Nat} (s:GS) (t:Nat):jc t (zB ns s t):=by
 unfold zB
 split
 ·repeat' split
  all_goals exact⟨_,_,_,_,_,rfl⟩
 ·exact⟨_,_,_,_,_,rfl⟩
theorem RN {ns:Nat} (nb:Nat) (cq:0<ns∧ns≤64):gp (g_ ns nb) (xG ns nb) ns (gP ns nb):=⟨fun S R hk ht hv he hi hw=>zC cq S R ht hv he hi,fun S R hk ht he hi=>zD cq S R hk ht he,fun S R hk ht hi he=>Cg cq S R hk ht hi,fun S R hk ht h0 h1 hw=>Ch cq S R ht h0 h1,fun S R hk ht hw=>zH cq S R hk ht hw,fun s t=>⟨by
  show jc t (Ki ns s t)
  unfold Ki
  split<;>exact⟨_,_,_,_,_,rfl⟩,IQ s t,by
  show jc t (OM ns s t)
  unfold OM
  split<;>exact⟨_,_,_,_,_,rfl⟩⟩,⟨fun s t=>by show 1<sH s t∧sH s t<256;unfold sH;split<;>decide,fun s t=>by
  show 1<nY s t∧nY s t<256
  unfold nY
  split
  ·decide
  ·unfold IL
   repeat' split
   all_goals decide,(by decide:(1:Int)<16),(by decide:(16:Int)<256)⟩,fun R=>by
  obtain⟨k,M⟩:=R.mem
  exact⟨_,k,M,by rw[aV];have:=R.hnb;omega⟩,Cj,Cm
 ⟩
def GS.new:GS:=⟨fun _ => .no,fun _=>false,fun _=>none,fun _=>none⟩
theorem GS.Mn {ns:Nat}:wG ns GS.new=fun _=>0:=by
 funext j
 have hc:∀ b sd,GS.new.cnt ns b sd=0:=fun b sd=>by
  unfold GS.cnt
  rw[List.countP_eq_zero]
  intro u _
  simp[GS.new]
 unfold wG
 rw[hc,hc]
 split
 ·rfl
 ·split
  ·rfl
  ·split<;>rfl
theorem Fl {ns nb:Nat} {d:Rl→Nat} {C:Rl→Option aj} (hnb:0<nb∧nb≤16) (M:dP d C (nl (4*nb) fun _=>0) [] 0) (E:BV d C 0 nb ns [] 0) (sc:C (20,0)=none):gP ns nb GS.new [] d C:=
 ⟨hnb,⟨0,by rw[GS.Mn];exact M⟩,⟨[],0,E,⟨fun i j e f h=>by simp at h,fun e he=>by simp at he,fun t _ h=>absurd rfl h⟩⟩,sc,fun _ _=>trivial,fun _ _ _ _ _ h=>by simp[GS.new] at h,fun _ _ _ h=>by simp[GS.new] at h⟩
end Go.Proofs.YtbceiadaihphaaaGreat
