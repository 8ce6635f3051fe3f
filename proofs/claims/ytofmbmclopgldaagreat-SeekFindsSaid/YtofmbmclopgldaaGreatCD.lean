/-
A part.
-/
import Derived.Test.YtofmbmclopgldaaGreatAmZ
import Derived.Test.YtofmbmclopgldaaGreatOut1
import Derived.Test.YtofmbmclopgldaaGreatCC0
set_option linter.all false
set_option maxRecDepth 100000
namespace Go.Proofs.YtofmbmclopgldaaGreat
open Go.Am Go.Proofs.Tryz
theorem LK:OU prog (gG [(16,BN)]) 3000 10=true:=by kernel_rfl
theorem aaK:bG prog 10 sJ:=Iq (aV (.cons yM .nil)) bU ((II _ _ _ _).symm.trans LK)
theorem LL:OU prog (gG [(16,BN)]) 6000 36=true:=by kernel_rfl
theorem aaL:bG prog 36 sJ:=Iq (aV (.cons yM .nil)) bU ((II _ _ _ _).symm.trans LL)
theorem atp:cU prog OB:=aV (.cons K_ (.cons Uq (.cons Ur (.cons Zr (.cons aqV (.cons Ux (.cons Uw (.cons Cf (.cons aeR (.cons aeO (.cons yM (.cons afu (.cons aq6 (.cons EF (.cons EG (.cons PV (.cons La (.cons yx (.cons Zz (.cons Jf (.cons afK (.cons afL (.cons afU (.cons afV (.cons afM (.cons afN (.cons afO (.cons ZW (.cons afP (.cons US (.cons ZY (.cons ZZ (.cons UT (.cons aaK (.cons aaL .nil)))))))))))))))))))))))))))))))))))
end Go.Proofs.YtofmbmclopgldaaGreat
namespace Go.Proofs.YtofmbmclopgldaaGreat
open Go.Am Go.RowKit
theorem VF:Tryz.prog.cellsOf 27=16:=by kernel_rfl
theorem VG:Tryz.prog.cellsOf 24=3:=by kernel_rfl
theorem VH:Tryz.prog.cellsOf 25=6:=by kernel_rfl
theorem VI:Tryz.prog.cellsOf 22=1:=by kernel_rfl
theorem zm:Tryz.prog.cellsOf 3=1:=by kernel_rfl
theorem Rp:Tryz.prog.cellsOf 5=1:=by kernel_rfl
theorem VJ:Tryz.prog.cellsOf 57=1:=by kernel_rfl
theorem VK:Tryz.prog.bytesOf 57=8:=by kernel_rfl
theorem Fm:Tryz.prog.cellTypes Tryz.prog.depth 27=some [3,3,5,3,5,3,22,3,3,3,3,3,3,3,3,3]:=by kernel_rfl
theorem aaM{α:Type}{cs:List α}(h:cs.length=16):∃ c0 c1 c2 c3 c4 c5 c6 c7 c8 c9 RV L9 IX Pn Xb Xc,cs=[c0,c1,c2,c3,c4,c5,c6,c7,c8,c9,RV,L9,IX,Pn,Xb,Xc]:=by
 match cs,h with
 | [c0,c1,c2,c3,c4,c5,c6,c7,c8,c9,RV,L9,IX,Pn,Xb,Xc],_=>exact⟨c0,c1,c2,c3,c4,c5,c6,c7,c8,c9,RV,L9,IX,Pn,Xb,Xc,rfl⟩
section
variable {H:Type} {enc:TypeId×Value→H} {w:World} {base:Nat} {held:Bool}
theorem eu{fuel:Nat}{t:TypeId}{k:IntKind}{c:Value}{y:DataW H×List MemPlace}(ht:Tryz.prog.underlying t=some (.int k))(h:DataW.trod enc Tryz.prog w base (fun _=>true) held fuel t [c]=some y):∃ n,c = .int k n∧(Lit.int k n).wf=true:=by
 obtain⟨n,e,hw⟩:=trod_int ht h;simp only[List.cons.injEq,and_true] at e;exact⟨n,e,hw⟩
theorem Fo{fuel:Nat}{c0 c1 c2 c3 c4 c5:Value}{y:DataW H×List MemPlace}(h:DataW.trod enc Tryz.prog w base (fun _=>true) held fuel 25 [c0,c1,c2,c3,c4,c5]=some y):
  ∃ t0 t1 t2 t3 t4 t5,(c0 = .int .i64 t0∧(Lit.int .i64 t0).wf=true)∧(c1 = .int .i64 t1∧(Lit.int .i64 t1).wf=true)∧(c2 = .int .i64 t2∧(Lit.int .i64 t2).wf=true)∧(c3 = .int .i64 t3∧(Lit.int .i64 t3).wf=true)∧(c4 = .int .i64 t4∧(Lit.int .i64 t4).wf=true)∧(c5 = .int .i64 t5∧(Lit.int .i64 t5).wf=true):=by
 obtain⟨-,fuel',ha⟩:=trod_array Tryz.underlying25 h;rw[zm] at ha;obtain⟨y0,h0⟩:=ha 0 qJ;obtain⟨y1,h1⟩:=ha 1 qJ;obtain⟨y2,h2⟩:=ha 2 qJ;obtain⟨y3,h3⟩:=ha 3 qJ;obtain⟨y4,h4⟩:=ha 4 qJ;obtain⟨y5,h5⟩:=ha 5 qJ;obtain⟨t0,p0⟩:=eu Tryz.underlying3 h0;obtain⟨t1,p1⟩:=eu Tryz.underlying3 h1;obtain⟨t2,p2⟩:=eu Tryz.underlying3 h2;obtain⟨t3,p3⟩:=eu Tryz.underlying3 h3;obtain⟨t4,p4⟩:=eu Tryz.underlying3 h4;obtain⟨t5,p5⟩:=eu Tryz.underlying3 h5;exact⟨t0,t1,t2,t3,t4,t5,p0,p1,p2,p3,p4,p5⟩
theorem Rq{v:Value}{d:DataW H}{p:List MemPlace}{base':Nat}(hok:Value.okWide Tryz.prog w .any base' 27 v)(h:DataW.Trod enc Tryz.prog w base (fun _=>true) held 27 v d p)(hz:∀ n∈d.weights Tryz.prog 27,n≤reachBytes):
  ∃ th sl en bu kd dn t0 t1 t2 t3 t4 t5 lo tr ba s' vs s xs,v = .agg ⟨[.int .i64 th,.int .i64 sl,.int .u8 en,.int .i64 bu,.int .u8 kd,.int .i64 dn,s',.int .i64 t0,.int .i64 t1,.int .i64 t2,.int .i64 t3,.int .i64 t4,.int .i64 t5,.int .i64 lo,.int .i64 tr,.int .i64 ba]⟩∧
   rq vs w∧aD (iN vs) s s'∧aN .u64 (oY vs) s xs∧xs.length≤reachBytes∧(∀ n∈xs,(Lit.int .u64 n).wf=true)∧
   ((Lit.int .i64 th).wf=true∧(Lit.int .i64 sl).wf=true∧(Lit.int .u8 en).wf=true∧(Lit.int .i64 bu).wf=true∧(Lit.int .u8 kd).wf=true∧(Lit.int .i64 dn).wf=true)∧
   ((Lit.int .i64 t0).wf=true∧(Lit.int .i64 t1).wf=true∧(Lit.int .i64 t2).wf=true∧(Lit.int .i64 t3).wf=true∧(Lit.int .i64 t4).wf=true∧(Lit.int .i64 t5).wf=true)∧
   ((Lit.int .i64 lo).wf=true∧(Lit.int .i64 tr).wf=true∧(Lit.int .i64 ba).wf=true)∧(∀ a n c,s = .slice a n c→n≤c∧c<aA):=by
 unfold Value.okWide at hok;rw[Tryz.underlying27] at hok;obtain⟨⟨cs⟩,rfl,hsz,ts,hts,-,hcell⟩:=hok;rw[Fm] at hts;obtain rfl:=Option.some.inj hts;rw[VF] at hsz;obtain⟨c0,c1,c2,c3,c4,c5,c6,c7,c8,c9,RV,L9,IX,Pn,Xb,Xc,e⟩:=aaM hsz;subst e;obtain⟨fuel,h⟩:=h;obtain⟨-,fuel',parts,hp,ha⟩:=oZ Tryz.underlying27 h;obtain⟨y0,-,h0⟩:=ha 0 _ rfl;obtain⟨y1,-,h1⟩:=ha 1 _ rfl;obtain⟨y2,-,h2⟩:=ha 2 _ rfl;obtain⟨y3,-,h3⟩:=ha 3 _ rfl;obtain⟨y4,q4,h4⟩:=ha 4 _ rfl;obtain⟨y5,-,h5⟩:=ha 5 _ rfl;obtain⟨y6,-,h6⟩:=ha 6 _ rfl;obtain⟨y7,-,h7⟩:=ha 7 _ rfl;obtain⟨y8,-,h8⟩:=ha 8 _ rfl;simp only[zm,Rp,VG,VH] at h0 h1 h2 h3 h4 h5 h6 h7 h8;obtain⟨th,rfl,w0⟩:=eu Tryz.underlying3 h0;obtain⟨sl,rfl,w1⟩:=eu Tryz.underlying3 h1;obtain⟨en,rfl,w2⟩:=eu Tryz.underlying5 h2;obtain⟨bu,rfl,w3⟩:=eu Tryz.underlying3 h3;obtain⟨t0,t1,t2,t3,t4,t5,⟨rfl,x0⟩,⟨rfl,x1⟩,⟨rfl,x2⟩,⟨rfl,x3⟩,⟨rfl,x4⟩,⟨rfl,x5⟩⟩:=Fo h5;obtain⟨lo,rfl,w6⟩:=eu Tryz.underlying3 h6;obtain⟨tr,rfl,w7⟩:=eu Tryz.underlying3 h7;obtain⟨ba,rfl,w8⟩:=eu Tryz.underlying3 h8;obtain⟨-,fuel2,atq,hp2,hb⟩:=oZ Tryz.underlying24 h4;obtain⟨z0,-,g0⟩:=hb 0 _ rfl;obtain⟨z1,-,g1⟩:=hb 1 _ rfl;obtain⟨z2,r2,g2⟩:=hb 2 _ rfl;simp only[zm,Rp,VI] at g0 g1 g2;obtain⟨kd,rfl,w4⟩:=eu Tryz.underlying5 g0;obtain⟨dn,rfl,w5⟩:=eu Tryz.underlying3 g1;obtain⟨vs,s,s',xs,e,hvs,Kr,hin,hlen,hwf,hcp⟩:=open_ints (base':=base') Tryz.underlying22 Tryz.underlying57 VJ (by rw[VK];omega) g2
  (fun v hv=>by
   obtain⟨u,hu,hc⟩:=hcell 6 v hv;simp at hu;subst hu;exact hc)
  (fun n hn=>by
   refine hz n ?_;have e1:=o7 (P:=Tryz.prog) (j:=2) Tryz.underlying24 rfl r2 n hn;rw[←hp2] at e1;have e2:=o7 (P:=Tryz.prog) (j:=4) Tryz.underlying27 rfl q4 n e1;rw[←hp] at e2;exact e2)
 cases e;exact⟨th,sl,en,bu,kd,dn,t0,t1,t2,t3,t4,t5,lo,tr,ba,_,vs,s,xs,rfl,hvs,Kr,hin,hlen,hwf,⟨w0,w1,w2,w3,w4,w5⟩,⟨x0,x1,x2,x3,x4,x5⟩,⟨w6,w7,w8⟩,hcp⟩
end
end Go.Proofs.YtofmbmclopgldaaGreat
