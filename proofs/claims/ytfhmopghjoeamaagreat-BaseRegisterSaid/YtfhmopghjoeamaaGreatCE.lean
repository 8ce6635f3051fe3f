/-
  A part of the proof: contracts of inner functions.
-/
import Derived.Test.YtfhmopghjoeamaaGreatCC
import Derived.Test.YtfhmopghjoeamaaGreatAmU5
set_option linter.unusedVariables false
set_option linter.constructorNameAsVariable false
namespace Go.Proofs.YtfhmopghjoeamaaGreat
open Go.Am Go.RowKit
theorem GK:Tryz.prog.cellsOf 32=16:=by kernel_rfl
theorem GL:Tryz.prog.cellsOf 29=3:=by kernel_rfl
theorem GM:Tryz.prog.cellsOf 30=6:=by kernel_rfl
theorem GN:Tryz.prog.cellsOf 27=1:=by kernel_rfl
theorem yz:Tryz.prog.cellsOf 3=1:=by kernel_rfl
theorem D2:Tryz.prog.cellsOf 5=1:=by kernel_rfl
theorem GQ:Tryz.prog.cellsOf 36=1:=by kernel_rfl
theorem GR:Tryz.prog.bytesOf 36=8:=by kernel_rfl
theorem wj:Tryz.prog.cellTypes Tryz.prog.depth 32=some [3,3,5,3,5,3,27,3,3,3,3,3,3,3,3,3]:=by kernel_rfl
theorem KK {α:Type} {cs:List α} (h:cs.length=16):∃ c0 c1 c2 c3 c4 c5 c6 c7 c8 c9 Gb Gc Dv Eu H6 H7,cs=[c0,c1,c2,c3,c4,c5,c6,c7,c8,c9,Gb,Gc,Dv,Eu,H6,H7]:=by
 match cs,h with
 | [c0,c1,c2,c3,c4,c5,c6,c7,c8,c9,Gb,Gc,Dv,Eu,H6,H7],_=>exact⟨c0,c1,c2,c3,c4,c5,c6,c7,c8,c9,Gb,Gc,Dv,Eu,H6,H7,rfl⟩
section
variable {H:Type} {enc:TypeId×Value→H} {w:World} {base:Nat} {held:Bool}
theorem cu {fuel:Nat} {t:TypeId} {k:IntKind} {c:Value} {y:DataW H×List MemPlace} (ht:Tryz.prog.underlying t=some (.int k)) (h:DataW.trod enc Tryz.prog w base (fun _=>true) held fuel t [c]=some y):∃ n,c = .int k n∧(Lit.int k n).wf=true:=by
 obtain⟨n,e,hw⟩:=trod_int ht h
 simp only[List.cons.injEq,and_true] at e
 exact⟨n,e,hw⟩
theorem wk {fuel:Nat} {c0 c1 c2 c3 c4 c5:Value} {y:DataW H×List MemPlace} (h:DataW.trod enc Tryz.prog w base (fun _=>true) held fuel 30 [c0,c1,c2,c3,c4,c5]=some y):
  ∃ t0 t1 t2 t3 t4 t5,(c0 = .int .i64 t0∧(Lit.int .i64 t0).wf=true)∧(c1 = .int .i64 t1∧(Lit.int .i64 t1).wf=true)∧(c2 = .int .i64 t2∧(Lit.int .i64 t2).wf=true)∧(c3 = .int .i64 t3∧(Lit.int .i64 t3).wf=true)∧(c4 = .int .i64 t4∧(Lit.int .i64 t4).wf=true)∧(c5 = .int .i64 t5∧(Lit.int .i64 t5).wf=true):=by
 obtain⟨-,fuel',ha⟩:=trod_array Tryz.underlying30 h
 rw[yz] at ha
 obtain⟨y0,h0⟩:=ha 0 (by omega)
 obtain⟨y1,h1⟩:=ha 1 (by omega)
 obtain⟨y2,h2⟩:=ha 2 (by omega)
 obtain⟨y3,h3⟩:=ha 3 (by omega)
 obtain⟨y4,h4⟩:=ha 4 (by omega)
 obtain⟨y5,h5⟩:=ha 5 (by omega)
 obtain⟨t0,p0⟩:=cu Tryz.underlying3 h0
 obtain⟨t1,p1⟩:=cu Tryz.underlying3 h1
 obtain⟨t2,p2⟩:=cu Tryz.underlying3 h2
 obtain⟨t3,p3⟩:=cu Tryz.underlying3 h3
 obtain⟨t4,p4⟩:=cu Tryz.underlying3 h4
 obtain⟨t5,p5⟩:=cu Tryz.underlying3 h5
 exact⟨t0,t1,t2,t3,t4,t5,p0,p1,p2,p3,p4,p5⟩
set_option maxRecDepth 100000 in
theorem D3 {v:Value} {d:DataW H} {p:List MemPlace} {base':Nat} (hok:Value.okWide Tryz.prog w .any base' 32 v) (h:DataW.Trod enc Tryz.prog w base (fun _=>true) held 32 v d p) (hz:∀ n∈d.weights Tryz.prog 32,n≤reachBytes):
  ∃ th sl en bu kd dn t0 t1 t2 t3 t4 t5 lo tr ba s' vs s xs,v = .agg ⟨[.int .i64 th,.int .i64 sl,.int .u8 en,.int .i64 bu,.int .u8 kd,.int .i64 dn,s',.int .i64 t0,.int .i64 t1,.int .i64 t2,.int .i64 t3,.int .i64 t4,.int .i64 t5,.int .i64 lo,.int .i64 tr,.int .i64 ba]⟩∧
   lN vs w∧ay (eA vs) s s'∧aS .u64 (j8 vs) s xs∧xs.length≤reachBytes∧(∀ n∈xs,(Lit.int .u64 n).wf=true)∧
   ((Lit.int .i64 th).wf=true∧(Lit.int .i64 sl).wf=true∧(Lit.int .u8 en).wf=true∧(Lit.int .i64 bu).wf=true∧(Lit.int .u8 kd).wf=true∧(Lit.int .i64 dn).wf=true)∧
   ((Lit.int .i64 t0).wf=true∧(Lit.int .i64 t1).wf=true∧(Lit.int .i64 t2).wf=true∧(Lit.int .i64 t3).wf=true∧(Lit.int .i64 t4).wf=true∧(Lit.int .i64 t5).wf=true)∧
   ((Lit.int .i64 lo).wf=true∧(Lit.int .i64 tr).wf=true∧(Lit.int .i64 ba).wf=true)∧(∀ a n c,s = .slice a n c→n≤c∧c<aA):=by
 unfold Value.okWide at hok
 rw[Tryz.underlying32] at hok
 obtain⟨⟨cs⟩,rfl,hsz,ts,hts,-,hcell⟩:=hok
 rw[wj] at hts
 obtain rfl:=Option.some.inj hts
 rw[GK] at hsz
 obtain⟨c0,c1,c2,c3,c4,c5,c6,c7,c8,c9,Gb,Gc,Dv,Eu,H6,H7,e⟩:=KK hsz
 subst e
 obtain⟨fuel,h⟩:=h
 obtain⟨-,fuel',parts,hp,ha⟩:=j9 Tryz.underlying32 h
 obtain⟨y0,-,h0⟩:=ha 0 _ rfl
 obtain⟨y1,-,h1⟩:=ha 1 _ rfl
 obtain⟨y2,-,h2⟩:=ha 2 _ rfl
 obtain⟨y3,-,h3⟩:=ha 3 _ rfl
 obtain⟨y4,q4,h4⟩:=ha 4 _ rfl
 obtain⟨y5,-,h5⟩:=ha 5 _ rfl
 obtain⟨y6,-,h6⟩:=ha 6 _ rfl
 obtain⟨y7,-,h7⟩:=ha 7 _ rfl
 obtain⟨y8,-,h8⟩:=ha 8 _ rfl
 simp only[yz,D2,GL,GM] at h0 h1 h2 h3 h4 h5 h6 h7 h8
 obtain⟨th,rfl,w0⟩:=cu Tryz.underlying3 h0
 obtain⟨sl,rfl,w1⟩:=cu Tryz.underlying3 h1
 obtain⟨en,rfl,w2⟩:=cu Tryz.underlying5 h2
 obtain⟨bu,rfl,w3⟩:=cu Tryz.underlying3 h3
 obtain⟨t0,t1,t2,t3,t4,t5,⟨rfl,x0⟩,⟨rfl,x1⟩,⟨rfl,x2⟩,⟨rfl,x3⟩,⟨rfl,x4⟩,⟨rfl,x5⟩⟩:=wk h5
 obtain⟨lo,rfl,w6⟩:=cu Tryz.underlying3 h6
 obtain⟨tr,rfl,w7⟩:=cu Tryz.underlying3 h7
 obtain⟨ba,rfl,w8⟩:=cu Tryz.underlying3 h8
 obtain⟨-,fuel2,Xo,hp2,hb⟩:=j9 Tryz.underlying29 h4
 obtain⟨z0,-,g0⟩:=hb 0 _ rfl
 obtain⟨z1,-,g1⟩:=hb 1 _ rfl
 obtain⟨z2,r2,g2⟩:=hb 2 _ rfl
 simp only[yz,D2,GN] at g0 g1 g2
 obtain⟨kd,rfl,w4⟩:=cu Tryz.underlying5 g0
 obtain⟨dn,rfl,w5⟩:=cu Tryz.underlying3 g1
 obtain⟨vs,s,s',xs,e,hvs,I_,hin,hlen,hwf,hcp⟩:=open_ints (base':=base') Tryz.underlying27 Tryz.underlying36 GQ (by rw[GR];omega) g2
  (fun v hv=>by
   obtain⟨u,hu,hc⟩:=hcell 6 v hv
   simp at hu
   subst hu
   exact hc)
  (fun n hn=>by
   refine hz n ?_
   have e1:=j_ (P:=Tryz.prog) (j:=2) Tryz.underlying29 rfl r2 n hn
   rw[←hp2] at e1
   have e2:=j_ (P:=Tryz.prog) (j:=4) Tryz.underlying32 rfl q4 n e1
   rw[←hp] at e2
   exact e2)
 cases e
 exact⟨th,sl,en,bu,kd,dn,t0,t1,t2,t3,t4,t5,lo,tr,ba,_,vs,s,xs,rfl,hvs,I_,hin,hlen,hwf,⟨w0,w1,w2,w3,w4,w5⟩,⟨x0,x1,x2,x3,x4,x5⟩,⟨w6,w7,w8⟩,hcp⟩
end
end Go.Proofs.YtfhmopghjoeamaaGreat
set_option linter.unusedVariables false
namespace Go.Proofs.YtfhmopghjoeamaaGreat
open Go.Am
theorem AL (th sl en bu kd dn t0 t1 t2 t3 t4 t5 lo tr ba:Int) (s0:Value) (xs:List Int) (s:Value) (A:List (List Int)) (q:Nat) (h:PT aj) (N:Nat) (hW:bX h N) (hs:aS .u64 h s0 xs) (hl:xs.length≤reachBytes) (hA:nR [.int .u8,.int .i64] h q s A):
  cT Tryz.prog OB 5 [.agg ⟨[.int .i64 th,.int .i64 sl,.int .u8 en,.int .i64 bu,.int .u8 kd,.int .i64 dn,s0,.int .i64 t0,.int .i64 t1,.int .i64 t2,.int .i64 t3,.int .i64 t4,.int .i64 t5,.int .i64 lo,.int .i64 tr,.int .i64 ba]⟩,s] h N fun v h' n'=>v = .bool true:=by
 obtain⟨a,c,rfl,-⟩:=hs.len
 have:reachBytes<1000000000000000:=by decide
 exact AK th sl en bu kd dn t0 t1 t2 t3 t4 t5 lo tr ba h N hW hs (by omega) hA
end Go.Proofs.YtfhmopghjoeamaaGreat
