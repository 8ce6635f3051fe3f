/-
A part.
-/
import Derived.Test.YtofmbmclopgldaaGreatSS3
set_option linter.all false
set_option maxRecDepth 100000
set_option maxHeartbeats 16000000
namespace Go.Proofs.YtofmbmclopgldaaGreat
open Go.Am
section
variable {E:Ev} {a b:Sd} {d:Rl→Nat} {C:Rl→Option aj} {h:PT aj} {n:Nat}
end
end Go.Proofs.YtofmbmclopgldaaGreat
namespace Go.Proofs.YtofmbmclopgldaaGreat
open Go.Am Go.Proofs.Tryz
section
variable {E:Ev} {a b:Sd} {d:Rl→Nat} {C:Rl→Option aj} {h:PT aj} {n:Nat}
theorem ahm(T:Tw E a b d C h n)(r:Rl)(hr:200≤r.1∧r.1≤9000){th v key:Int}(hv : -9223372036854775808≤v∧v≤9223372036854775807):
  cE prog OB 29 [pt (d (70,0)),I6 th,I6 v,U6 key] h n fun y h' n'=>(¬((0≤th∧th<64)∧0≤v∧v<E.V)∧y=iU [.pointer none,I6 2]∧∃ d' C',Nz n d C [] [] d' C' h' n')∨
   (((0≤th∧th<64)∧0≤v∧v<E.V)∧∃ d' C',y=iU [pt (d' r),I6 0]∧Nz n d C [r] [r] d' C' h' n'∧C' r=row (kV (d (70,0)) (d' r) th key (SS.new v))):=by
 have cfg:=QN T;have Xl:=T.ok.dom;have RS:=wI T.ok.dom;have hcn:=T.ok.cnt.symm;have hV:=T.ok.num.V2;have n70:=T.st.lt (by obtain⟨stk,tag,X,xk,R,rk,M,B,Pk,I,EV⟩:=T.pg;exact B.base);refine ay (N:=49) func29 rfl rfl fun z hP hO hro hN hQ=>?_
 repeat' first|simp(disch:=try exact yj) only[go_sem, *] | (apply xs<;>intro _)<;>try omega|refine fun (_ _:List Nat)=>?_
 refine jg (cfg) ?_;rintro y h3 n3 ⟨x0,x1,x2,x3,s,x7,x8,x9,x10,x11,x12,x13,x14,x15,rfl,hs3,k3,w3,l3⟩;have hrd:=fun h' hk z f d ops r K m n=>@gI _ _ h' _ _ hs3 z f d ops r K m n hk;obtain⟨sa,sc,rfl,-⟩:=hs3.len;clear cfg;by_cases hok:(0≤th∧th<64)∧0≤v∧v<E.V
 ·obtain⟨⟨o1,o2⟩,o3,o4⟩:=hok
  repeat' first|simp(disch:=try exact yj) only[go_sem, *,lG] | (apply xs<;>intro _)<;>try omega|refine fun (_ _:List Nat)=>?_ | (first|refine bD func80 rfl ?_ ?_ ?_ ?_ |fail)<;>intros
  repeat rw[PT.set_set]
  have S3:=(T.st.kept k3 w3).new r (.cells (PT.ofList .leaf 0 (kV (d (70,0)) n3 th key (SS.new v))) false) (Nat.le_refl n3) (Nat.lt_succ_self n3);exact⟨_,_,by rw[aq],(Nz.keep T.st k3 w3 l3).trans (Nz.new (t:=r.1) (b:=r.2) qJ (Nat.le_refl _) (Nat.le_succ _) S3),by rw[aq,aq];rfl⟩
 ·repeat' first|simp(disch:=try exact yj) only[go_sem, *,lG] | (apply xs<;>intro _)<;>try omega|refine fun (_ _:List Nat)=>?_
  all_goals exact⟨d,C,Nz.keep T.st k3 w3 l3⟩
end
end Go.Proofs.YtofmbmclopgldaaGreat
namespace Go.Proofs.YtofmbmclopgldaaGreat
open Go.Am
section
variable {E:Ev} {a b:Sd} {d:Rl→Nat} {C:Rl→Option aj} {h:PT aj} {n:Nat}
end
end Go.Proofs.YtofmbmclopgldaaGreat
