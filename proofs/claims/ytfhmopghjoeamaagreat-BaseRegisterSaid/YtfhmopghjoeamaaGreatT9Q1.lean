/-
  A part of the proof: contracts of inner functions.
-/
import Derived.Test.YtfhmopghjoeamaaGreatT9P7
import Derived.Test.YtfhmopghjoeamaaGreatT9P8
set_option linter.unusedVariables false
set_option linter.unusedSimpArgs false
namespace Go.Proofs.YtfhmopghjoeamaaGreat
open Go.Am
theorem J4 {h:PT aj} {lb:Nat} {S:List Value} {ro:Bool} {hv tv:Value} {H T P:List Int} {V:Int} (hb:h.get lb=some (.cells (PT.ofList .leaf 0 S) ro)) (Az:S[27]? = some hv) (Dw:S[28]? = some tv) (h29:S[29]? = some (.int .i64 V))
  (hH:aS .i64 h hv H) (hT:aS .i64 h tv T) (hP:dL .i64 ((S.drop 16).take 10)=some P) (h1:H.length<100000) (h2:T.length=H.length) (h3:S.length=30):(rB (.pointer (some ⟨lb,0,none⟩))).look h=some ⟨S,H,T,P,V⟩:=by
 unfold rB
 simp only[AP.row,Dc,hb,Db,Az,Dw]
 rw[kN,hH.look,Option.bind_some,kN,hT.look,Option.bind_some,hP,h29]
 have e1:Nat.blt H.length 100000=true:=Nat.ble_eq_true_of_le h1
 simp only[e1,h2,h3,show ∀ n,Nat.beq n n=true from Nat.beq_refl,Bool.and_self,cond_true,aO]
def qJ (sl en bu lo:Int) (H:List Int):Int:=0+sl*1+1*b9 en sl bu+1+lo*3+lo*1+6+(H.length:Int)*1
def placesOf (sl en bu lo V:Int) (H:List Int):List Int:=
 [0,0+sl*1,0+sl*1+1*b9 en sl bu,0+sl*1+1*b9 en sl bu+1,0+sl*1+1*b9 en sl bu+1+lo*3,0+sl*1+1*b9 en sl bu+1+lo*3+lo*1,0+sl*1+1*b9 en sl bu+1+lo*3+lo*1+6,
  qJ sl en bu lo H,qJ sl en bu lo H+V*7,dS (qJ sl en bu lo H+V*7) H]
theorem kj {t0 t1 t2 t3 t4 t5:Int} (h:(0≤t0∧0≤t1∧0≤t2∧0≤t3∧0≤t4∧0≤t5)∧t0+t1+t2+t3+t4+t5≤1024):(hts 1 [t0,t1,t2,t3,t4,t5]).length≤1024:=by
 simp[hts];omega
theorem Dx {th sl en bu kd dn t0 t1 t2 t3 t4 t5 lo tr ba:Int} {xs:List Int} (h:iw th sl en bu kd dn t0 t1 t2 t3 t4 t5 lo tr ba xs=true):12≤qJ sl en bu lo (hts 1 [t0,t1,t2,t3,t4,t5])∧qJ sl en bu lo (hts 1 [t0,t1,t2,t3,t4,t5])≤2000:=by
 obtain⟨c1,⟨c2,c2'⟩,⟨c3,SR⟩,⟨c4,SS⟩,⟨c5,c5'⟩,c6,Dv,Eu⟩:=cI h
 have:=kj ⟨c6,Dv⟩
 obtain⟨d5,d6⟩:=jx (en:=en) c3 SR c4 SS
 unfold qJ
 omega
structure AB (th sl en bu kd dn t0 t1 t2 t3 t4 t5 lo tr ba:Int) (xs:List Int) (h:PT aj) (lb:Nat) (l:bZ) (gb:Nat) (cv:Value):Prop where
 ok:iw th sl en bu kd dn t0 t1 t2 t3 t4 t5 lo tr ba xs=true
 look:(rB (.pointer (some ⟨lb,0,none⟩))).look h=some l
 V:l.V=aZ kd dn xs
 H:l.H=hts 1 [t0,t1,t2,t3,t4,t5]
 P:l.P=placesOf sl en bu lo (aZ kd dn xs) (hts 1 [t0,t1,t2,t3,t4,t5])
 T:l.T=y9 (qJ sl en bu lo (hts 1 [t0,t1,t2,t3,t4,t5])+aZ kd dn xs*7) (hts 1 [t0,t1,t2,t3,t4,t5])
 V6:aS .u64 h cv xs
 cells:∃ rest,l.S=[Value.int .i64 th,.int .i64 sl,.int .u8 en,.int .i64 bu,.int .u8 kd,.int .i64 dn,cv,.int .i64 t0,.int .i64 t1,.int .i64 t2,.int .i64 t3,.int .i64 t4,.int .i64 t5,.int .i64 lo,.int .i64 tr,.int .i64 ba]++rest
theorem Gl {O:Over} (o16:O 65=gy) (o46:O 69=kO) (o44:O 67=kP) (o45:O 68=nT) (o43:∀ a,O 66 a=none) (th sl en bu kd dn t0 t1 t2 t3 t4 t5 lo tr ba:Int) (s:Value) (xs:List Int) (h:PT aj) (N:Nat) (hW:bX h N) (hs:aS .u64 h s xs) (hl:xs.length<1000000000000000):
  cT Tryz.prog O 34 [.agg ⟨[.int .i64 th,.int .i64 sl,.int .u8 en,.int .i64 bu,.int .u8 kd,.int .i64 dn,s,.int .i64 t0,.int .i64 t1,.int .i64 t2,.int .i64 t3,.int .i64 t4,.int .i64 t5,.int .i64 lo,.int .i64 tr,.int .i64 ba]⟩] h N
   fun v h' n'=>(iw th sl en bu kd dn t0 t1 t2 t3 t4 t5 lo tr ba xs=false∧v = .tuple ⟨[.pointer none,.int .i64 2]⟩∧Kept h h')∨
    ∃ lb l gb cv,v = .tuple ⟨[.pointer (some ⟨lb,0,none⟩),.int .i64 0]⟩∧Kept h h'∧N≤lb∧AB th sl en bu kd dn t0 t1 t2 t3 t4 t5 lo tr ba xs h' lb l gb cv:=by
 refine(J0 o16 o46 o44 o45 o43 th sl en bu kd dn t0 t1 t2 t3 t4 t5 lo tr ba s xs h N hW hs hl).mono ?_
 rintro v h' n' (⟨e1,e2,e3⟩ | ⟨e1,lb,cv,hv,tv,gb,rfl,hk,hN,hb,hg,JZ,hH,hT⟩)
 ·exact .inl ⟨e1,e2,e3⟩
 ·have hf:=cI e1
  have hlen:=kj ⟨hf.2.2.2.2.2.1,hf.2.2.2.2.2.2.1⟩
  refine .inr ⟨lb,_,gb,cv,rfl,hk,hN,e1,J4 hb rfl rfl rfl hH hT (fJ (xs:=placesOf sl en bu lo (aZ kd dn xs) (hts 1 [t0,t1,t2,t3,t4,t5]))) (by omega) (qH _ _) rfl,rfl,rfl,rfl,rfl,JZ,⟨_,rfl⟩⟩
end Go.Proofs.YtfhmopghjoeamaaGreat
