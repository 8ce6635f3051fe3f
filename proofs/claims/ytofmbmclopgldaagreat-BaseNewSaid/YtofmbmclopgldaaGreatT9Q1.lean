/-
  A part of the proof: contracts of inner functions.
-/
import Derived.Test.YtofmbmclopgldaaGreatT9P7
import Derived.Test.YtofmbmclopgldaaGreatT9P8
set_option linter.unusedVariables false
set_option linter.unusedSimpArgs false
namespace Go.Proofs.YtofmbmclopgldaaGreat
open Go.Am
theorem Ph {h:PT ak} {lb:Nat} {S:List Value} {ro:Bool} {hv tv:Value} {H T P:List Int} {V:Int} (hb:h.get lb=some (.cells (PT.ofList .leaf 0 S) ro)) (qI:S[27]? = some hv) (Hv:S[28]? = some tv) (h29:S[29]? = some (.int .i64 V))
  (hH:aW .i64 h hv H) (hT:aW .i64 h tv T) (hP:dV .i64 ((S.drop 16).take 10)=some P) (h1:H.length<100000) (h2:T.length=H.length) (h3:S.length=30):(tI (.pointer (some ⟨lb,0,none⟩))).look h=some ⟨S,H,T,P,V⟩:=by
 unfold tI
 simp only[AP.row,Gp,hb,Gn,qI,Hv]
 rw[mT,hH.look,Option.bind_some,mT,hT.look,Option.bind_some,hP,h29]
 have e1:Nat.blt H.length 100000=true:=Nat.ble_eq_true_of_le h1
 simp only[e1,h2,h3,show ∀ n,Nat.beq n n=true from Nat.beq_refl,Bool.and_self,cond_true,aC]
def tL (sl en bu lo:Int) (H:List Int):Int:=0+sl*1+1*cJ en sl bu+1+lo*3+lo*1+6+(H.length:Int)*1
def placesOf (sl en bu lo V:Int) (H:List Int):List Int:=
 [0,0+sl*1,0+sl*1+1*cJ en sl bu,0+sl*1+1*cJ en sl bu+1,0+sl*1+1*cJ en sl bu+1+lo*3,0+sl*1+1*cJ en sl bu+1+lo*3+lo*1,0+sl*1+1*cJ en sl bu+1+lo*3+lo*1+6,
  tL sl en bu lo H,tL sl en bu lo H+V*7,eZ (tL sl en bu lo H+V*7) H]
theorem l9 {t0 t1 t2 t3 t4 t5:Int} (h:(0≤t0∧0≤t1∧0≤t2∧0≤t3∧0≤t4∧0≤t5)∧t0+t1+t2+t3+t4+t5≤1024):(hts 1 [t0,t1,t2,t3,t4,t5]).length≤1024:=by
 simp[hts];omega
theorem Hw {th sl en bu kd dn t0 t1 t2 t3 t4 t5 lo tr ba:Int} {xs:List Int} (h:gB th sl en bu kd dn t0 t1 t2 t3 t4 t5 lo tr ba xs=true):12≤tL sl en bu lo (hts 1 [t0,t1,t2,t3,t4,t5])∧tL sl en bu lo (hts 1 [t0,t1,t2,t3,t4,t5])≤2000:=by
 obtain⟨c1,⟨c2,c2'⟩,⟨c3,ZS⟩,⟨c4,ZT⟩,⟨c5,c5'⟩,c6,Hu,IY⟩:=cO h
 have:=l9 ⟨c6,Hu⟩
 obtain⟨d5,d6⟩:=kM (en:=en) c3 ZS c4 ZT
 unfold tL
 omega
structure DZ (th sl en bu kd dn t0 t1 t2 t3 t4 t5 lo tr ba:Int) (xs:List Int) (h:PT ak) (lb:Nat) (l:cK) (gb:Nat) (cv:Value):Prop where
 ok:gB th sl en bu kd dn t0 t1 t2 t3 t4 t5 lo tr ba xs=true
 look:(tI (.pointer (some ⟨lb,0,none⟩))).look h=some l
 V:l.V=a_ kd dn xs
 H:l.H=hts 1 [t0,t1,t2,t3,t4,t5]
 P:l.P=placesOf sl en bu lo (a_ kd dn xs) (hts 1 [t0,t1,t2,t3,t4,t5])
 T:l.T=Cp (tL sl en bu lo (hts 1 [t0,t1,t2,t3,t4,t5])+a_ kd dn xs*7) (hts 1 [t0,t1,t2,t3,t4,t5])
 acf:aW .u64 h cv xs
 cells:∃ rest,l.S=[Value.int .i64 th,.int .i64 sl,.int .u8 en,.int .i64 bu,.int .u8 kd,.int .i64 dn,cv,.int .i64 t0,.int .i64 t1,.int .i64 t2,.int .i64 t3,.int .i64 t4,.int .i64 t5,.int .i64 lo,.int .i64 tr,.int .i64 ba]++rest
theorem KL {O:Over} (o16:O 108=iV) (o46:O 111=mV) (o44:O 78=mW) (o45:O 110=pW) (o43:∀ a,O 109 a=none) (th sl en bu kd dn t0 t1 t2 t3 t4 t5 lo tr ba:Int) (s:Value) (xs:List Int) (h:PT ak) (N:Nat) (hW:bL h N) (hs:aW .u64 h s xs) (hl:xs.length<1000000000000000):
  cW Tryz.prog O 45 [.agg ⟨[.int .i64 th,.int .i64 sl,.int .u8 en,.int .i64 bu,.int .u8 kd,.int .i64 dn,s,.int .i64 t0,.int .i64 t1,.int .i64 t2,.int .i64 t3,.int .i64 t4,.int .i64 t5,.int .i64 lo,.int .i64 tr,.int .i64 ba]⟩] h N
   fun v h' n'=>(gB th sl en bu kd dn t0 t1 t2 t3 t4 t5 lo tr ba xs=false∧v = .tuple ⟨[.pointer none,.int .i64 2]⟩∧Kept h h')∨
    ∃ lb l gb cv,v = .tuple ⟨[.pointer (some ⟨lb,0,none⟩),.int .i64 0]⟩∧Kept h h'∧N≤lb∧DZ th sl en bu kd dn t0 t1 t2 t3 t4 t5 lo tr ba xs h' lb l gb cv:=by
 refine(Pe o16 o46 o44 o45 o43 th sl en bu kd dn t0 t1 t2 t3 t4 t5 lo tr ba s xs h N hW hs hl).mono ?_
 rintro v h' n' (⟨e1,e2,e3⟩ | ⟨e1,lb,cv,hv,tv,gb,rfl,hk,hN,hb,hg,Pd,hH,hT⟩)
 ·exact .inl ⟨e1,e2,e3⟩
 ·have hf:=cO e1
  have hlen:=l9 ⟨hf.2.2.2.2.2.1,hf.2.2.2.2.2.2.1⟩
  refine .inr ⟨lb,_,gb,cv,rfl,hk,hN,e1,Ph hb rfl rfl rfl hH hT (ig (xs:=placesOf sl en bu lo (a_ kd dn xs) (hts 1 [t0,t1,t2,t3,t4,t5]))) (by omega) (tH _ _) rfl,rfl,rfl,rfl,rfl,Pd,⟨_,rfl⟩⟩
end Go.Proofs.YtofmbmclopgldaaGreat
