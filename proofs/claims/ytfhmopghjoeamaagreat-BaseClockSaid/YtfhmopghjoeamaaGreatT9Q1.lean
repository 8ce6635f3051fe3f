/-
  A part of the proof: contracts of inner functions.
-/
import Derived.Test.YtfhmopghjoeamaaGreatT9P7
import Derived.Test.YtfhmopghjoeamaaGreatT9P8
set_option linter.unusedVariables false
set_option linter.unusedSimpArgs false
namespace Go.Proofs.YtfhmopghjoeamaaGreat
open Go.Am
theorem FU {h:PT ak} {lb:Nat} {S:List Value} {ro:Bool} {hv tv:Value} {H T P:List Int} {V:Int} (hb:h.get lb=some (.cells (PT.ofList .leaf 0 S) ro)) (xW:S[27]? = some hv) (AI:S[28]? = some tv) (YF:S[29]? = some (.int .i64 V))
  (hH:aZ .i64 h hv H) (hT:aZ .i64 h tv T) (hP:cX .i64 ((S.drop 16).take 10)=some P) (h1:H.length<100000) (h2:T.length=H.length) (h3:S.length=30):(tC (.pointer (some ⟨lb,0,none⟩))).look h=some ⟨S,H,T,P,V⟩:=by
 unfold tC
 simp only[AP.row,Ap,hb,Ao,xW,AI]
 rw[jP,hH.look,Option.bind_some,jP,hT.look,Option.bind_some,hP,YF]
 have e1:Nat.blt H.length 100000=true:=Nat.ble_eq_true_of_le h1
 simp only[e1,h2,h3,show ∀ n,Nat.beq n n=true from Nat.beq_refl,Bool.and_self,cond_true,aN]
def oU (sl en bu lo:Int) (H:List Int):Int:=0+sl*1+1*bR en sl bu+1+lo*3+lo*1+6+(H.length:Int)*1
def placesOf (sl en bu lo V:Int) (H:List Int):List Int:=
 [0,0+sl*1,0+sl*1+1*bR en sl bu,0+sl*1+1*bR en sl bu+1,0+sl*1+1*bR en sl bu+1+lo*3,0+sl*1+1*bR en sl bu+1+lo*3+lo*1,0+sl*1+1*bR en sl bu+1+lo*3+lo*1+6,
  oU sl en bu lo H,oU sl en bu lo H+V*7,dr (oU sl en bu lo H+V*7) H]
theorem jC {t0 t1 t2 t3 t4 t5:Int} (h:(0≤t0∧0≤t1∧0≤t2∧0≤t3∧0≤t4∧0≤t5)∧t0+t1+t2+t3+t4+t5≤1024):(hts 1 [t0,t1,t2,t3,t4,t5]).length≤1024:=by
 simp[hts];omega
theorem AJ {th sl en bu kd dn t0 t1 t2 t3 t4 t5 lo tr ba:Int} {xs:List Int} (h:gI th sl en bu kd dn t0 t1 t2 t3 t4 t5 lo tr ba xs=true):12≤oU sl en bu lo (hts 1 [t0,t1,t2,t3,t4,t5])∧oU sl en bu lo (hts 1 [t0,t1,t2,t3,t4,t5])≤2000:=by
 obtain⟨c1,⟨c2,Yt⟩,⟨c3,Ni⟩,⟨c4,Nj⟩,⟨c5,Yu⟩,c6,Hy,J4⟩:=cj h
 have:=jC ⟨c6,Hy⟩
 obtain⟨d5,d6⟩:=iQ (en:=en) c3 Ni c4 Nj
 unfold oU
 omega
structure xY (th sl en bu kd dn t0 t1 t2 t3 t4 t5 lo tr ba:Int) (xs:List Int) (h:PT ak) (lb:Nat) (l:fG) (gb:Nat) (cv:Value):Prop where
 ok:gI th sl en bu kd dn t0 t1 t2 t3 t4 t5 lo tr ba xs=true
 look:(tC (.pointer (some ⟨lb,0,none⟩))).look h=some l
 V:l.V=aV kd dn xs
 H:l.H=hts 1 [t0,t1,t2,t3,t4,t5]
 P:l.P=placesOf sl en bu lo (aV kd dn xs) (hts 1 [t0,t1,t2,t3,t4,t5])
 T:l.T=wo (oU sl en bu lo (hts 1 [t0,t1,t2,t3,t4,t5])+aV kd dn xs*7) (hts 1 [t0,t1,t2,t3,t4,t5])
 Qt:aZ .u64 h cv xs
 cells:∃ rest,l.S=[Value.int .i64 th,.int .i64 sl,.int .u8 en,.int .i64 bu,.int .u8 kd,.int .i64 dn,cv,.int .i64 t0,.int .i64 t1,.int .i64 t2,.int .i64 t3,.int .i64 t4,.int .i64 t5,.int .i64 lo,.int .i64 tr,.int .i64 ba]++rest
theorem C7 {O:Over} (UG:O 65=fQ) (UH:O 69=jQ) (UI:O 67=jR) (UJ:O 68=lU) (UK:∀ a,O 66 a=none) (th sl en bu kd dn t0 t1 t2 t3 t4 t5 lo tr ba:Int) (s:Value) (xs:List Int) (h:PT ak) (N:Nat) (hW:cW h N) (hs:aZ .u64 h s xs) (hl:xs.length<1000000000000000):
  gN Tryz.prog O 34 [.agg ⟨[.int .i64 th,.int .i64 sl,.int .u8 en,.int .i64 bu,.int .u8 kd,.int .i64 dn,s,.int .i64 t0,.int .i64 t1,.int .i64 t2,.int .i64 t3,.int .i64 t4,.int .i64 t5,.int .i64 lo,.int .i64 tr,.int .i64 ba]⟩] h N
   fun v h' n'=>(gI th sl en bu kd dn t0 t1 t2 t3 t4 t5 lo tr ba xs=false∧v = .tuple ⟨[.pointer none,.int .i64 2]⟩∧Kept h h')∨
    ∃ lb l gb cv,v = .tuple ⟨[.pointer (some ⟨lb,0,none⟩),.int .i64 0]⟩∧Kept h h'∧N≤lb∧xY th sl en bu kd dn t0 t1 t2 t3 t4 t5 lo tr ba xs h' lb l gb cv:=by
 refine(FR UG UH UI UJ UK th sl en bu kd dn t0 t1 t2 t3 t4 t5 lo tr ba s xs h N hW hs hl).mono ?_
 rintro v h' n' (⟨e1,e2,e3⟩ | ⟨e1,lb,cv,hv,tv,gb,rfl,hk,hN,hb,hg,FQ,hH,hT⟩)
 ·exact .inl ⟨e1,e2,e3⟩
 ·have hf:=cj e1
  have hlen:=jC ⟨hf.2.2.2.2.2.1,hf.2.2.2.2.2.2.1⟩
  refine .inr ⟨lb,_,gb,cv,rfl,hk,hN,e1,FU hb rfl rfl rfl hH hT (eT (xs:=placesOf sl en bu lo (aV kd dn xs) (hts 1 [t0,t1,t2,t3,t4,t5]))) (by omega) (oS _ _) rfl,rfl,rfl,rfl,rfl,FQ,⟨_,rfl⟩⟩
end Go.Proofs.YtfhmopghjoeamaaGreat
