/-
  A part of the proof: contracts of inner functions.
-/
import Derived.Test.YtfhmopghjoeamaaGreatBW
set_option linter.unusedVariables false
set_option linter.unusedSimpArgs false
namespace Go.Proofs.YtfhmopghjoeamaaGreat
open Go.Am
variable {O:Over}
theorem uj {xs ys:List Int} {i:Nat} (h1:i<xs.length) (h2:i<ys.length) (h:xs.take i=ys.take i) (e:xs.getD i 0=ys.getD i 0):xs.take (i+1)=ys.take (i+1):=by
 rw[List.take_add_one,List.take_add_one,h]
 simp[List.getD,h1,h2] at e
 simp[h1,h2,e]
theorem vW (n a:Nat):(n.ble a&&a.blt n)=false:=by
 cases h:n.ble a
 ·rfl
 ·have:=Nat.le_of_ble_eq_true h
  cases h2:a.blt n
  ·rfl
  ·have:=Nat.le_of_ble_eq_true h2
   omega
theorem GH {xs ys:List Int} {i:Nat} (e: ¬ xs.getD i 0=ys.getD i 0): ¬ xs=ys:=fun h=>e (by rw[h])
set_option maxRecDepth 100000 in
set_option maxHeartbeats 4000000 in
theorem kU (xs ys:List Int) (s t:Value) (h:PT aj) (n:Nat) (hs:aS .i64 h s xs) (ht:aS .i64 h t ys) (hl:xs.length<1000000) (KT:ys.length<1000000):
  cT Tryz.prog O 32 [s,t] h n fun v h' n'=>v = .bool (decide (xs=ys))∧h'=h∧n'=n:=by
 obtain⟨a,cap,rfl,hA⟩:=hs.len
 obtain⟨b,Xc,rfl,hB⟩:=ht.len
 clear hs ht
 refine aB (N:=26) Tryz.func32 rfl rfl fun z hP hO hro hN hQ=>?_
 by_cases hlen:xs.length=ys.length
 ·have FZ:(xs.length:Int)=ys.length:=by omega
  repeat' first |simp(maxSteps:=2000000) (disch:=first |omega |assumption) only[go_sem, *] | (apply xs<;>intro _)<;>try omega | ((with_reducible refine dA 6 ?_);refine dw 26 6 vw (by first | (simp only[go_sem, *];done) |rfl) (by kernel_rfl) (by kernel_rfl) ?_)
  refine cU (fun t m h' n'=>h'=h∧n'=n∧∃ i:Nat,i≤xs.length∧t=xs.length-i∧xs.take i=ys.take i∧m.n=26∧m.fO=[]∧m.get 0 = .slice a xs.length cap∧m.get 1 = .slice b ys.length Xc∧m.get 5 = .int .i64 i) xs.length ?_ ?_
  ·refine⟨rfl,rfl,0,by omega,by omega,rfl,?_⟩
   simp(maxSteps:=2000000) (disch:=first |omega |assumption) only[go_sem, *]
  ·rintro t m h n ih ⟨rfl,rfl,i,hi,rfl,A8,m1,m2,m3,m4,m5⟩
   rcases Nat.lt_or_ge i xs.length with hlt |hge
   ·obtain⟨bk,off,sp,L,ro,rfl,hb,hL⟩:=hA i hlt
    obtain⟨bk2,off2,sp2,L2,SW,rfl,rF,Wa⟩:=hB i (by omega)
    have e1:(i:Int)<xs.length:=by omega
    have e2:(i:Int)<ys.length:=by omega
    clear hA hB
    by_cases e3:xs.getD i 0=ys.getD i 0
    ·rw[e3] at hL
     have Xd:=uj hlt (by omega) A8 e3
     repeat' first |simp(maxSteps:=2000000) (disch:=first |omega |assumption) only[go_sem, *,vW] | (apply xs<;>intro _)<;>try omega | ((with_reducible refine dA 6 ?_);refine dw 26 6 vw (by first | (simp only[go_sem, *];done) |rfl) (by kernel_rfl) (by kernel_rfl) ?_)
     refine ih (xs.length-(i+1)) _ _ _ (by omega) ⟨rfl,rfl,i+1,by omega,by omega,Xd,?_⟩
     simp(maxSteps:=2000000) (disch:=first |omega |assumption) only[go_sem, *]
     simp
    ·have hxy:=GH e3
     repeat' first |simp(maxSteps:=2000000) (disch:=first |omega |assumption) only[go_sem, *,vW] | (apply xs<;>intro _)<;>try omega | ((with_reducible refine dA 6 ?_);refine dw 26 6 vw (by first | (simp only[go_sem, *];done) |rfl) (by kernel_rfl) (by kernel_rfl) ?_)
   ·have e1: ¬ (i:Int)<xs.length:=by omega
    have e2: ¬ (i:Int)<ys.length:=by omega
    have hxy:xs=ys:=by
     have:=A8
     rwa [List.take_of_length_le hge,List.take_of_length_le (by omega)] at this
    repeat' first |simp(maxSteps:=2000000) (disch:=first |omega |assumption) only[go_sem, *] | (apply xs<;>intro _)<;>try omega | ((with_reducible refine dA 6 ?_);refine dw 26 6 vw (by first | (simp only[go_sem, *];done) |rfl) (by kernel_rfl) (by kernel_rfl) ?_)
 ·have FZ: ¬ (xs.length:Int)=ys.length:=by omega
  have hxy: ¬ xs=ys:=fun e=>hlen (by rw[e])
  repeat' first |simp(maxSteps:=2000000) (disch:=first |omega |assumption) only[go_sem, *] | (apply xs<;>intro _)<;>try omega | ((with_reducible refine dA 6 ?_);refine dw 26 6 vw (by first | (simp only[go_sem, *];done) |rfl) (by kernel_rfl) (by kernel_rfl) ?_)
end Go.Proofs.YtfhmopghjoeamaaGreat
