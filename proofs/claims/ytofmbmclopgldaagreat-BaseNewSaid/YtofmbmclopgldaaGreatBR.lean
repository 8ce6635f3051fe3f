/-
  A part of the proof: contracts of inner functions.
-/
import Derived.Test.YtofmbmclopgldaaGreatBI
set_option linter.unusedVariables false
set_option linter.unusedSimpArgs false
namespace Go.Proofs.YtofmbmclopgldaaGreat
open Go.Am
def mkV (g:Nat) (T:List Int):Value:=if T.length=0 then .slice none 0 0 else .slice (some ⟨g,0,none⟩) T.length (aB+1)
theorem Lc {g:Nat}:mkV g [] = .slice none 0 0:=rfl
theorem Ld {g:Nat} {T:List Int} (h:0<T.length):mkV g T = .slice (some ⟨g,0,none⟩) T.length (aB+1):=if_neg (by omega)
def bfV (T:List Int) (k s:Nat):Value:=if T.length-1+1<s then nD [I6 0,I6 3] else if s=0 then nD [I6 0,I6 0] else if T.length-1<s then nD [I6 k,I6 0] else nD [I6 (T.getD s 0),I6 0]
set_option maxRecDepth 100000 in
set_option maxHeartbeats 8000000 in
theorem Le {h:PT ak} {n lb:Nat} {d:Rl→Nat} {C:Rl→Option ak} {W:List Int} {L:List Value} {k s:Nat} {v2 v3 v4 ev m1 m2:Value} {T:List Int} (S:St h n d C) (M:mB d C W L k) (b0:C (70,0)=row [pt lb,pt (d rM),v2,v3,v4,mkV (d (71,0)) T,ev,m1,m2]) (hT:0<T.length→C (71,0)=row (T.map (.int .i64))) (hl:T.length≤1000):
  cW Tryz.prog OB 13 [pt (d (70,0)),I6 s] h n fun r h' n'=>h'=h∧n'=n∧r=bfV T k s:=by
 obtain⟨e1,e2,e3,e4⟩:=M
 have g1:=S.at e1
 have g7:=S.at b0
 have n7:=S.lt b0
 have U4:∃ x c,Et (d rL) k = .slice x k c:=by
  unfold Et;split
  ·rename_i c;subst c;exact⟨_,_,rfl⟩
  ·exact⟨_,_,rfl⟩
 obtain⟨x,c,U4⟩:=U4
 rw[U4] at g1
 clear e1 e2 e3 e4 U4
 have s0:(0:Int)≤(s:Int):=by omega
 refine ay (N:=40) Tryz.func13 rfl rfl fun z hP hO hro hN hQ=>?_
 unfold bfV at hQ
 by_cases hz:T.length=0
 ·obtain rfl:T=[]:=List.length_eq_zero_iff.1 hz
  rw[Lc] at g7
  repeat' first |simp(maxSteps:=2000000) (disch:=first |omega |assumption) only[go_sem, *] | (apply xs<;>intro _)<;>try omega |refine fun (_ _:List Nat)=>?_ | (first |refine aJ Tryz.func25 rfl ?_ ?_ ?_ ?_ |refine aJ Tryz.func65 rfl ?_ ?_ ?_ ?_ |fail)<;>intros
  all_goals ((repeat' split)<;>first |rfl |omega)
 ·have hp:0<T.length:=by omega
  rw[Ld hp] at g7
  have e7:=hT hp
  have g8:=S.at e7
  have hm:(if (T.length:Int)-1>0 then (T.length:Int)-1 else 0)=(T.length:Int)-1:=by split<;>omega
  clear hT
  by_cases c:s<T.length
  ·have hg:(T.map (Value.int .i64))[s]? = some (.int .i64 (T.getD s 0)):=by rw[List.getElem?_map,List.getElem?_eq_getElem c];simp[List.getD,c]
   have c2:(s:Int)<T.length:=by omega
   repeat' first |simp(maxSteps:=2000000) (disch:=first |omega |assumption) only[go_sem, *] | (apply xs<;>intro _)<;>try omega |refine fun (_ _:List Nat)=>?_ | (first |refine aJ Tryz.func25 rfl ?_ ?_ ?_ ?_ |refine aJ Tryz.func65 rfl ?_ ?_ ?_ ?_ |fail)<;>intros
   all_goals ((repeat' split)<;>first |rfl |omega)
  ·repeat' first |simp(maxSteps:=2000000) (disch:=first |omega |assumption) only[go_sem, *] | (apply xs<;>intro _)<;>try omega |refine fun (_ _:List Nat)=>?_ | (first |refine aJ Tryz.func25 rfl ?_ ?_ ?_ ?_ |refine aJ Tryz.func65 rfl ?_ ?_ ?_ ?_ |fail)<;>intros
   all_goals ((repeat' split)<;>first |rfl |omega)
end Go.Proofs.YtofmbmclopgldaaGreat
set_option linter.unusedVariables false
set_option linter.unusedSimpArgs false
namespace Go.Proofs.YtofmbmclopgldaaGreat
open Go.Am
theorem U5:Tryz.prog.underlying 3=some (.int .i64):=by kernel_rfl
theorem ac4:Tryz.prog.underlying 111=some (.map 3 255):=by kernel_rfl
@[go_sem] theorem lkE {r:Nat} {x:Int} {ok:Bool}:Rr Tryz.prog 111 (.map (some r)) (.int .i64 x) ok = .get r (Oy Tryz.prog (.int .i64) 255 (.int .i64 x) ok):=lkI ac4 U5
attribute [go_sem] Kc Ke Kf
theorem U7:zeroOf Tryz.prog 255=some (.agg ⟨[.int .i64 0,.bool false]⟩):=by kernel_rfl
@[go_sem] theorem ajr {i:Nat} {v:Value}:DF Tryz.prog 321 false (some (some (i,v))) = .pure (.value v):=rfl
@[go_sem] theorem ajs {i:Nat} {v:Value}:DF Tryz.prog 326 false (some (some (i,v))) = .pure (.value v):=rfl
@[go_sem] theorem ac5 {i:Nat} {v:Value}:DF Tryz.prog 4 true (some (some (i,v))) = .pure (.value (.tuple ⟨[v,.bool true]⟩)):=rfl
@[go_sem] theorem ac6:DF Tryz.prog 255 true (some none) = .pure (.value (.tuple ⟨[.agg ⟨[.int .i64 0,.bool false]⟩,.bool false]⟩)):=by simp only[DF,U7,cond_true]
@[go_sem] theorem ac7 {i:Nat} {v:Value}:DF Tryz.prog 255 true (some (some (i,v))) = .pure (.value (.tuple ⟨[v,.bool true]⟩)):=rfl
@[go_sem] theorem U9 {r:Nat} {k v:Value} {es:List (Value×Value×Nat)} {c:Nat}:Rt r true k v es c (some none) = .set r (.map (es++[(k,v,c)]) (c+1)) (.pure .skip):=rfl
@[go_sem] theorem U_ {r i:Nat} {k v w:Value} {es:List (Value×Value×Nat)} {c:Nat}:Rt r true k v es c (some (some (i,w))) = .set r (.map (ey k v es i) c) (.pure .skip):=rfl
@[go_sem] theorem Va {r c:Nat} {l:List bG} {k:IntKind}:V_ r l k c none = .pure (.value (.tuple ⟨[]⟩)):=rfl
@[go_sem] theorem Vb {r c i:Nat} {l:List bG} {k:IntKind} {v:Value}:V_ r l k c (some (i,v)) = .set r (.map (bP k (l.eraseIdx i)) c) (.pure (.value (.tuple ⟨[]⟩))):=rfl
@[go_sem] theorem mu0 {r:Nat} {v:Value}:Oz Tryz.prog r (.int .u8) (.int .u8 4) v (.map [] 0) = .set r (.map [(.int .u8 4,v,0)] 1) (.pure .skip):=by rfl
@[go_sem] theorem mu1 {r:Nat} {v w:Value}:Oz Tryz.prog r (.int .u8) (.int .u8 5) v (.map [(.int .u8 4,w,0)] 1) = .set r (.map [(.int .u8 4,w,0),(.int .u8 5,v,1)] 2) (.pure .skip):=by rfl
@[go_sem] theorem am3 {r:Nat} {v w:Value}:Oz Tryz.prog r (.int .u8) (.int .u8 7) v (.map [(.int .u8 4,w,0)] 1) = .set r (.map [(.int .u8 4,w,0),(.int .u8 7,v,1)] 2) (.pure .skip):=by rfl
@[go_sem] theorem mu2 {r:Nat} {v w u:Value}:Oz Tryz.prog r (.int .u8) (.int .u8 6) v (.map [(.int .u8 4,w,0),(.int .u8 5,u,1)] 2) = .set r (.map [(.int .u8 4,w,0),(.int .u8 5,u,1),(.int .u8 6,v,2)] 3) (.pure .skip):=by rfl
@[go_sem] theorem am4 {r:Nat} {v w u:Value}:Oz Tryz.prog r (.int .u8) (.int .u8 8) v (.map [(.int .u8 4,w,0),(.int .u8 7,u,1)] 2) = .set r (.map [(.int .u8 4,w,0),(.int .u8 7,u,1),(.int .u8 8,v,2)] 3) (.pure .skip):=by rfl
structure Nx (n:Nat) (d:Rl→Nat) (C:Rl→Option ak) (X:List Nat) (W':List Int) (k':Nat) (d':Rl→Nat) (C':Rl→Option ak) (h':PT ak) (n':Nat):Prop where
 le:n≤n'
 st:St h' n' d' C'
 fz:∀ h1 n1,n1≤n→Fz h1 n1 d C→Fz h1 n1 d' C'
 mem:∃ L',mB d' C' W' L' k'
 dM:d' rM=d rM
 dd:∀ a b,2<a→d' (a,b)=d (a,b)
 cc:∀ a b,2<a→a∉X→C' (a,b)=C (a,b)
section
variable {h:PT ak} {n:Nat} {d:Rl→Nat} {C:Rl→Option ak} {W:List Int} {L:List Value} {k a:Nat} {th o x:Int}
end
def vo (pb:Nat) (th tw hd w pc:Int) (mp:Nat) (bl fl tr e:Int):List Value:=[pt pb,I6 th,I6 tw,I6 hd,U6 w,U8 pc,.map (some mp),I6 bl,I6 fl,I6 tr,I6 e]
def Lf:List bG:=[(4,.func (.func 183) ⟨[]⟩ ⟨[]⟩,0),(5,.func (.func 184) ⟨[]⟩ ⟨[]⟩,1),(6,.func (.func 185) ⟨[]⟩ ⟨[]⟩,2)]
@[go_sem] theorem tk4:bg 4 Lf 0=some (0,.func (.func 183) ⟨[]⟩ ⟨[]⟩):=rfl
@[go_sem] theorem tk5:bg 5 Lf 0=some (1,.func (.func 184) ⟨[]⟩ ⟨[]⟩):=rfl
@[go_sem] theorem tk6:bg 6 Lf 0=some (2,.func (.func 185) ⟨[]⟩ ⟨[]⟩):=rfl
end Go.Proofs.YtofmbmclopgldaaGreat
set_option linter.unusedVariables false
set_option linter.unusedSimpArgs false
namespace Go.Proofs.YtofmbmclopgldaaGreat
open Go.Am
end Go.Proofs.YtofmbmclopgldaaGreat
set_option linter.unusedVariables false
set_option linter.unusedSimpArgs false
namespace Go.Proofs.YtofmbmclopgldaaGreat
open Go.Am
def zu (pb:Nat) (th tw hd w pc:Int) (mp:Nat):List Value:=[pt pb,I6 th,I6 tw,I6 hd,U6 w,U8 pc,.map (some mp)]
def MS:List bG:=[(4,.func (.func 187) ⟨[]⟩ ⟨[]⟩,0),(7,.func (.func 188) ⟨[]⟩ ⟨[]⟩,1),(8,.func (.func 189) ⟨[]⟩ ⟨[]⟩,2)]
@[go_sem] theorem gv4:bg 4 MS 0=some (0,.func (.func 187) ⟨[]⟩ ⟨[]⟩):=rfl
@[go_sem] theorem gv7:bg 7 MS 0=some (1,.func (.func 188) ⟨[]⟩ ⟨[]⟩):=rfl
@[go_sem] theorem gv8:bg 8 MS 0=some (2,.func (.func 189) ⟨[]⟩ ⟨[]⟩):=rfl
end Go.Proofs.YtofmbmclopgldaaGreat
