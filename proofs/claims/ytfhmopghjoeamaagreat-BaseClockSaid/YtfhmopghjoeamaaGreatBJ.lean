/-
  A part of the proof: contracts of inner functions.
-/
import Derived.Test.YtfhmopghjoeamaaGreatBI
set_option linter.unusedVariables false
set_option linter.unusedSimpArgs false
namespace Go.Proofs.YtfhmopghjoeamaaGreat
open Go.Am
def mkV (g:Nat) (T:List Int):Value:=if T.length=0 then .slice none 0 0 else .slice (some ⟨g,0,none⟩) T.length (az+1)
theorem ry {g:Nat}:mkV g [] = .slice none 0 0:=rfl
theorem nA {g:Nat} {T:List Int} (h:0<T.length):mkV g T = .slice (some ⟨g,0,none⟩) T.length (az+1):=if_neg (by omega)
theorem oX {g:Nat} {T:List Int} {x:Int}:mkV g (T++[x]) = .slice (some ⟨g,0,none⟩) (T.length+1) (az+1):=by rw[nA (by simp)];simp
set_option maxRecDepth 100000 in
set_option maxHeartbeats 8000000 in
theorem KD {h:PT ak} {n lb:Nat} {d:Rl→Nat} {C:Rl→Option ak} {W:List Int} {L:List Value} {k:Nat} {v2 v3 v4 ev m1 m2:Value} {T:List Int} (S:St h n d C) (M:rj d C W L k) (b0:C (70,0)=row [pt lb,pt (d rM),v2,v3,v4,mkV (d (71,0)) T,ev,m1,m2]) (hT:0<T.length→C (71,0)=row (T.map (.int .i64))) (hl:T.length≤1000) (hk:k≤100000):
  gN Tryz.prog OB 8 [pt (d (70,0))] h n fun r h' n'=>∃ g,n≤g∧g<n'∧r=I6 T.length∧St h' n' (upd d (71,0) g) (upd (upd C (71,0) (row ((T++[if T.length=0 then 0 else (k:Int)]).map (.int .i64)))) (70,0) (row [pt lb,pt (d rM),v2,v3,v4,mkV g (T++[if T.length=0 then 0 else (k:Int)]),ev,m1,m2])):=by
 obtain⟨e1,e2,e3,e4⟩:=M
 have g1:=S.at e1
 have g7:=S.at b0
 have n7:=S.lt b0
 have hmk:∀ g x,mkV g (T++[x]) = .slice (some ⟨g,0,none⟩) (T.length+1) (az+1):=fun g x=>oX
 have Dm:∃ x c,Db (d rL) k = .slice x k c:=by
  unfold Db;split
  ·rename_i c;subst c;exact⟨_,_,rfl⟩
  ·exact⟨_,_,rfl⟩
 obtain⟨x,c,Dm⟩:=Dm
 rw[Dm] at g1
 clear e1 e2 e3 e4 Dm
 refine aD (N:=30) Tryz.func8 rfl rfl fun z hP hO hro hN hQ=>?_
 by_cases hz:T.length=0
 ·obtain rfl:T=[]:=List.length_eq_zero_iff.1 hz
  rw[ry] at g7
  repeat' first |simp(maxSteps:=2000000) (disch:=first |omega |assumption) only[go_sem, *] | (apply xs<;>intro _)<;>try omega |refine fun (_ _:List Nat)=>?_ | (first |refine bX Tryz.func26 rfl ?_ ?_ ?_ ?_ |refine bX Tryz.func40 rfl ?_ ?_ ?_ ?_ |fail)<;>intros
  exact⟨_,by omega,by omega,rfl,((S.junk (Nat.le_refl _) (Nat.lt_succ_self _)).new (71,0) _ (Nat.le_refl _) (Nat.lt_succ_self _)).set (70,0) _ ((aq (by decide)).trans b0) (aq (by decide))⟩
 ·have hp:0<T.length:=by omega
  rw[nA hp] at g7
  have e7:=hT hp
  have g8:=S.at e7
  have n8:=S.lt e7
  have d1:=S.df b0 e7 (by decide)
  have Q6:List.take T.length (T.map (Value.int .i64))=T.map (.int .i64):=List.take_of_length_le (by simp)
  have HG: ¬ (T.length:Int)=0:=by omega
  clear hT
  repeat' first |simp(maxSteps:=2000000) (disch:=first |omega |assumption) only[go_sem, *] | (apply xs<;>intro _)<;>try omega |refine fun (_ _:List Nat)=>?_ | (first |refine bX Tryz.func26 rfl ?_ ?_ ?_ ?_ |refine bX Tryz.func40 rfl ?_ ?_ ?_ ?_ |fail)<;>intros
  refine⟨n+1,by omega,by omega,by rw[show (if ((T.length+1:Nat):Int)-1>0 then ((T.length+1:Nat):Int)-1 else 0)=(T.length:Int) by rw[if_pos (by omega)];omega],?_⟩
  exact((((S.junk (Nat.le_refl _) (Nat.lt_succ_self _)).kill (71,0) e7 rfl).new (71,0) _ (Nat.le_refl _) (Nat.lt_succ_self _)).set (70,0) _ ((aq (by decide)).trans ((aq (by decide)).trans b0)) (aq (by decide))).eq (by rw[qU,List.map_append];rfl) rfl
def Dn (T:List Int) (k s:Nat):Value:=if T.length-1+1<s then pZ [I6 0,I6 3] else if s=0 then pZ [I6 0,I6 0] else if T.length-1<s then pZ [I6 k,I6 0] else pZ [I6 (T.getD s 0),I6 0]
set_option maxRecDepth 100000 in
set_option maxHeartbeats 8000000 in
theorem Dp {h:PT ak} {n lb:Nat} {d:Rl→Nat} {C:Rl→Option ak} {W:List Int} {L:List Value} {k s:Nat} {v2 v3 v4 ev m1 m2:Value} {T:List Int} (S:St h n d C) (M:rj d C W L k) (b0:C (70,0)=row [pt lb,pt (d rM),v2,v3,v4,mkV (d (71,0)) T,ev,m1,m2]) (hT:0<T.length→C (71,0)=row (T.map (.int .i64))) (hl:T.length≤1000):
  gN Tryz.prog OB 11 [pt (d (70,0)),I6 s] h n fun r h' n'=>h'=h∧n'=n∧r=Dn T k s:=by
 obtain⟨e1,e2,e3,e4⟩:=M
 have g1:=S.at e1
 have g7:=S.at b0
 have n7:=S.lt b0
 have Dm:∃ x c,Db (d rL) k = .slice x k c:=by
  unfold Db;split
  ·rename_i c;subst c;exact⟨_,_,rfl⟩
  ·exact⟨_,_,rfl⟩
 obtain⟨x,c,Dm⟩:=Dm
 rw[Dm] at g1
 clear e1 e2 e3 e4 Dm
 have s0:(0:Int)≤(s:Int):=by omega
 refine aD (N:=40) Tryz.func11 rfl rfl fun z hP hO hro hN hQ=>?_
 unfold Dn at hQ
 by_cases hz:T.length=0
 ·obtain rfl:T=[]:=List.length_eq_zero_iff.1 hz
  rw[ry] at g7
  repeat' first |simp(maxSteps:=2000000) (disch:=first |omega |assumption) only[go_sem, *] | (apply xs<;>intro _)<;>try omega |refine fun (_ _:List Nat)=>?_ | (first |refine bX Tryz.func26 rfl ?_ ?_ ?_ ?_ |refine bX Tryz.func40 rfl ?_ ?_ ?_ ?_ |fail)<;>intros
  all_goals ((repeat' split)<;>first |rfl |omega)
 ·have hp:0<T.length:=by omega
  rw[nA hp] at g7
  have e7:=hT hp
  have g8:=S.at e7
  have hm:(if (T.length:Int)-1>0 then (T.length:Int)-1 else 0)=(T.length:Int)-1:=by split<;>omega
  clear hT
  by_cases c:s<T.length
  ·have hg:(T.map (Value.int .i64))[s]? = some (.int .i64 (T.getD s 0)):=by rw[List.getElem?_map,List.getElem?_eq_getElem c];simp[List.getD,c]
   have c2:(s:Int)<T.length:=by omega
   repeat' first |simp(maxSteps:=2000000) (disch:=first |omega |assumption) only[go_sem, *] | (apply xs<;>intro _)<;>try omega |refine fun (_ _:List Nat)=>?_ | (first |refine bX Tryz.func26 rfl ?_ ?_ ?_ ?_ |refine bX Tryz.func40 rfl ?_ ?_ ?_ ?_ |fail)<;>intros
   all_goals ((repeat' split)<;>first |rfl |omega)
  ·repeat' first |simp(maxSteps:=2000000) (disch:=first |omega |assumption) only[go_sem, *] | (apply xs<;>intro _)<;>try omega |refine fun (_ _:List Nat)=>?_ | (first |refine bX Tryz.func26 rfl ?_ ?_ ?_ ?_ |refine bX Tryz.func40 rfl ?_ ?_ ?_ ?_ |fail)<;>intros
   all_goals ((repeat' split)<;>first |rfl |omega)
end Go.Proofs.YtfhmopghjoeamaaGreat
