/-
  A part of the proof: contracts of inner functions.
-/
import Derived.Test.YtfhmopghjoeamaaGreatPT
import Derived.Test.YtfhmopghjoeamaaGreatAmV4
set_option linter.unusedVariables false
set_option linter.unusedSimpArgs false
namespace Go.Proofs.YtfhmopghjoeamaaGreat
open Go.Am
def Wx (a:Addr) (B:aj):AP aE:=AP.bind (match B with
    | .cells c _=>match dQ c a with |some n => .pure (.int .u64 n) |none => .fail "atomic"
    | _ => .fail "atomic") fun v => .pure (.value v)
def Wy (a:Addr) (v:Int) (B:aj):AP aE:=AP.bind (match B with
    | .cells c false=>match dQ c a with |some _ => .set a.block (.cells (c.set a.off (some (.int .u64 v))) false) (.pure (.tuple ⟨[]⟩)) |none => .fail "atomic"
    | _ => .fail "atomic") fun v => .pure (.value v)
def Wz (a:Addr) (v:Int) (B:aj):AP aE:=AP.bind (match B with
    | .cells c false=>match dQ c a with |some n => .set a.block (.cells (c.set a.off (some (.int .u64 v))) false) (.pure (.int .u64 n)) |none => .fail "atomic"
    | _ => .fail "atomic") fun v => .pure (.value v)
@[go_sem] theorem OS {b off:Nat} {sp:Option Nat}:ak Tryz.prog 77 [.pointer (some ⟨b,off,sp⟩)] = .get b (Wx ⟨b,off,sp⟩):=by kernel_rfl
@[go_sem] theorem L6 {b off:Nat} {sp:Option Nat} {v:Int}:ak Tryz.prog 106 [.pointer (some ⟨b,off,sp⟩),.int .u64 v] = .get b (Wy ⟨b,off,sp⟩ v):=by kernel_rfl
@[go_sem] theorem OT {b off:Nat} {sp:Option Nat} {v:Int}:ak Tryz.prog 149 [.pointer (some ⟨b,off,sp⟩),.int .u64 v] = .get b (Wz ⟨b,off,sp⟩ v):=by kernel_rfl
def OU:Option Value→AP aE
 |some (.int .u64 n) => .pure (.value (.int .u64 n))
 | _ => .fail "atomic"
def J8 (b off:Nat) (v:Int) (L:List Value):Option Value→AP aE
 |some (.int .u64 _) => .set b (.cells (PT.ofList .leaf 0 (L.set off (.int .u64 v))) false) (.pure (.value (.tuple ⟨[]⟩)))
 | _ => .fail "atomic"
def J9 (b off:Nat) (v:Int) (L:List Value):Option Value→AP aE
 |some (.int .u64 n) => .set b (.cells (PT.ofList .leaf 0 (L.set off (.int .u64 v))) false) (.pure (.value (.int .u64 n)))
 | _ => .fail "atomic"
@[go_sem] theorem L7 {n:Int}:OU (some (.int .u64 n)) = .pure (.value (.int .u64 n)):=rfl
@[go_sem] theorem L8 {b off:Nat} {v n:Int} {L:List Value}:J8 b off v L (some (.int .u64 n)) = .set b (.cells (PT.ofList .leaf 0 (L.set off (.int .u64 v))) false) (.pure (.value (.tuple ⟨[]⟩))):=rfl
@[go_sem] theorem L9 {b off:Nat} {v n:Int} {L:List Value}:J9 b off v L (some (.int .u64 n)) = .set b (.cells (PT.ofList .leaf 0 (L.set off (.int .u64 v))) false) (.pure (.value (.int .u64 n))):=rfl
theorem gS {L:List Value} {b off:Nat} {sp:Option Nat}:dQ (PT.ofList .leaf 0 L) ⟨b,off,sp⟩=match L[off]? with |some (.int .u64 n)=>some n | _=>none:=by
 unfold dQ
 rw[PT.aF]
 rfl
@[go_sem] theorem SZ {L:List Value} {ro:Bool} {b off:Nat} {sp:Option Nat}:Wx ⟨b,off,sp⟩ (.cells (PT.ofList .leaf 0 L) ro)=OU L[off]? := by
 simp only[Wx,gS]
 cases L[off]? with
 |none=>rfl
 |some v=>cases v with
  |int k n=>cases k<;>rfl
  | _=>rfl
@[go_sem] theorem S_ {L:List Value} {v:Int} {b off:Nat} {sp:Option Nat}:Wy ⟨b,off,sp⟩ v (.cells (PT.ofList .leaf 0 L) false)=J8 b off v L L[off]? := by
 simp only[Wy,gS]
 cases e:L[off]? with
 |none=>rfl
 |some u=>
  have hl:=(List.getElem?_eq_some_iff.1 e).1
  cases u with
  |int k n=>
   cases k with
   |u64=>simp only[AP.bind,J8,kF _ _ _ hl]
   | _=>rfl
  | _=>rfl
@[go_sem] theorem Ta {L:List Value} {v:Int} {b off:Nat} {sp:Option Nat}:Wz ⟨b,off,sp⟩ v (.cells (PT.ofList .leaf 0 L) false)=J9 b off v L L[off]? := by
 simp only[Wz,gS]
 cases e:L[off]? with
 |none=>rfl
 |some u=>
  have hl:=(List.getElem?_eq_some_iff.1 e).1
  cases u with
  |int k n=>
   cases k with
   |u64=>simp only[AP.bind,J9,kF _ _ _ hl]
   | _=>rfl
  | _=>rfl
def atA (a:Addr) (v:Int) (B:aj):AP aE:=AP.bind (match B with
    | .cells c false=>match dQ c a with |some n => .set a.block (.cells (c.set a.off (some (.int .u64 (IntKind.u64.wrap (n+v))))) false) (.pure (.int .u64 (IntKind.u64.wrap (n+v)))) |none => .fail "atomic"
    | _ => .fail "atomic") fun v => .pure (.value v)
def WA (a:Addr) (o v:Int) (B:aj):AP aE:=AP.bind (match B with
    | .cells c false=>match dQ c a with |some n=>cond (n==o) (.set a.block (.cells (c.set a.off (some (.int .u64 v))) false) (.pure (.bool true))) (.pure (.bool false)) |none => .fail "atomic"
    | _ => .fail "atomic") fun v => .pure (.value v)
@[go_sem] theorem Tb {b off:Nat} {sp:Option Nat} {o v:Int}:ak Tryz.prog 150 [.pointer (some ⟨b,off,sp⟩),.int .u64 o,.int .u64 v] = .get b (WA ⟨b,off,sp⟩ o v):=by kernel_rfl
def J_ (b off:Nat) (v:Int) (L:List Value):Option Value→AP aE
 |some (.int .u64 n) => .set b (.cells (PT.ofList .leaf 0 (L.set off (.int .u64 (IntKind.u64.wrap (n+v))))) false) (.pure (.value (.int .u64 (IntKind.u64.wrap (n+v)))))
 | _ => .fail "atomic"
def Ka (b off:Nat) (o v:Int) (L:List Value):Option Value→AP aE
 |some (.int .u64 n)=>cond (n==o) (.set b (.cells (PT.ofList .leaf 0 (L.set off (.int .u64 v))) false) (.pure (.value (.bool true)))) (.pure (.value (.bool false)))
 | _ => .fail "atomic"
@[go_sem] theorem L_ {b off:Nat} {v n:Int} {L:List Value}:J_ b off v L (some (.int .u64 n)) = .set b (.cells (PT.ofList .leaf 0 (L.set off (.int .u64 (IntKind.u64.wrap (n+v))))) false) (.pure (.value (.int .u64 (IntKind.u64.wrap (n+v))))):=rfl
@[go_sem] theorem Ma {b off:Nat} {o v n:Int} {L:List Value}:Ka b off o v L (some (.int .u64 n))=cond (n==o) (.set b (.cells (PT.ofList .leaf 0 (L.set off (.int .u64 v))) false) (.pure (.value (.bool true)))) (.pure (.value (.bool false))):=rfl
@[go_sem] theorem Tc {L:List Value} {v:Int} {b off:Nat} {sp:Option Nat}:atA ⟨b,off,sp⟩ v (.cells (PT.ofList .leaf 0 L) false)=J_ b off v L L[off]? := by
 simp only[atA,gS]
 cases e:L[off]? with
 |none=>rfl
 |some u=>
  have hl:=(List.getElem?_eq_some_iff.1 e).1
  cases u with
  |int k n=>
   cases k with
   |u64=>simp only[AP.bind,J_,kF _ _ _ hl]
   | _=>rfl
  | _=>rfl
@[go_sem] theorem Td {L:List Value} {o v:Int} {b off:Nat} {sp:Option Nat}:WA ⟨b,off,sp⟩ o v (.cells (PT.ofList .leaf 0 L) false)=Ka b off o v L L[off]? := by
 simp only[WA,gS]
 cases e:L[off]? with
 |none=>rfl
 |some u=>
  have hl:=(List.getElem?_eq_some_iff.1 e).1
  cases u with
  |int k n=>
   cases k with
   |u64=>
    simp only[Ka,kF _ _ _ hl]
    cases (n==o)<;>rfl
   | _=>rfl
  | _=>rfl
end Go.Proofs.YtfhmopghjoeamaaGreat
set_option linter.unusedVariables false
set_option linter.unusedSimpArgs false
namespace Go.Proofs.YtfhmopghjoeamaaGreat
open Go.Am
abbrev rM:Rl:=(0,0)
abbrev rW:Rl:=(1,0)
abbrev rL:Rl:=(2,0)
def Gq (g k:Nat):Value:=if k=0 then .slice none 0 0 else .slice (some ⟨g,0,none⟩) k (aA+6)
structure kR (d:Rl→Nat) (C:Rl→Option aj) (W:List Int) (L:List Value) (k:Nat):Prop where
 mem:C rM=row [.slice (some ⟨d rW,0,none⟩) W.length W.length,Gq (d rL) k]
 words:C rW=row (W.map (.int .u64))
 log:(k=0∧L=[])∨(0<k∧C rL=row L)
 len:L.length=k*6
def AH (th a kd old new:Int) (sw:Bool):List Value:=[.int .i64 th,.int .i64 a,.int .u8 kd,.int .u64 old,.int .u64 new,.bool sw]
def jz (C:Rl→Option aj) (w g:Nat) (W:List Int) (L:List Value) (k:Nat):Rl→Option aj:=upd (upd (upd C rW (row (W.map (.int .u64)))) rL (row L)) rM (row [.slice (some ⟨w,0,none⟩) W.length W.length,.slice (some ⟨g,0,none⟩) k (aA+6)])
theorem aH {C:Rl→Option aj} {w g:Nat} {W:List Int} {L:List Value} {k a b:Nat} (h:2<a):jz C w g W L k (a,b)=C (a,b):=by
 unfold jz
 rw[aq (by omega),aq (by omega),aq (by omega)]
theorem kR.next {d:Rl→Nat} {C:Rl→Option aj} {W W':List Int} {L L':List Value} {k g:Nat} (hw:W'.length=W.length) (hl:L'.length=(k+1)*6):kR (upd d rL g) (jz C (d rW) g W' L' (k+1)) W' L' (k+1):=by
 refine⟨?_,?_,.inr ⟨by omega,?_⟩,hl⟩
 ·unfold jz Gq
  rw[au,if_neg (by omega),au,aq (by decide)]
 ·unfold jz
  rw[aq (by decide),aq (by decide),au]
 ·unfold jz
  rw[aq (by decide),au]
theorem eP {W:List Int} {i:Nat} (hi:i<W.length):(W.map (Value.int .u64))[i]? = some (.int .u64 W[i]):=by
 rw[List.getElem?_map,List.getElem?_eq_getElem hi];rfl
theorem _root_.Go.Am.St.fin {H:PT aj} {n g m:Nat} {d:Rl→Nat} {C:Rl→Option aj} {A:aj} (S:St H n d C) (e:C rM=some A) (hg:n≤g) (hm:g<m) (B X:aj):St ((H.set g (some B)).set (d rM) (some X)) m (upd d rL g) (upd (upd C rL (some B)) rM (some X)):=
 (S.new rL B hg hm).set rM X (by rw[aq (by decide)];exact e) (aq (by decide))
structure Gr (O:Over):Prop where
 c:O 41=fun _=>none
 l:O 42=fun _=>none
 s:O 145=fun _=>none
 k:O 148=fun _=>none
 n:O 43=fun _=>none
variable {O:Over}
set_option maxHeartbeats 4000000 in
theorem OV (oM:Gr O) {h:PT aj} {n:Nat} {d:Rl→Nat} {C:Rl→Option aj} {W:List Int} {L:List Value} {k a:Nat} {th:Int} (S:St h n d C) (M:kR d C W L k) (hk:k≤100000) (ht:0≤th∧th<64) (ha:a<W.length):
  cT Tryz.prog O 10 [pt (d rM),I6 th,I6 a] h n fun v h' n'=>∃ g,n≤g∧g<n'∧v=oF [U6 W[a],I6 0]∧St h' n' (upd d rL g) (jz C (d rW) g (W) (L++AH th a 1 W[a] W[a] false) (k+1)):=by
 obtain⟨m1,m2,m3,m4⟩:=M
 obtain⟨o1,o2,o3,o4,o5⟩:=oM
 have g1:=S.at m1
 have g2:=S.at m2
 have n1:=S.lt m1
 have n2:=S.lt m2
 have d1:=S.df m1 m2 (by decide)
 have hg:=eP ha
 have a1:(0:Int)≤(a:Int):=by omega
 have a2:(a:Int)<(W.length:Int):=by omega
 obtain⟨t1,t2⟩:=ht
 have hk2:k+1≤1048576:=by omega
 have S1:=S
 have e1:∀ {A},C rM=some A→C rM=some A:=fun q=>q
 have e2:∀ {A},C rM=some A→(upd C rL none) rM=some A:=fun q=>by rw[aq (by decide)];exact q
 have e3:∀ {A},C rL=some A→C rL=some A:=fun q=>q
 have m2':=JM m2
 generalize W[a]=x at*
 refine aB (N:=31) Tryz.func10 rfl rfl fun z hP hO hro hN hQ=>?_
 rcases m3 with ⟨rfl,rfl⟩ | ⟨k0,m3⟩
 ·have e0:Gq (d rL) 0 = .slice none 0 0:=if_pos rfl
  rw[e0] at g1
  clear e0
  repeat' first |simp(maxSteps:=2000000) (disch:=first |omega |assumption) only[go_sem, *] | (apply xs<;>intro _)<;>try omega |refine fun (_ _:List Nat)=>?_ | (first |refine aC Tryz.func41 rfl ?_ ?_ ?_ ?_ |refine aC Tryz.func42 rfl ?_ ?_ ?_ ?_ |refine aC Tryz.func43 rfl ?_ ?_ ?_ ?_ |fail)<;>intros
  exact⟨_,by omega,by omega,((S1.junk (Nat.le_refl _) (Nat.lt_succ_self _)).fin (e1 m1) (Nat.le_refl _) (Nat.lt_succ_self _) _ _).eq (by unfold jz;rw[m2'];rfl) rfl⟩
 ·have e0:Gq (d rL) k = .slice (some ⟨d rL,0,none⟩) k (aA+6):=if_neg (by omega)
  rw[e0] at g1
  have g3:=S.at m3
  have n3:=S.lt m3
  have d2:=S.df m1 m3 (by decide)
  have d3:=S.df m2 m3 (by decide)
  have A8:List.take (k*6) L=L:=List.take_of_length_le (by omega)
  clear e0
  repeat' first |simp(maxSteps:=2000000) (disch:=first |omega |assumption) only[go_sem, *] | (apply xs<;>intro _)<;>try omega |refine fun (_ _:List Nat)=>?_ | (first |refine aC Tryz.func41 rfl ?_ ?_ ?_ ?_ |refine aC Tryz.func42 rfl ?_ ?_ ?_ ?_ |refine aC Tryz.func43 rfl ?_ ?_ ?_ ?_ |fail)<;>intros
  exact⟨_,by omega,by omega,(((S1.junk (Nat.le_refl _) (Nat.lt_succ_self _)).kill rL (e3 m3) rfl).fin (e2 m1) (Nat.le_refl _) (Nat.lt_succ_self _) _ _).eq (by unfold jz;rw[gd];rw[m2'];rfl) rfl⟩
end Go.Proofs.YtfhmopghjoeamaaGreat
set_option linter.unusedVariables false
set_option linter.unusedSimpArgs false
namespace Go.Proofs.YtfhmopghjoeamaaGreat
open Go.Am
variable {O:Over}
set_option maxHeartbeats 4000000 in
theorem Kc (oM:Gr O) {h:PT aj} {n:Nat} {d:Rl→Nat} {C:Rl→Option aj} {W:List Int} {L:List Value} {k a:Nat} {th x:Int} (S:St h n d C) (M:kR d C W L k) (hk:k≤100000) (ht:0≤th∧th<64) (ha:a<W.length):
  cT Tryz.prog O 133 [pt (d rM),I6 th,I6 a,U6 x] h n fun v h' n'=>∃ g,n≤g∧g<n'∧v=I6 0∧St h' n' (upd d rL g) (jz C (d rW) g (W.set a x) (L++AH th a 2 W[a] x false) (k+1)):=by
 obtain⟨m1,m2,m3,m4⟩:=M
 obtain⟨o1,o2,o3,o4,o5⟩:=oM
 have g1:=S.at m1
 have g2:=S.at m2
 have n1:=S.lt m1
 have n2:=S.lt m2
 have d1:=S.df m1 m2 (by decide)
 have hg:=eP ha
 have a1:(0:Int)≤(a:Int):=by omega
 have a2:(a:Int)<(W.length:Int):=by omega
 obtain⟨t1,t2⟩:=ht
 have hk2:k+1≤1048576:=by omega
 have hls:(W.set a x).length=W.length:=List.length_set
 have WB:(W.map (Value.int .u64)).set a (.int .u64 x)=(W.set a x).map (.int .u64):=by rw[List.map_set]
 have S1:=S.set rW (.cells (PT.ofList .leaf 0 ((W.set a x).map (.int .u64))) false) m2 rfl
 have e1:∀ {A},C rM=some A→(upd C rW (row ((W.set a x).map (.int .u64)))) rM=some A:=fun q=>by rw[aq (by decide)];exact q
 have e2:∀ {A},C rM=some A→(upd (upd C rW (row ((W.set a x).map (.int .u64)))) rL none) rM=some A:=fun q=>by rw[aq (by decide),aq (by decide)];exact q
 have e3:∀ {A},C rL=some A→(upd C rW (row ((W.set a x).map (.int .u64)))) rL=some A:=fun q=>by rw[aq (by decide)];exact q
 generalize W[a]=y at*
 generalize W.set a x=W2 at*
 refine aB (N:=32) Tryz.func133 rfl rfl fun z hP hO hro hN hQ=>?_
 rcases m3 with ⟨rfl,rfl⟩ | ⟨k0,m3⟩
 ·have e0:Gq (d rL) 0 = .slice none 0 0:=if_pos rfl
  rw[e0] at g1
  clear e0
  repeat' first |simp(maxSteps:=2000000) (disch:=first |omega |assumption) only[go_sem, *] | (apply xs<;>intro _)<;>try omega |refine fun (_ _:List Nat)=>?_ | (first |refine aC Tryz.func41 rfl ?_ ?_ ?_ ?_ |refine aC Tryz.func42 rfl ?_ ?_ ?_ ?_ |refine aC Tryz.func145 rfl ?_ ?_ ?_ ?_ |refine aC Tryz.func148 rfl ?_ ?_ ?_ ?_ |refine aC Tryz.func43 rfl ?_ ?_ ?_ ?_ |fail)<;>intros
  exact⟨_,by omega,by omega,((S1.junk (Nat.le_refl _) (Nat.lt_succ_self _)).fin (e1 m1) (Nat.le_refl _) (Nat.lt_succ_self _) _ _).eq (by unfold jz;rw[hls];rfl) rfl⟩
 ·have e0:Gq (d rL) k = .slice (some ⟨d rL,0,none⟩) k (aA+6):=if_neg (by omega)
  rw[e0] at g1
  have g3:=S.at m3
  have n3:=S.lt m3
  have d2:=S.df m1 m3 (by decide)
  have d3:=S.df m2 m3 (by decide)
  have A8:List.take (k*6) L=L:=List.take_of_length_le (by omega)
  clear e0
  repeat' first |simp(maxSteps:=2000000) (disch:=first |omega |assumption) only[go_sem, *] | (apply xs<;>intro _)<;>try omega |refine fun (_ _:List Nat)=>?_ | (first |refine aC Tryz.func41 rfl ?_ ?_ ?_ ?_ |refine aC Tryz.func42 rfl ?_ ?_ ?_ ?_ |refine aC Tryz.func145 rfl ?_ ?_ ?_ ?_ |refine aC Tryz.func148 rfl ?_ ?_ ?_ ?_ |refine aC Tryz.func43 rfl ?_ ?_ ?_ ?_ |fail)<;>intros
  exact⟨_,by omega,by omega,(((S1.junk (Nat.le_refl _) (Nat.lt_succ_self _)).kill rL (e3 m3) rfl).fin (e2 m1) (Nat.le_refl _) (Nat.lt_succ_self _) _ _).eq (by unfold jz;rw[gd];rw[hls];rfl) rfl⟩
set_option maxHeartbeats 4000000 in
theorem WC (oM:Gr O) {h:PT aj} {n:Nat} {d:Rl→Nat} {C:Rl→Option aj} {W:List Int} {L:List Value} {k a:Nat} {th o x:Int} (S:St h n d C) (M:kR d C W L k) (hk:k≤100000) (ht:0≤th∧th<64) (ha:a<W.length) (hc:W[a]=o):
  cT Tryz.prog O 144 [pt (d rM),I6 th,I6 a,U6 o,U6 x] h n fun v h' n'=>∃ g,n≤g∧g<n'∧v=oF [.bool true,I6 0]∧St h' n' (upd d rL g) (jz C (d rW) g (W.set a x) (L++AH th a 4 o x true) (k+1)):=by
 obtain⟨m1,m2,m3,m4⟩:=M
 obtain⟨o1,o2,o3,o4,o5⟩:=oM
 have g1:=S.at m1
 have g2:=S.at m2
 have n1:=S.lt m1
 have n2:=S.lt m2
 have d1:=S.df m1 m2 (by decide)
 have hg:=eP ha
 have a1:(0:Int)≤(a:Int):=by omega
 have a2:(a:Int)<(W.length:Int):=by omega
 obtain⟨t1,t2⟩:=ht
 have hk2:k+1≤1048576:=by omega
 have hls:(W.set a x).length=W.length:=List.length_set
 have WB:(W.map (Value.int .u64)).set a (.int .u64 x)=(W.set a x).map (.int .u64):=by rw[List.map_set]
 have S1:=S.set rW (.cells (PT.ofList .leaf 0 ((W.set a x).map (.int .u64))) false) m2 rfl
 have e1:∀ {A},C rM=some A→(upd C rW (row ((W.set a x).map (.int .u64)))) rM=some A:=fun q=>by rw[aq (by decide)];exact q
 have e2:∀ {A},C rM=some A→(upd (upd C rW (row ((W.set a x).map (.int .u64)))) rL none) rM=some A:=fun q=>by rw[aq (by decide),aq (by decide)];exact q
 have e3:∀ {A},C rL=some A→(upd C rW (row ((W.set a x).map (.int .u64)))) rL=some A:=fun q=>by rw[aq (by decide)];exact q
 have Ke:((W.set a x).map (Value.int .u64))[a]? = some (.int .u64 x):=by rw[List.getElem?_map,List.getElem?_set_self ha];rfl
 have hbo:(o==o)=true:=by simp
 rw[hc] at hg
 clear hc
 generalize W.set a x=W2 at*
 refine aB (N:=52) Tryz.func144 rfl rfl fun z hP hO hro hN hQ=>?_
 rcases m3 with ⟨rfl,rfl⟩ | ⟨k0,m3⟩
 ·have e0:Gq (d rL) 0 = .slice none 0 0:=if_pos rfl
  rw[e0] at g1
  clear e0
  repeat' first |simp(maxSteps:=2000000) (disch:=first |omega |assumption) only[go_sem, *] | (apply xs<;>intro _)<;>try omega |refine fun (_ _:List Nat)=>?_ | (first |refine aC Tryz.func41 rfl ?_ ?_ ?_ ?_ |refine aC Tryz.func42 rfl ?_ ?_ ?_ ?_ |refine aC Tryz.func145 rfl ?_ ?_ ?_ ?_ |refine aC Tryz.func148 rfl ?_ ?_ ?_ ?_ |refine aC Tryz.func43 rfl ?_ ?_ ?_ ?_ |fail)<;>intros
  exact⟨_,by omega,by omega,((S1.junk (Nat.le_refl _) (Nat.lt_succ_self _)).fin (e1 m1) (Nat.le_refl _) (Nat.lt_succ_self _) _ _).eq (by unfold jz;rw[hls];rfl) rfl⟩
 ·have e0:Gq (d rL) k = .slice (some ⟨d rL,0,none⟩) k (aA+6):=if_neg (by omega)
  rw[e0] at g1
  have g3:=S.at m3
  have n3:=S.lt m3
  have d2:=S.df m1 m3 (by decide)
  have d3:=S.df m2 m3 (by decide)
  have A8:List.take (k*6) L=L:=List.take_of_length_le (by omega)
  clear e0
  repeat' first |simp(maxSteps:=2000000) (disch:=first |omega |assumption) only[go_sem, *] | (apply xs<;>intro _)<;>try omega |refine fun (_ _:List Nat)=>?_ | (first |refine aC Tryz.func41 rfl ?_ ?_ ?_ ?_ |refine aC Tryz.func42 rfl ?_ ?_ ?_ ?_ |refine aC Tryz.func145 rfl ?_ ?_ ?_ ?_ |refine aC Tryz.func148 rfl ?_ ?_ ?_ ?_ |refine aC Tryz.func43 rfl ?_ ?_ ?_ ?_ |fail)<;>intros
  exact⟨_,by omega,by omega,(((S1.junk (Nat.le_refl _) (Nat.lt_succ_self _)).kill rL (e3 m3) rfl).fin (e2 m1) (Nat.le_refl _) (Nat.lt_succ_self _) _ _).eq (by unfold jz;rw[gd];rw[hls];rfl) rfl⟩
end Go.Proofs.YtfhmopghjoeamaaGreat
set_option linter.unusedVariables false
set_option linter.unusedSimpArgs false
namespace Go.Proofs.YtfhmopghjoeamaaGreat
open Go.Am
theorem mQ (x:Value):∀ k,rep [x] k=List.replicate k x
 |0=>rfl
 |k+1=>by rw[rep,mQ x k];rfl
def oU (W:List Int) (i:Nat):List Value:=(W.take i).map (.int .u64)++List.replicate (W.length-i) (.int .u64 0)
theorem oK (W:List Int) (i:Nat) (hi:i≤W.length):(oU W i).length=W.length:=by
 unfold oU
 rw[List.length_append,List.length_map,List.length_take,List.length_replicate]
 omega
theorem sE (W:List Int):oU W 0=rep [.int .u64 0] W.length:=by
 rw[mQ];rfl
theorem vO (W:List Int):oU W W.length=W.map (.int .u64):=by
 unfold oU
 rw[List.take_length,Nat.sub_self,List.replicate_zero,List.append_nil]
theorem DC {W:List Int} {i:Nat} (hi:i<W.length):(oU W i)[i]? = some (.int .u64 0):=by
 unfold oU
 rw[List.getElem?_append_right (by rw[List.length_map,List.length_take];omega),List.length_map,List.length_take,Nat.min_eq_left (by omega),Nat.sub_self]
 rw[List.getElem?_replicate,if_pos (by omega)]
theorem vP {W:List Int} {i:Nat} (hi:i<W.length):(oU W i).set i (.int .u64 W[i])=oU W (i+1):=by
 unfold oU
 have e:((W.take i).map (Value.int .u64)).length=i:=by rw[List.length_map,List.length_take];omega
 rw[List.set_append_right _ _ (by rw[e];exact Nat.le_refl _),e,Nat.sub_self,List.take_succ_eq_append_getElem hi,List.map_append,List.append_assoc]
 have e2:W.length-i=(W.length-(i+1))+1:=by omega
 rw[e2,List.replicate_succ]
 rfl
set_option maxRecDepth 100000 in
set_option maxHeartbeats 8000000 in
theorem Gs {O:Over} (o1:O 70=fun _=>none) (o2:O 71=fun _=>none) (b cap:Nat) (W:List Int) (ro:Bool) (h:PT aj) (N:Nat) (hW:bX h N) (hb:h.get b=some (.cells (PT.ofList .leaf 0 (W.map (.int .u64))) ro)) (h1:0<W.length) (h2:W.length≤65536):
  cT Tryz.prog O 35 [.slice (some ⟨b,0,none⟩) W.length cap] h N fun v h' n'=>v=oF [pt (N+1),I6 0]∧n'=N+2∧h'.get (N+1)=row [.slice (some ⟨N,0,none⟩) W.length W.length,.slice none 0 0]∧h'.get N=row (W.map (.int .u64))∧Kept h h'∧bX h' n':=by
 have Es:=hW.lt hb
 have hm0:=sE W
 have Kf:W.length.ble 1048576=true:=Nat.ble_eq_true_of_le (by omega)
 have h3: ¬ (W.length:Int)=0:=by omega
 have h4: ¬ (65536:Int)<W.length:=by omega
 refine aB (N:=36) Tryz.func35 rfl rfl fun z hP hO hro hN hQ=>?_
 repeat' first |simp(maxSteps:=2000000) (disch:=first |omega |assumption) only[go_sem, *] | (apply xs<;>intro _)<;>try omega |refine fun (_ _:List Nat)=>?_ | (first |refine aC Tryz.func70 rfl ?_ ?_ ?_ ?_ |refine aC Tryz.func71 rfl ?_ ?_ ?_ ?_ |fail)<;>intros
 refine cU (fun t m h' n'=>∃ i:Nat,i≤W.length∧t=W.length-i∧m.n=36∧m.fO=[]∧m.get 5=pt (N+1)∧m.get 19 = .slice (some ⟨b,0,none⟩) W.length cap∧m.get 20=I6 W.length∧m.get 21=I6 i∧n'=N+2∧
  h'.get (N+1)=row [.slice (some ⟨N,0,none⟩) W.length W.length,.slice none 0 0]∧h'.get N=row (oU W i)∧Kept h h'∧bX h' n') W.length ?_ ?_
 ·refine⟨0,by omega,by omega,?_⟩
  rw[hm0]
  simp(maxSteps:=2000000) (disch:=first |omega |assumption) only[go_sem, *]
  exact⟨Kept.set' hW (by omega) (Kept.set' hW (Nat.le_refl _) (Kept.refl _)),(hW.set (Nat.le_succ _) (by omega)).set (Nat.le_succ _) (by omega)⟩
 ·clear hm0
  rintro t m h' n' ih ⟨i,hi,rfl,m1,m2,m3,m4,m5,m6,rfl,q1,q2,q3,q4⟩
  rcases Nat.lt_or_ge i W.length with hlt |hge
  ·have e7:(i:Int)<W.length:=by omega
   have hb':=q3 _ _ hb
   have hg:=eP hlt
   have hmg:=DC hlt
   have WB:=vP hlt
   have hml:=oK W i (by omega)
   have OW:((i+1:Nat):Int)=(i:Int)+1:=by omega
   generalize W[i]=x at*
   clear hb
   repeat' first |simp(maxSteps:=2000000) (disch:=first |omega |assumption) only[go_sem, *] | (apply xs<;>intro _)<;>try omega |refine fun (_ _:List Nat)=>?_ | (first |refine aC Tryz.func70 rfl ?_ ?_ ?_ ?_ |refine aC Tryz.func71 rfl ?_ ?_ ?_ ?_ |fail)<;>intros
   refine ih (W.length-(i+1)) _ _ _ (by omega) ⟨i+1,by omega,rfl,?_⟩
   rw[OW]
   clear ih
   simp(maxSteps:=2000000) (disch:=first |omega |assumption) only[go_sem, *]
   exact⟨Kept.set' hW (by omega) q3,q4.set (Nat.le_refl _) (by omega)⟩
  ·have e7: ¬ (i:Int)<W.length:=by omega
   obtain rfl:i=W.length:=by omega
   rw[vO] at q2
   clear ih
   repeat' first |simp(maxSteps:=2000000) (disch:=first |omega |assumption) only[go_sem, *] | (apply xs<;>intro _)<;>try omega |refine fun (_ _:List Nat)=>?_ | (first |refine aC Tryz.func70 rfl ?_ ?_ ?_ ?_ |refine aC Tryz.func71 rfl ?_ ?_ ?_ ?_ |fail)<;>intros
end Go.Proofs.YtfhmopghjoeamaaGreat
set_option linter.unusedVariables false
set_option linter.unusedSimpArgs false
namespace Go.Proofs.YtfhmopghjoeamaaGreat
open Go.Am
set_option maxRecDepth 100000 in
set_option maxHeartbeats 8000000 in
theorem Kg {O:Over} (o1:O 42=fun _=>none) (mb wb cap:Nat) (lg:Value) (W:List Int) (h:PT aj) (N:Nat) (hW:bX h N) (hm:h.get mb=row [.slice (some ⟨wb,0,none⟩) W.length cap,lg]) (hb:h.get wb=row (W.map (.int .u64))) (h2:W.length≤65536):
  cT Tryz.prog O 21 [pt mb] h N fun v h' n'=>v = .slice (some ⟨N,0,none⟩) W.length W.length∧n'=N+1∧h'.get N=row (W.map (.int .u64))∧Kept h h'∧bX h' (N+1):=by
 have Es:=hW.lt hb
 have hmN:=hW.lt hm
 have hm0:=sE W
 have Kf:W.length.ble 1048576=true:=Nat.ble_eq_true_of_le (by omega)
 refine aB (N:=33) Tryz.func21 rfl rfl fun z hP hO hro hN hQ=>?_
 repeat' first |simp(maxSteps:=2000000) (disch:=first |omega |assumption) only[go_sem, *] | (apply xs<;>intro _)<;>try omega |refine fun (_ _:List Nat)=>?_ | (first |refine aC Tryz.func42 rfl ?_ ?_ ?_ ?_ |fail)<;>intros
 refine cU (fun t m h' n'=>∃ i:Nat,i≤W.length∧t=W.length-i∧m.n=33∧m.fO=[]∧m.get 0=pt mb∧m.get 3 = .slice (some ⟨N,0,none⟩) W.length W.length∧m.get 17=I6 W.length∧m.get 18=I6 i∧n'=N+1∧
  h'.get N=row (oU W i)∧Kept h h'∧bX h' (N+1)) W.length ?_ ?_
 ·refine⟨0,by omega,by omega,?_⟩
  rw[hm0]
  simp(maxSteps:=2000000) (disch:=first |omega |assumption) only[go_sem, *]
  exact⟨hW.kept (Nat.le_refl _),hW.set (Nat.le_succ _) (Nat.lt_succ_self _)⟩
 ·clear hm0
  rintro t m h' n' ih ⟨i,hi,rfl,m1,m2,m3,m4,m5,m6,rfl,q2,q3,q4⟩
  rcases Nat.lt_or_ge i W.length with hlt |hge
  ·have e7:(i:Int)<W.length:=by omega
   have hb':=q3 _ _ hb
   have hm':=q3 _ _ hm
   have hg:=eP hlt
   have WB:=vP hlt
   have hml:=oK W i (by omega)
   have OW:((i+1:Nat):Int)=(i:Int)+1:=by omega
   generalize W[i]=x at*
   clear hb hm
   repeat' first |simp(maxSteps:=2000000) (disch:=first |omega |assumption) only[go_sem, *] | (apply xs<;>intro _)<;>try omega |refine fun (_ _:List Nat)=>?_ | (first |refine aC Tryz.func42 rfl ?_ ?_ ?_ ?_ |fail)<;>intros
   refine ih (W.length-(i+1)) _ _ _ (by omega) ⟨i+1,by omega,rfl,?_⟩
   rw[OW]
   clear ih
   simp(maxSteps:=2000000) (disch:=first |omega |assumption) only[go_sem, *]
   exact⟨Kept.set' hW (Nat.le_refl _) q3,q4.set (Nat.le_refl _) (Nat.lt_succ_self _)⟩
  ·have e7: ¬ (i:Int)<W.length:=by omega
   obtain rfl:i=W.length:=by omega
   rw[vO] at q2
   clear ih
   repeat' first |simp(maxSteps:=2000000) (disch:=first |omega |assumption) only[go_sem, *] | (apply xs<;>intro _)<;>try omega |refine fun (_ _:List Nat)=>?_ | (first |refine aC Tryz.func42 rfl ?_ ?_ ?_ ?_ |fail)<;>intros
end Go.Proofs.YtfhmopghjoeamaaGreat
