/-
  A part of the proof: contracts of inner functions.
-/
import Derived.Test.YtfhmopghjoeamaaGreatPT
import Derived.Test.YtfhmopghjoeamaaGreatAmV4
set_option linter.unusedVariables false
set_option linter.unusedSimpArgs false
namespace Go.Proofs.YtfhmopghjoeamaaGreat
open Go.Am
def QX (a:Addr) (B:ak):AP aC:=AP.bind (match B with
    | .cells c _=>match dh c a with |some n => .pure (.int .u64 n) |none => .fail "atomic"
    | _ => .fail "atomic") fun v => .pure (.value v)
def QY (a:Addr) (v:Int) (B:ak):AP aC:=AP.bind (match B with
    | .cells c false=>match dh c a with |some _ => .set a.block (.cells (c.set a.off (some (.int .u64 v))) false) (.pure (.tuple ⟨[]⟩)) |none => .fail "atomic"
    | _ => .fail "atomic") fun v => .pure (.value v)
def QZ (a:Addr) (v:Int) (B:ak):AP aC:=AP.bind (match B with
    | .cells c false=>match dh c a with |some n => .set a.block (.cells (c.set a.off (some (.int .u64 v))) false) (.pure (.int .u64 n)) |none => .fail "atomic"
    | _ => .fail "atomic") fun v => .pure (.value v)
@[go_sem] theorem Kh {b off:Nat} {sp:Option Nat}:aj Tryz.prog 77 [.pointer (some ⟨b,off,sp⟩)] = .get b (QX ⟨b,off,sp⟩):=by kernel_rfl
@[go_sem] theorem HA {b off:Nat} {sp:Option Nat} {v:Int}:aj Tryz.prog 106 [.pointer (some ⟨b,off,sp⟩),.int .u64 v] = .get b (QY ⟨b,off,sp⟩ v):=by kernel_rfl
@[go_sem] theorem Ki {b off:Nat} {sp:Option Nat} {v:Int}:aj Tryz.prog 149 [.pointer (some ⟨b,off,sp⟩),.int .u64 v] = .get b (QZ ⟨b,off,sp⟩ v):=by kernel_rfl
def Kj:Option Value→AP aC
 |some (.int .u64 n) => .pure (.value (.int .u64 n))
 | _ => .fail "atomic"
def FY (b off:Nat) (v:Int) (L:List Value):Option Value→AP aC
 |some (.int .u64 _) => .set b (.cells (PT.ofList .leaf 0 (L.set off (.int .u64 v))) false) (.pure (.value (.tuple ⟨[]⟩)))
 | _ => .fail "atomic"
def FZ (b off:Nat) (v:Int) (L:List Value):Option Value→AP aC
 |some (.int .u64 n) => .set b (.cells (PT.ofList .leaf 0 (L.set off (.int .u64 v))) false) (.pure (.value (.int .u64 n)))
 | _ => .fail "atomic"
@[go_sem] theorem HB {n:Int}:Kj (some (.int .u64 n)) = .pure (.value (.int .u64 n)):=rfl
@[go_sem] theorem HC {b off:Nat} {v n:Int} {L:List Value}:FY b off v L (some (.int .u64 n)) = .set b (.cells (PT.ofList .leaf 0 (L.set off (.int .u64 v))) false) (.pure (.value (.tuple ⟨[]⟩))):=rfl
@[go_sem] theorem HD {b off:Nat} {v n:Int} {L:List Value}:FZ b off v L (some (.int .u64 n)) = .set b (.cells (PT.ofList .leaf 0 (L.set off (.int .u64 v))) false) (.pure (.value (.int .u64 n))):=rfl
theorem gj {L:List Value} {b off:Nat} {sp:Option Nat}:dh (PT.ofList .leaf 0 L) ⟨b,off,sp⟩=match L[off]? with |some (.int .u64 n)=>some n | _=>none:=by
 unfold dh
 rw[PT.aF]
 rfl
@[go_sem] theorem Nr {L:List Value} {ro:Bool} {b off:Nat} {sp:Option Nat}:QX ⟨b,off,sp⟩ (.cells (PT.ofList .leaf 0 L) ro)=Kj L[off]? := by
 simp only[QX,gj]
 cases L[off]? with
 |none=>rfl
 |some v=>cases v with
  |int k n=>cases k<;>rfl
  | _=>rfl
@[go_sem] theorem Ns {L:List Value} {v:Int} {b off:Nat} {sp:Option Nat}:QY ⟨b,off,sp⟩ v (.cells (PT.ofList .leaf 0 L) false)=FY b off v L L[off]? := by
 simp only[QY,gj]
 cases e:L[off]? with
 |none=>rfl
 |some u=>
  have hl:=(List.getElem?_eq_some_iff.1 e).1
  cases u with
  |int k n=>
   cases k with
   |u64=>simp only[AP.bind,FY,jH _ _ _ hl]
   | _=>rfl
  | _=>rfl
@[go_sem] theorem Nt {L:List Value} {v:Int} {b off:Nat} {sp:Option Nat}:QZ ⟨b,off,sp⟩ v (.cells (PT.ofList .leaf 0 L) false)=FZ b off v L L[off]? := by
 simp only[QZ,gj]
 cases e:L[off]? with
 |none=>rfl
 |some u=>
  have hl:=(List.getElem?_eq_some_iff.1 e).1
  cases u with
  |int k n=>
   cases k with
   |u64=>simp only[AP.bind,FZ,jH _ _ _ hl]
   | _=>rfl
  | _=>rfl
def U3 (a:Addr) (v:Int) (B:ak):AP aC:=AP.bind (match B with
    | .cells c false=>match dh c a with |some n => .set a.block (.cells (c.set a.off (some (.int .u64 (IntKind.u64.wrap (n+v))))) false) (.pure (.int .u64 (IntKind.u64.wrap (n+v)))) |none => .fail "atomic"
    | _ => .fail "atomic") fun v => .pure (.value v)
def Q5 (a:Addr) (o v:Int) (B:ak):AP aC:=AP.bind (match B with
    | .cells c false=>match dh c a with |some n=>cond (n==o) (.set a.block (.cells (c.set a.off (some (.int .u64 v))) false) (.pure (.bool true))) (.pure (.bool false)) |none => .fail "atomic"
    | _ => .fail "atomic") fun v => .pure (.value v)
@[go_sem] theorem Nu {b off:Nat} {sp:Option Nat} {o v:Int}:aj Tryz.prog 150 [.pointer (some ⟨b,off,sp⟩),.int .u64 o,.int .u64 v] = .get b (Q5 ⟨b,off,sp⟩ o v):=by kernel_rfl
def F2 (b off:Nat) (v:Int) (L:List Value):Option Value→AP aC
 |some (.int .u64 n) => .set b (.cells (PT.ofList .leaf 0 (L.set off (.int .u64 (IntKind.u64.wrap (n+v))))) false) (.pure (.value (.int .u64 (IntKind.u64.wrap (n+v)))))
 | _ => .fail "atomic"
def Ga (b off:Nat) (o v:Int) (L:List Value):Option Value→AP aC
 |some (.int .u64 n)=>cond (n==o) (.set b (.cells (PT.ofList .leaf 0 (L.set off (.int .u64 v))) false) (.pure (.value (.bool true)))) (.pure (.value (.bool false)))
 | _ => .fail "atomic"
@[go_sem] theorem HE {b off:Nat} {v n:Int} {L:List Value}:F2 b off v L (some (.int .u64 n)) = .set b (.cells (PT.ofList .leaf 0 (L.set off (.int .u64 (IntKind.u64.wrap (n+v))))) false) (.pure (.value (.int .u64 (IntKind.u64.wrap (n+v))))):=rfl
@[go_sem] theorem HF {b off:Nat} {o v n:Int} {L:List Value}:Ga b off o v L (some (.int .u64 n))=cond (n==o) (.set b (.cells (PT.ofList .leaf 0 (L.set off (.int .u64 v))) false) (.pure (.value (.bool true)))) (.pure (.value (.bool false))):=rfl
@[go_sem] theorem Nv {L:List Value} {v:Int} {b off:Nat} {sp:Option Nat}:U3 ⟨b,off,sp⟩ v (.cells (PT.ofList .leaf 0 L) false)=F2 b off v L L[off]? := by
 simp only[U3,gj]
 cases e:L[off]? with
 |none=>rfl
 |some u=>
  have hl:=(List.getElem?_eq_some_iff.1 e).1
  cases u with
  |int k n=>
   cases k with
   |u64=>simp only[AP.bind,F2,jH _ _ _ hl]
   | _=>rfl
  | _=>rfl
@[go_sem] theorem Nw {L:List Value} {o v:Int} {b off:Nat} {sp:Option Nat}:Q5 ⟨b,off,sp⟩ o v (.cells (PT.ofList .leaf 0 L) false)=Ga b off o v L L[off]? := by
 simp only[Q5,gj]
 cases e:L[off]? with
 |none=>rfl
 |some u=>
  have hl:=(List.getElem?_eq_some_iff.1 e).1
  cases u with
  |int k n=>
   cases k with
   |u64=>
    simp only[Ga,jH _ _ _ hl]
    cases (n==o)<;>rfl
   | _=>rfl
  | _=>rfl
end Go.Proofs.YtfhmopghjoeamaaGreat
set_option linter.unusedVariables false
set_option linter.unusedSimpArgs false
namespace Go.Proofs.YtfhmopghjoeamaaGreat
open Go.Am
abbrev rM:Rl:=(0,0)
abbrev rW:Rl:=(1,0)
abbrev rL:Rl:=(2,0)
def Db (g k:Nat):Value:=if k=0 then .slice none 0 0 else .slice (some ⟨g,0,none⟩) k (az+6)
structure rj (d:Rl→Nat) (C:Rl→Option ak) (W:List Int) (L:List Value) (k:Nat):Prop where
 mem:C rM=row [.slice (some ⟨d rW,0,none⟩) W.length W.length,Db (d rL) k]
 words:C rW=row (W.map (.int .u64))
 log:(k=0∧L=[])∨(0<k∧C rL=row L)
 len:L.length=k*6
def Dc (th a kd old new:Int) (sw:Bool):List Value:=[.int .i64 th,.int .i64 a,.int .u8 kd,.int .u64 old,.int .u64 new,.bool sw]
def mW (C:Rl→Option ak) (w g:Nat) (W:List Int) (L:List Value) (k:Nat):Rl→Option ak:=upd (upd (upd C rW (row (W.map (.int .u64)))) rL (row L)) rM (row [.slice (some ⟨w,0,none⟩) W.length W.length,.slice (some ⟨g,0,none⟩) k (az+6)])
theorem aE {C:Rl→Option ak} {w g:Nat} {W:List Int} {L:List Value} {k a b:Nat} (h:2<a):mW C w g W L k (a,b)=C (a,b):=by
 unfold mW
 rw[aq (by omega),aq (by omega),aq (by omega)]
theorem rj.next {d:Rl→Nat} {C:Rl→Option ak} {W W':List Int} {L L':List Value} {k g:Nat} (hw:W'.length=W.length) (hl:L'.length=(k+1)*6):rj (upd d rL g) (mW C (d rW) g W' L' (k+1)) W' L' (k+1):=by
 refine⟨?_,?_,.inr ⟨by omega,?_⟩,hl⟩
 ·unfold mW Db
  rw[aA,if_neg (by omega),aA,aq (by decide)]
 ·unfold mW
  rw[aq (by decide),aq (by decide),aA]
 ·unfold mW
  rw[aq (by decide),aA]
theorem gl {W:List Int} {i:Nat} (hi:i<W.length):(W.map (Value.int .u64))[i]? = some (.int .u64 W[i]):=by
 rw[List.getElem?_map,List.getElem?_eq_getElem hi];rfl
theorem _root_.Go.Am.St.fin {H:PT ak} {n g m:Nat} {d:Rl→Nat} {C:Rl→Option ak} {A:ak} (S:St H n d C) (e:C rM=some A) (hg:n≤g) (hm:g<m) (B X:ak):St ((H.set g (some B)).set (d rM) (some X)) m (upd d rL g) (upd (upd C rL (some B)) rM (some X)):=
 (S.new rL B hg hm).set rM X (by rw[aq (by decide)];exact e) (aq (by decide))
structure Kk (O:Over):Prop where
 c:O 41=fun _=>none
 l:O 42=fun _=>none
 s:O 145=fun _=>none
 k:O 148=fun _=>none
 n:O 43=fun _=>none
variable {O:Over}
set_option maxHeartbeats 4000000 in
theorem Kl (oM:Kk O) {h:PT ak} {n:Nat} {d:Rl→Nat} {C:Rl→Option ak} {W:List Int} {L:List Value} {k a:Nat} {th:Int} (S:St h n d C) (M:rj d C W L k) (hk:k≤100000) (ht:0≤th∧th<64) (ha:a<W.length):
  gN Tryz.prog O 10 [pt (d rM),I6 th,I6 a] h n fun v h' n'=>∃ g,n≤g∧g<n'∧v=pZ [U6 W[a],I6 0]∧St h' n' (upd d rL g) (mW C (d rW) g (W) (L++Dc th a 1 W[a] W[a] false) (k+1)):=by
 obtain⟨m1,m2,m3,m4⟩:=M
 obtain⟨o1,o2,o3,o4,o5⟩:=oM
 have g1:=S.at m1
 have g2:=S.at m2
 have n1:=S.lt m1
 have n2:=S.lt m2
 have d1:=S.df m1 m2 (by decide)
 have hg:=gl ha
 have a1:(0:Int)≤(a:Int):=by omega
 have a2:(a:Int)<(W.length:Int):=by omega
 obtain⟨t1,t2⟩:=ht
 have hk2:k+1≤1048576:=by omega
 have S1:=S
 have e1:∀ {A},C rM=some A→C rM=some A:=fun q=>q
 have e2:∀ {A},C rM=some A→(upd C rL none) rM=some A:=fun q=>by rw[aq (by decide)];exact q
 have e3:∀ {A},C rL=some A→C rL=some A:=fun q=>q
 have U4:=FG m2
 generalize W[a]=x at*
 refine aD (N:=31) Tryz.func10 rfl rfl fun z hP hO hro hN hQ=>?_
 rcases m3 with ⟨rfl,rfl⟩ | ⟨k0,m3⟩
 ·have e0:Db (d rL) 0 = .slice none 0 0:=if_pos rfl
  rw[e0] at g1
  clear e0
  repeat' first |simp(maxSteps:=2000000) (disch:=first |omega |assumption) only[go_sem, *] | (apply xs<;>intro _)<;>try omega |refine fun (_ _:List Nat)=>?_ | (first |refine bX Tryz.func41 rfl ?_ ?_ ?_ ?_ |refine bX Tryz.func42 rfl ?_ ?_ ?_ ?_ |refine bX Tryz.func43 rfl ?_ ?_ ?_ ?_ |fail)<;>intros
  exact⟨_,by omega,by omega,((S1.junk (Nat.le_refl _) (Nat.lt_succ_self _)).fin (e1 m1) (Nat.le_refl _) (Nat.lt_succ_self _) _ _).eq (by unfold mW;rw[U4];rfl) rfl⟩
 ·have e0:Db (d rL) k = .slice (some ⟨d rL,0,none⟩) k (az+6):=if_neg (by omega)
  rw[e0] at g1
  have g3:=S.at m3
  have n3:=S.lt m3
  have d2:=S.df m1 m3 (by decide)
  have d3:=S.df m2 m3 (by decide)
  have Q6:List.take (k*6) L=L:=List.take_of_length_le (by omega)
  clear e0
  repeat' first |simp(maxSteps:=2000000) (disch:=first |omega |assumption) only[go_sem, *] | (apply xs<;>intro _)<;>try omega |refine fun (_ _:List Nat)=>?_ | (first |refine bX Tryz.func41 rfl ?_ ?_ ?_ ?_ |refine bX Tryz.func42 rfl ?_ ?_ ?_ ?_ |refine bX Tryz.func43 rfl ?_ ?_ ?_ ?_ |fail)<;>intros
  exact⟨_,by omega,by omega,(((S1.junk (Nat.le_refl _) (Nat.lt_succ_self _)).kill rL (e3 m3) rfl).fin (e2 m1) (Nat.le_refl _) (Nat.lt_succ_self _) _ _).eq (by unfold mW;rw[qU];rw[U4];rfl) rfl⟩
end Go.Proofs.YtfhmopghjoeamaaGreat
set_option linter.unusedVariables false
set_option linter.unusedSimpArgs false
namespace Go.Proofs.YtfhmopghjoeamaaGreat
open Go.Am
variable {O:Over}
end Go.Proofs.YtfhmopghjoeamaaGreat
set_option linter.unusedVariables false
set_option linter.unusedSimpArgs false
namespace Go.Proofs.YtfhmopghjoeamaaGreat
open Go.Am
theorem lp (x:Value):∀ k,rep [x] k=List.replicate k x
 |0=>rfl
 |k+1=>by rw[rep,lp x k];rfl
def mX (W:List Int) (i:Nat):List Value:=(W.take i).map (.int .u64)++List.replicate (W.length-i) (.int .u64 0)
theorem mO (W:List Int) (i:Nat) (hi:i≤W.length):(mX W i).length=W.length:=by
 unfold mX
 rw[List.length_append,List.length_map,List.length_take,List.length_replicate]
 omega
theorem qh (W:List Int):mX W 0=rep [.int .u64 0] W.length:=by
 rw[lp];rfl
theorem tM (W:List Int):mX W W.length=W.map (.int .u64):=by
 unfold mX
 rw[List.take_length,Nat.sub_self,List.replicate_zero,List.append_nil]
theorem AQ {W:List Int} {i:Nat} (hi:i<W.length):(mX W i)[i]? = some (.int .u64 0):=by
 unfold mX
 rw[List.getElem?_append_right (by rw[List.length_map,List.length_take];omega),List.length_map,List.length_take,Nat.min_eq_left (by omega),Nat.sub_self]
 rw[List.getElem?_replicate,if_pos (by omega)]
theorem tN {W:List Int} {i:Nat} (hi:i<W.length):(mX W i).set i (.int .u64 W[i])=mX W (i+1):=by
 unfold mX
 have e:((W.take i).map (Value.int .u64)).length=i:=by rw[List.length_map,List.length_take];omega
 rw[List.set_append_right _ _ (by rw[e];exact Nat.le_refl _),e,Nat.sub_self,List.take_succ_eq_append_getElem hi,List.map_append,List.append_assoc]
 have e2:W.length-i=(W.length-(i+1))+1:=by omega
 rw[e2,List.replicate_succ]
 rfl
set_option maxRecDepth 100000 in
set_option maxHeartbeats 8000000 in
theorem Dd {O:Over} (o1:O 70=fun _=>none) (o2:O 71=fun _=>none) (b cap:Nat) (W:List Int) (ro:Bool) (h:PT ak) (N:Nat) (hW:cW h N) (hb:h.get b=some (.cells (PT.ofList .leaf 0 (W.map (.int .u64))) ro)) (h1:0<W.length) (h2:W.length≤65536):
  gN Tryz.prog O 35 [.slice (some ⟨b,0,none⟩) W.length cap] h N fun v h' n'=>v=pZ [pt (N+1),I6 0]∧n'=N+2∧h'.get (N+1)=row [.slice (some ⟨N,0,none⟩) W.length W.length,.slice none 0 0]∧h'.get N=row (W.map (.int .u64))∧Kept h h'∧cW h' n':=by
 have Bt:=hW.lt hb
 have hm0:=qh W
 have Km:W.length.ble 1048576=true:=Nat.ble_eq_true_of_le (by omega)
 have h3: ¬ (W.length:Int)=0:=by omega
 have h4: ¬ (65536:Int)<W.length:=by omega
 refine aD (N:=36) Tryz.func35 rfl rfl fun z hP hO hro hN hQ=>?_
 repeat' first |simp(maxSteps:=2000000) (disch:=first |omega |assumption) only[go_sem, *] | (apply xs<;>intro _)<;>try omega |refine fun (_ _:List Nat)=>?_ | (first |refine bX Tryz.func70 rfl ?_ ?_ ?_ ?_ |refine bX Tryz.func71 rfl ?_ ?_ ?_ ?_ |fail)<;>intros
 refine cU (fun t m h' n'=>∃ i:Nat,i≤W.length∧t=W.length-i∧m.n=36∧m.gn=[]∧m.get 5=pt (N+1)∧m.get 19 = .slice (some ⟨b,0,none⟩) W.length cap∧m.get 20=I6 W.length∧m.get 21=I6 i∧n'=N+2∧
  h'.get (N+1)=row [.slice (some ⟨N,0,none⟩) W.length W.length,.slice none 0 0]∧h'.get N=row (mX W i)∧Kept h h'∧cW h' n') W.length ?_ ?_
 ·refine⟨0,by omega,by omega,?_⟩
  rw[hm0]
  simp(maxSteps:=2000000) (disch:=first |omega |assumption) only[go_sem, *]
  exact⟨Kept.set' hW (by omega) (Kept.set' hW (Nat.le_refl _) (Kept.refl _)),(hW.set (Nat.le_succ _) (by omega)).set (Nat.le_succ _) (by omega)⟩
 ·clear hm0
  rintro t m h' n' ih ⟨i,hi,rfl,m1,m2,m3,m4,m5,m6,rfl,q1,q2,q3,q4⟩
  rcases Nat.lt_or_ge i W.length with hlt |hge
  ·have e7:(i:Int)<W.length:=by omega
   have hb':=q3 _ _ hb
   have hg:=gl hlt
   have Z2:=AQ hlt
   have YS:=tN hlt
   have hml:=mO W i (by omega)
   have Q7:((i+1:Nat):Int)=(i:Int)+1:=by omega
   generalize W[i]=x at*
   clear hb
   repeat' first |simp(maxSteps:=2000000) (disch:=first |omega |assumption) only[go_sem, *] | (apply xs<;>intro _)<;>try omega |refine fun (_ _:List Nat)=>?_ | (first |refine bX Tryz.func70 rfl ?_ ?_ ?_ ?_ |refine bX Tryz.func71 rfl ?_ ?_ ?_ ?_ |fail)<;>intros
   refine ih (W.length-(i+1)) _ _ _ (by omega) ⟨i+1,by omega,rfl,?_⟩
   rw[Q7]
   clear ih
   simp(maxSteps:=2000000) (disch:=first |omega |assumption) only[go_sem, *]
   exact⟨Kept.set' hW (by omega) q3,q4.set (Nat.le_refl _) (by omega)⟩
  ·have e7: ¬ (i:Int)<W.length:=by omega
   obtain rfl:i=W.length:=by omega
   rw[tM] at q2
   clear ih
   repeat' first |simp(maxSteps:=2000000) (disch:=first |omega |assumption) only[go_sem, *] | (apply xs<;>intro _)<;>try omega |refine fun (_ _:List Nat)=>?_ | (first |refine bX Tryz.func70 rfl ?_ ?_ ?_ ?_ |refine bX Tryz.func71 rfl ?_ ?_ ?_ ?_ |fail)<;>intros
end Go.Proofs.YtfhmopghjoeamaaGreat
set_option linter.unusedVariables false
set_option linter.unusedSimpArgs false
namespace Go.Proofs.YtfhmopghjoeamaaGreat
open Go.Am
set_option maxRecDepth 100000 in
set_option maxHeartbeats 8000000 in
theorem Gb {O:Over} (o1:O 42=fun _=>none) (mb wb cap:Nat) (lg:Value) (W:List Int) (h:PT ak) (N:Nat) (hW:cW h N) (hm:h.get mb=row [.slice (some ⟨wb,0,none⟩) W.length cap,lg]) (hb:h.get wb=row (W.map (.int .u64))) (h2:W.length≤65536):
  gN Tryz.prog O 21 [pt mb] h N fun v h' n'=>v = .slice (some ⟨N,0,none⟩) W.length W.length∧n'=N+1∧h'.get N=row (W.map (.int .u64))∧Kept h h'∧cW h' (N+1):=by
 have Bt:=hW.lt hb
 have Z3:=hW.lt hm
 have hm0:=qh W
 have Km:W.length.ble 1048576=true:=Nat.ble_eq_true_of_le (by omega)
 refine aD (N:=33) Tryz.func21 rfl rfl fun z hP hO hro hN hQ=>?_
 repeat' first |simp(maxSteps:=2000000) (disch:=first |omega |assumption) only[go_sem, *] | (apply xs<;>intro _)<;>try omega |refine fun (_ _:List Nat)=>?_ | (first |refine bX Tryz.func42 rfl ?_ ?_ ?_ ?_ |fail)<;>intros
 refine cU (fun t m h' n'=>∃ i:Nat,i≤W.length∧t=W.length-i∧m.n=33∧m.gn=[]∧m.get 0=pt mb∧m.get 3 = .slice (some ⟨N,0,none⟩) W.length W.length∧m.get 17=I6 W.length∧m.get 18=I6 i∧n'=N+1∧
  h'.get N=row (mX W i)∧Kept h h'∧cW h' (N+1)) W.length ?_ ?_
 ·refine⟨0,by omega,by omega,?_⟩
  rw[hm0]
  simp(maxSteps:=2000000) (disch:=first |omega |assumption) only[go_sem, *]
  exact⟨hW.kept (Nat.le_refl _),hW.set (Nat.le_succ _) (Nat.lt_succ_self _)⟩
 ·clear hm0
  rintro t m h' n' ih ⟨i,hi,rfl,m1,m2,m3,m4,m5,m6,rfl,q2,q3,q4⟩
  rcases Nat.lt_or_ge i W.length with hlt |hge
  ·have e7:(i:Int)<W.length:=by omega
   have hb':=q3 _ _ hb
   have hm':=q3 _ _ hm
   have hg:=gl hlt
   have YS:=tN hlt
   have hml:=mO W i (by omega)
   have Q7:((i+1:Nat):Int)=(i:Int)+1:=by omega
   generalize W[i]=x at*
   clear hb hm
   repeat' first |simp(maxSteps:=2000000) (disch:=first |omega |assumption) only[go_sem, *] | (apply xs<;>intro _)<;>try omega |refine fun (_ _:List Nat)=>?_ | (first |refine bX Tryz.func42 rfl ?_ ?_ ?_ ?_ |fail)<;>intros
   refine ih (W.length-(i+1)) _ _ _ (by omega) ⟨i+1,by omega,rfl,?_⟩
   rw[Q7]
   clear ih
   simp(maxSteps:=2000000) (disch:=first |omega |assumption) only[go_sem, *]
   exact⟨Kept.set' hW (Nat.le_refl _) q3,q4.set (Nat.le_refl _) (Nat.lt_succ_self _)⟩
  ·have e7: ¬ (i:Int)<W.length:=by omega
   obtain rfl:i=W.length:=by omega
   rw[tM] at q2
   clear ih
   repeat' first |simp(maxSteps:=2000000) (disch:=first |omega |assumption) only[go_sem, *] | (apply xs<;>intro _)<;>try omega |refine fun (_ _:List Nat)=>?_ | (first |refine bX Tryz.func42 rfl ?_ ?_ ?_ ?_ |fail)<;>intros
end Go.Proofs.YtfhmopghjoeamaaGreat
