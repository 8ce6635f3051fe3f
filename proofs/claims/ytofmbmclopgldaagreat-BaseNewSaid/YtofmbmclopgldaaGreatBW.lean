/-
  A part of the proof: contracts of inner functions.
-/
import Derived.Test.YtofmbmclopgldaaGreatPT
import Derived.Test.YtofmbmclopgldaaGreatAmV4
set_option linter.unusedVariables false
set_option linter.unusedSimpArgs false
namespace Go.Proofs.YtofmbmclopgldaaGreat
open Go.Am
def atL (a:Addr) (B:ak):AP aD:=AP.bind (match B with
    | .cells c _=>match eX c a with |some n => .pure (.int .u64 n) |none => .fail "atomic"
    | _ => .fail "atomic") fun v => .pure (.value v)
def atS (a:Addr) (v:Int) (B:ak):AP aD:=AP.bind (match B with
    | .cells c false=>match eX c a with |some _ => .set a.block (.cells (c.set a.off (some (.int .u64 v))) false) (.pure (.tuple ⟨[]⟩)) |none => .fail "atomic"
    | _ => .fail "atomic") fun v => .pure (.value v)
def atW (a:Addr) (v:Int) (B:ak):AP aD:=AP.bind (match B with
    | .cells c false=>match eX c a with |some n => .set a.block (.cells (c.set a.off (some (.int .u64 v))) false) (.pure (.int .u64 n)) |none => .fail "atomic"
    | _ => .fail "atomic") fun v => .pure (.value v)
@[go_sem] theorem UO {b off:Nat} {sp:Option Nat}:ah Tryz.prog 140 [.pointer (some ⟨b,off,sp⟩)] = .get b (atL ⟨b,off,sp⟩):=by kernel_rfl
@[go_sem] theorem RL {b off:Nat} {sp:Option Nat} {v:Int}:ah Tryz.prog 177 [.pointer (some ⟨b,off,sp⟩),.int .u64 v] = .get b (atS ⟨b,off,sp⟩ v):=by kernel_rfl
@[go_sem] theorem UQ {b off:Nat} {sp:Option Nat} {v:Int}:ah Tryz.prog 249 [.pointer (some ⟨b,off,sp⟩),.int .u64 v] = .get b (atW ⟨b,off,sp⟩ v):=by kernel_rfl
def UR:Option Value→AP aD
 |some (.int .u64 n) => .pure (.value (.int .u64 n))
 | _ => .fail "atomic"
def Pz (b off:Nat) (v:Int) (L:List Value):Option Value→AP aD
 |some (.int .u64 _) => .set b (.cells (PT.ofList .leaf 0 (L.set off (.int .u64 v))) false) (.pure (.value (.tuple ⟨[]⟩)))
 | _ => .fail "atomic"
def PA (b off:Nat) (v:Int) (L:List Value):Option Value→AP aD
 |some (.int .u64 n) => .set b (.cells (PT.ofList .leaf 0 (L.set off (.int .u64 v))) false) (.pure (.value (.int .u64 n)))
 | _ => .fail "atomic"
@[go_sem] theorem RM {n:Int}:UR (some (.int .u64 n)) = .pure (.value (.int .u64 n)):=rfl
@[go_sem] theorem RN {b off:Nat} {v n:Int} {L:List Value}:Pz b off v L (some (.int .u64 n)) = .set b (.cells (PT.ofList .leaf 0 (L.set off (.int .u64 v))) false) (.pure (.value (.tuple ⟨[]⟩))):=rfl
@[go_sem] theorem RO {b off:Nat} {v n:Int} {L:List Value}:PA b off v L (some (.int .u64 n)) = .set b (.cells (PT.ofList .leaf 0 (L.set off (.int .u64 v))) false) (.pure (.value (.int .u64 n))):=rfl
theorem jj {L:List Value} {b off:Nat} {sp:Option Nat}:eX (PT.ofList .leaf 0 L) ⟨b,off,sp⟩=match L[off]? with |some (.int .u64 n)=>some n | _=>none:=by
 unfold eX
 rw[PT.aI]
 rfl
@[go_sem] theorem Z1 {L:List Value} {ro:Bool} {b off:Nat} {sp:Option Nat}:atL ⟨b,off,sp⟩ (.cells (PT.ofList .leaf 0 L) ro)=UR L[off]? := by
 simp only[atL,jj]
 cases L[off]? with
 |none=>rfl
 |some v=>cases v with
  |int k n=>cases k<;>rfl
  | _=>rfl
@[go_sem] theorem Z2 {L:List Value} {v:Int} {b off:Nat} {sp:Option Nat}:atS ⟨b,off,sp⟩ v (.cells (PT.ofList .leaf 0 L) false)=Pz b off v L L[off]? := by
 simp only[atS,jj]
 cases e:L[off]? with
 |none=>rfl
 |some u=>
  have hl:=(List.getElem?_eq_some_iff.1 e).1
  cases u with
  |int k n=>
   cases k with
   |u64=>simp only[AP.bind,Pz,mJ _ _ _ hl]
   | _=>rfl
  | _=>rfl
@[go_sem] theorem Z3 {L:List Value} {v:Int} {b off:Nat} {sp:Option Nat}:atW ⟨b,off,sp⟩ v (.cells (PT.ofList .leaf 0 L) false)=PA b off v L L[off]? := by
 simp only[atW,jj]
 cases e:L[off]? with
 |none=>rfl
 |some u=>
  have hl:=(List.getElem?_eq_some_iff.1 e).1
  cases u with
  |int k n=>
   cases k with
   |u64=>simp only[AP.bind,PA,mJ _ _ _ hl]
   | _=>rfl
  | _=>rfl
def atA (a:Addr) (v:Int) (B:ak):AP aD:=AP.bind (match B with
    | .cells c false=>match eX c a with |some n => .set a.block (.cells (c.set a.off (some (.int .u64 (IntKind.u64.wrap (n+v))))) false) (.pure (.int .u64 (IntKind.u64.wrap (n+v)))) |none => .fail "atomic"
    | _ => .fail "atomic") fun v => .pure (.value v)
def atC (a:Addr) (o v:Int) (B:ak):AP aD:=AP.bind (match B with
    | .cells c false=>match eX c a with |some n=>cond (n==o) (.set a.block (.cells (c.set a.off (some (.int .u64 v))) false) (.pure (.bool true))) (.pure (.bool false)) |none => .fail "atomic"
    | _ => .fail "atomic") fun v => .pure (.value v)
@[go_sem] theorem Z4 {b off:Nat} {sp:Option Nat} {o v:Int}:ah Tryz.prog 256 [.pointer (some ⟨b,off,sp⟩),.int .u64 o,.int .u64 v] = .get b (atC ⟨b,off,sp⟩ o v):=by kernel_rfl
def PB (b off:Nat) (v:Int) (L:List Value):Option Value→AP aD
 |some (.int .u64 n) => .set b (.cells (PT.ofList .leaf 0 (L.set off (.int .u64 (IntKind.u64.wrap (n+v))))) false) (.pure (.value (.int .u64 (IntKind.u64.wrap (n+v)))))
 | _ => .fail "atomic"
def PD (b off:Nat) (o v:Int) (L:List Value):Option Value→AP aD
 |some (.int .u64 n)=>cond (n==o) (.set b (.cells (PT.ofList .leaf 0 (L.set off (.int .u64 v))) false) (.pure (.value (.bool true)))) (.pure (.value (.bool false)))
 | _ => .fail "atomic"
@[go_sem] theorem RP {b off:Nat} {v n:Int} {L:List Value}:PB b off v L (some (.int .u64 n)) = .set b (.cells (PT.ofList .leaf 0 (L.set off (.int .u64 (IntKind.u64.wrap (n+v))))) false) (.pure (.value (.int .u64 (IntKind.u64.wrap (n+v))))):=rfl
@[go_sem] theorem RQ {b off:Nat} {o v n:Int} {L:List Value}:PD b off o v L (some (.int .u64 n))=cond (n==o) (.set b (.cells (PT.ofList .leaf 0 (L.set off (.int .u64 v))) false) (.pure (.value (.bool true)))) (.pure (.value (.bool false))):=rfl
@[go_sem] theorem Z5 {L:List Value} {v:Int} {b off:Nat} {sp:Option Nat}:atA ⟨b,off,sp⟩ v (.cells (PT.ofList .leaf 0 L) false)=PB b off v L L[off]? := by
 simp only[atA,jj]
 cases e:L[off]? with
 |none=>rfl
 |some u=>
  have hl:=(List.getElem?_eq_some_iff.1 e).1
  cases u with
  |int k n=>
   cases k with
   |u64=>simp only[AP.bind,PB,mJ _ _ _ hl]
   | _=>rfl
  | _=>rfl
@[go_sem] theorem Z6 {L:List Value} {o v:Int} {b off:Nat} {sp:Option Nat}:atC ⟨b,off,sp⟩ o v (.cells (PT.ofList .leaf 0 L) false)=PD b off o v L L[off]? := by
 simp only[atC,jj]
 cases e:L[off]? with
 |none=>rfl
 |some u=>
  have hl:=(List.getElem?_eq_some_iff.1 e).1
  cases u with
  |int k n=>
   cases k with
   |u64=>
    simp only[PD,mJ _ _ _ hl]
    cases (n==o)<;>rfl
   | _=>rfl
  | _=>rfl
end Go.Proofs.YtofmbmclopgldaaGreat
set_option linter.unusedVariables false
set_option linter.unusedSimpArgs false
namespace Go.Proofs.YtofmbmclopgldaaGreat
open Go.Am
abbrev rM:Rl:=(0,0)
abbrev rW:Rl:=(1,0)
abbrev rL:Rl:=(2,0)
def Et (g k:Nat):Value:=if k=0 then .slice none 0 0 else .slice (some ⟨g,0,none⟩) k (aB+6)
structure mB (d:Rl→Nat) (C:Rl→Option ak) (W:List Int) (L:List Value) (k:Nat):Prop where
 mem:C rM=row [.slice (some ⟨d rW,0,none⟩) W.length W.length,Et (d rL) k]
 words:C rW=row (W.map (.int .u64))
 log:(k=0∧L=[])∨(0<k∧C rL=row L)
 len:L.length=k*6
def D_ (th a kd old new:Int) (sw:Bool):List Value:=[.int .i64 th,.int .i64 a,.int .u8 kd,.int .u64 old,.int .u64 new,.bool sw]
def kQ (C:Rl→Option ak) (w g:Nat) (W:List Int) (L:List Value) (k:Nat):Rl→Option ak:=upd (upd (upd C rW (row (W.map (.int .u64)))) rL (row L)) rM (row [.slice (some ⟨w,0,none⟩) W.length W.length,.slice (some ⟨g,0,none⟩) k (aB+6)])
theorem aR {C:Rl→Option ak} {w g:Nat} {W:List Int} {L:List Value} {k a b:Nat} (h:2<a):kQ C w g W L k (a,b)=C (a,b):=by
 unfold kQ
 rw[aq (by omega),aq (by omega),aq (by omega)]
theorem gE {W:List Int} {i:Nat} (hi:i<W.length):(W.map (Value.int .u64))[i]? = some (.int .u64 W[i]):=by
 rw[List.getElem?_map,List.getElem?_eq_getElem hi];rfl
structure KY (O:Over):Prop where
 c:O 178=fun _=>none
 l:O 69=fun _=>none
 s:O 227=fun _=>none
 k:O 255=fun _=>none
 n:O 226=fun _=>none
variable {O:Over}
end Go.Proofs.YtofmbmclopgldaaGreat
set_option linter.unusedVariables false
set_option linter.unusedSimpArgs false
namespace Go.Proofs.YtofmbmclopgldaaGreat
open Go.Am
variable {O:Over}
end Go.Proofs.YtofmbmclopgldaaGreat
set_option linter.unusedVariables false
set_option linter.unusedSimpArgs false
namespace Go.Proofs.YtofmbmclopgldaaGreat
open Go.Am
theorem nh (x:Value):∀ k,rep [x] k=List.replicate k x
 |0=>rfl
 |k+1=>by rw[rep,nh x k];rfl
def qY (W:List Int) (i:Nat):List Value:=(W.take i).map (.int .u64)++List.replicate (W.length-i) (.int .u64 0)
theorem qO (W:List Int) (i:Nat) (hi:i≤W.length):(qY W i).length=W.length:=by
 unfold qY
 rw[List.length_append,List.length_map,List.length_take,List.length_replicate]
 omega
theorem vn (W:List Int):qY W 0=rep [.int .u64 0] W.length:=by
 rw[nh];rfl
theorem zk (W:List Int):qY W W.length=W.map (.int .u64):=by
 unfold qY
 rw[List.take_length,Nat.sub_self,List.replicate_zero,List.append_nil]
theorem HR {W:List Int} {i:Nat} (hi:i<W.length):(qY W i)[i]? = some (.int .u64 0):=by
 unfold qY
 rw[List.getElem?_append_right (by rw[List.length_map,List.length_take];omega),List.length_map,List.length_take,Nat.min_eq_left (by omega),Nat.sub_self]
 rw[List.getElem?_replicate,if_pos (by omega)]
theorem zm {W:List Int} {i:Nat} (hi:i<W.length):(qY W i).set i (.int .u64 W[i])=qY W (i+1):=by
 unfold qY
 have e:((W.take i).map (Value.int .u64)).length=i:=by rw[List.length_map,List.length_take];omega
 rw[List.set_append_right _ _ (by rw[e];exact Nat.le_refl _),e,Nat.sub_self,List.take_succ_eq_append_getElem hi,List.map_append,List.append_assoc]
 have e2:W.length-i=(W.length-(i+1))+1:=by omega
 rw[e2,List.replicate_succ]
 rfl
set_option maxRecDepth 100000 in
set_option maxHeartbeats 8000000 in
theorem KZ {O:Over} (o1:O 112=fun _=>none) (o2:O 113=fun _=>none) (b cap:Nat) (W:List Int) (ro:Bool) (h:PT ak) (N:Nat) (hW:bL h N) (hb:h.get b=some (.cells (PT.ofList .leaf 0 (W.map (.int .u64))) ro)) (h1:0<W.length) (h2:W.length≤65536):
  cW Tryz.prog O 46 [.slice (some ⟨b,0,none⟩) W.length cap] h N fun v h' n'=>v=nD [pt (N+1),I6 0]∧n'=N+2∧h'.get (N+1)=row [.slice (some ⟨N,0,none⟩) W.length W.length,.slice none 0 0]∧h'.get N=row (W.map (.int .u64))∧Kept h h'∧bL h' n':=by
 have wQ:=hW.lt hb
 have hm0:=vn W
 have KN:W.length.ble 1048576=true:=Nat.ble_eq_true_of_le (by omega)
 have h3: ¬ (W.length:Int)=0:=by omega
 have h4: ¬ (65536:Int)<W.length:=by omega
 refine ay (N:=36) Tryz.func46 rfl rfl fun z hP hO hro hN hQ=>?_
 repeat' first |simp(maxSteps:=2000000) (disch:=first |omega |assumption) only[go_sem, *] | (apply xs<;>intro _)<;>try omega |refine fun (_ _:List Nat)=>?_ | (first |refine aJ Tryz.func112 rfl ?_ ?_ ?_ ?_ |refine aJ Tryz.func113 rfl ?_ ?_ ?_ ?_ |fail)<;>intros
 refine bY (fun t m h' n'=>∃ i:Nat,i≤W.length∧t=W.length-i∧m.n=36∧m.eS=[]∧m.get 5=pt (N+1)∧m.get 19 = .slice (some ⟨b,0,none⟩) W.length cap∧m.get 20=I6 W.length∧m.get 21=I6 i∧n'=N+2∧
  h'.get (N+1)=row [.slice (some ⟨N,0,none⟩) W.length W.length,.slice none 0 0]∧h'.get N=row (qY W i)∧Kept h h'∧bL h' n') W.length ?_ ?_
 ·refine⟨0,by omega,by omega,?_⟩
  rw[hm0]
  simp(maxSteps:=2000000) (disch:=first |omega |assumption) only[go_sem, *]
  exact⟨Kept.set' hW (by omega) (Kept.set' hW (Nat.le_refl _) (Kept.refl _)),(hW.set (Nat.le_succ _) (by omega)).set (Nat.le_succ _) (by omega)⟩
 ·clear hm0
  rintro t m h' n' ih ⟨i,hi,rfl,m1,m2,m3,m4,m5,m6,rfl,q1,q2,q3,q4⟩
  rcases Nat.lt_or_ge i W.length with hlt |hge
  ·have e7:(i:Int)<W.length:=by omega
   have hb':=q3 _ _ hb
   have hg:=gE hlt
   have hmg:=HR hlt
   have ZZ:=zm hlt
   have hml:=qO W i (by omega)
   have KT:((i+1:Nat):Int)=(i:Int)+1:=by omega
   generalize W[i]=x at*
   clear hb
   repeat' first |simp(maxSteps:=2000000) (disch:=first |omega |assumption) only[go_sem, *] | (apply xs<;>intro _)<;>try omega |refine fun (_ _:List Nat)=>?_ | (first |refine aJ Tryz.func112 rfl ?_ ?_ ?_ ?_ |refine aJ Tryz.func113 rfl ?_ ?_ ?_ ?_ |fail)<;>intros
   refine ih (W.length-(i+1)) _ _ _ (by omega) ⟨i+1,by omega,rfl,?_⟩
   rw[KT]
   clear ih
   simp(maxSteps:=2000000) (disch:=first |omega |assumption) only[go_sem, *]
   exact⟨Kept.set' hW (by omega) q3,q4.set (Nat.le_refl _) (by omega)⟩
  ·have e7: ¬ (i:Int)<W.length:=by omega
   obtain rfl:i=W.length:=by omega
   rw[zk] at q2
   clear ih
   repeat' first |simp(maxSteps:=2000000) (disch:=first |omega |assumption) only[go_sem, *] | (apply xs<;>intro _)<;>try omega |refine fun (_ _:List Nat)=>?_ | (first |refine aJ Tryz.func112 rfl ?_ ?_ ?_ ?_ |refine aJ Tryz.func113 rfl ?_ ?_ ?_ ?_ |fail)<;>intros
end Go.Proofs.YtofmbmclopgldaaGreat
set_option linter.unusedVariables false
set_option linter.unusedSimpArgs false
namespace Go.Proofs.YtofmbmclopgldaaGreat
open Go.Am
set_option maxRecDepth 100000 in
set_option maxHeartbeats 8000000 in
theorem PG {O:Over} (o1:O 69=fun _=>none) (mb wb cap:Nat) (lg:Value) (W:List Int) (h:PT ak) (N:Nat) (hW:bL h N) (hm:h.get mb=row [.slice (some ⟨wb,0,none⟩) W.length cap,lg]) (hb:h.get wb=row (W.map (.int .u64))) (h2:W.length≤65536):
  cW Tryz.prog O 20 [pt mb] h N fun v h' n'=>v = .slice (some ⟨N,0,none⟩) W.length W.length∧n'=N+1∧h'.get N=row (W.map (.int .u64))∧Kept h h'∧bL h' (N+1):=by
 have wQ:=hW.lt hb
 have hmN:=hW.lt hm
 have hm0:=vn W
 have KN:W.length.ble 1048576=true:=Nat.ble_eq_true_of_le (by omega)
 refine ay (N:=33) Tryz.func20 rfl rfl fun z hP hO hro hN hQ=>?_
 repeat' first |simp(maxSteps:=2000000) (disch:=first |omega |assumption) only[go_sem, *] | (apply xs<;>intro _)<;>try omega |refine fun (_ _:List Nat)=>?_ | (first |refine aJ Tryz.func69 rfl ?_ ?_ ?_ ?_ |fail)<;>intros
 refine bY (fun t m h' n'=>∃ i:Nat,i≤W.length∧t=W.length-i∧m.n=33∧m.eS=[]∧m.get 0=pt mb∧m.get 3 = .slice (some ⟨N,0,none⟩) W.length W.length∧m.get 17=I6 W.length∧m.get 18=I6 i∧n'=N+1∧
  h'.get N=row (qY W i)∧Kept h h'∧bL h' (N+1)) W.length ?_ ?_
 ·refine⟨0,by omega,by omega,?_⟩
  rw[hm0]
  simp(maxSteps:=2000000) (disch:=first |omega |assumption) only[go_sem, *]
  exact⟨hW.kept (Nat.le_refl _),hW.set (Nat.le_succ _) (Nat.lt_succ_self _)⟩
 ·clear hm0
  rintro t m h' n' ih ⟨i,hi,rfl,m1,m2,m3,m4,m5,m6,rfl,q2,q3,q4⟩
  rcases Nat.lt_or_ge i W.length with hlt |hge
  ·have e7:(i:Int)<W.length:=by omega
   have hb':=q3 _ _ hb
   have hm':=q3 _ _ hm
   have hg:=gE hlt
   have ZZ:=zm hlt
   have hml:=qO W i (by omega)
   have KT:((i+1:Nat):Int)=(i:Int)+1:=by omega
   generalize W[i]=x at*
   clear hb hm
   repeat' first |simp(maxSteps:=2000000) (disch:=first |omega |assumption) only[go_sem, *] | (apply xs<;>intro _)<;>try omega |refine fun (_ _:List Nat)=>?_ | (first |refine aJ Tryz.func69 rfl ?_ ?_ ?_ ?_ |fail)<;>intros
   refine ih (W.length-(i+1)) _ _ _ (by omega) ⟨i+1,by omega,rfl,?_⟩
   rw[KT]
   clear ih
   simp(maxSteps:=2000000) (disch:=first |omega |assumption) only[go_sem, *]
   exact⟨Kept.set' hW (Nat.le_refl _) q3,q4.set (Nat.le_refl _) (Nat.lt_succ_self _)⟩
  ·have e7: ¬ (i:Int)<W.length:=by omega
   obtain rfl:i=W.length:=by omega
   rw[zk] at q2
   clear ih
   repeat' first |simp(maxSteps:=2000000) (disch:=first |omega |assumption) only[go_sem, *] | (apply xs<;>intro _)<;>try omega |refine fun (_ _:List Nat)=>?_ | (first |refine aJ Tryz.func69 rfl ?_ ?_ ?_ ?_ |fail)<;>intros
end Go.Proofs.YtofmbmclopgldaaGreat
