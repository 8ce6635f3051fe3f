/-
A part.
-/
import Derived.Test.YtofmbmclopgldaaGreatT9V
import Derived.Test.YtofmbmclopgldaaGreatAmZ4
import Derived.Test.YtofmbmclopgldaaGreatSB3
set_option linter.all false
set_option maxRecDepth 100000
set_option maxHeartbeats 16000000
namespace Go.Proofs.YtofmbmclopgldaaGreat
open Go.Am Go.Proofs.Tryz
def atL(a:Addr)(B:aj):AP aG:=AP.bind (match B with
    | .cells c _=>match gZ c a with |some n => .pure (.int .u64 n) |none => .fail "atomic"
    | _ => .fail "atomic") fun v => .pure (.value v)
def atS(a:Addr)(v:Int)(B:aj):AP aG:=AP.bind (match B with
    | .cells c false=>match gZ c a with |some _ => .set a.block (.cells (c.set a.off (some (.int .u64 v))) false) (.pure (.tuple ⟨[]⟩)) |none => .fail "atomic"
    | _ => .fail "atomic") fun v => .pure (.value v)
def atW(a:Addr)(v:Int)(B:aj):AP aG:=AP.bind (match B with
    | .cells c false=>match gZ c a with |some n => .set a.block (.cells (c.set a.off (some (.int .u64 v))) false) (.pure (.int .u64 n)) |none => .fail "atomic"
    | _ => .fail "atomic") fun v => .pure (.value v)
@[go_sem] theorem afp{b off:Nat}{sp:Option Nat}:ah prog 140 [.pointer (some ⟨b,off,sp⟩)] = .get b (atL ⟨b,off,sp⟩):=by kernel_rfl
@[go_sem] theorem ab4{b off:Nat}{sp:Option Nat}{v:Int}:ah prog 177 [.pointer (some ⟨b,off,sp⟩),.int .u64 v] = .get b (atS ⟨b,off,sp⟩ v):=by kernel_rfl
@[go_sem] theorem afq{b off:Nat}{sp:Option Nat}{v:Int}:ah prog 249 [.pointer (some ⟨b,off,sp⟩),.int .u64 v] = .get b (atW ⟨b,off,sp⟩ v):=by kernel_rfl
def afr:Option Value→AP aG
 |some (.int .u64 n) => .pure (.value (.int .u64 n))
 | _ => .fail "atomic"
def ZI(b off:Nat)(v:Int)(L:List Value):Option Value→AP aG
 |some (.int .u64 _) => .set b (.cells (PT.ofList .leaf 0 (L.set off (.int .u64 v))) false) (.pure (.value (.tuple ⟨[]⟩)))
 | _ => .fail "atomic"
def ZJ(b off:Nat)(v:Int)(L:List Value):Option Value→AP aG
 |some (.int .u64 n) => .set b (.cells (PT.ofList .leaf 0 (L.set off (.int .u64 v))) false) (.pure (.value (.int .u64 n)))
 | _ => .fail "atomic"
@[go_sem] theorem ab5{n:Int}:afr (some (.int .u64 n)) = .pure (.value (.int .u64 n)):=rfl
@[go_sem] theorem ab6{b off:Nat}{v n:Int}{L:List Value}:ZI b off v L (some (.int .u64 n)) = .set b (.cells (PT.ofList .leaf 0 (L.set off (.int .u64 v))) false) (.pure (.value (.tuple ⟨[]⟩))):=rfl
@[go_sem] theorem ab7{b off:Nat}{v n:Int}{L:List Value}:ZJ b off v L (some (.int .u64 n)) = .set b (.cells (PT.ofList .leaf 0 (L.set off (.int .u64 v))) false) (.pure (.value (.int .u64 n))):=rfl
theorem kU{L:List Value}{b off:Nat}{sp:Option Nat}:gZ (PT.ofList .leaf 0 L) ⟨b,off,sp⟩=match L[off]? with |some (.int .u64 n)=>some n | _=>none:=by
 unfold gZ;rw[PT.aQ];rfl
@[go_sem] theorem an6{L:List Value}{ro:Bool}{b off:Nat}{sp:Option Nat}:atL ⟨b,off,sp⟩ (.cells (PT.ofList .leaf 0 L) ro)=afr L[off]? := by
 simp only[atL,kU];cases L[off]? with
 |none=>rfl
 |some v=>cases v with
  |int k n=>cases k<;>rfl
  | _=>rfl
@[go_sem] theorem an7{L:List Value}{v:Int}{b off:Nat}{sp:Option Nat}:atS ⟨b,off,sp⟩ v (.cells (PT.ofList .leaf 0 L) false)=ZI b off v L L[off]? := by
 simp only[atS,kU];cases e:L[off]? with
 |none=>rfl
 |some u=>
  have hl:=(List.getElem?_eq_some_iff.1 e).1;cases u with
  |int k n=>
   cases k with
   |u64=>simp only[AP.bind,ZI,pY _ _ _ hl]
   | _=>rfl
  | _=>rfl
@[go_sem] theorem an8{L:List Value}{v:Int}{b off:Nat}{sp:Option Nat}:atW ⟨b,off,sp⟩ v (.cells (PT.ofList .leaf 0 L) false)=ZJ b off v L L[off]? := by
 simp only[atW,kU];cases e:L[off]? with
 |none=>rfl
 |some u=>
  have hl:=(List.getElem?_eq_some_iff.1 e).1;cases u with
  |int k n=>
   cases k with
   |u64=>simp only[AP.bind,ZJ,pY _ _ _ hl]
   | _=>rfl
  | _=>rfl
def ZK(a:Addr)(v:Int)(B:aj):AP aG:=AP.bind (match B with
    | .cells c false=>match gZ c a with |some n => .set a.block (.cells (c.set a.off (some (.int .u64 (IntKind.u64.wrap (n+v))))) false) (.pure (.int .u64 (IntKind.u64.wrap (n+v)))) |none => .fail "atomic"
    | _ => .fail "atomic") fun v => .pure (.value v)
def atC(a:Addr)(o v:Int)(B:aj):AP aG:=AP.bind (match B with
    | .cells c false=>match gZ c a with |some n=>cond (n==o) (.set a.block (.cells (c.set a.off (some (.int .u64 v))) false) (.pure (.bool true))) (.pure (.bool false)) |none => .fail "atomic"
    | _ => .fail "atomic") fun v => .pure (.value v)
@[go_sem] theorem an9{b off:Nat}{sp:Option Nat}{o v:Int}:ah prog 256 [.pointer (some ⟨b,off,sp⟩),.int .u64 o,.int .u64 v] = .get b (atC ⟨b,off,sp⟩ o v):=by kernel_rfl
def ZL(b off:Nat)(v:Int)(L:List Value):Option Value→AP aG
 |some (.int .u64 n) => .set b (.cells (PT.ofList .leaf 0 (L.set off (.int .u64 (IntKind.u64.wrap (n+v))))) false) (.pure (.value (.int .u64 (IntKind.u64.wrap (n+v)))))
 | _ => .fail "atomic"
def ZM(b off:Nat)(o v:Int)(L:List Value):Option Value→AP aG
 |some (.int .u64 n)=>cond (n==o) (.set b (.cells (PT.ofList .leaf 0 (L.set off (.int .u64 v))) false) (.pure (.value (.bool true)))) (.pure (.value (.bool false)))
 | _ => .fail "atomic"
@[go_sem] theorem ab8{b off:Nat}{v n:Int}{L:List Value}:ZL b off v L (some (.int .u64 n)) = .set b (.cells (PT.ofList .leaf 0 (L.set off (.int .u64 (IntKind.u64.wrap (n+v))))) false) (.pure (.value (.int .u64 (IntKind.u64.wrap (n+v))))):=rfl
@[go_sem] theorem ab9{b off:Nat}{o v n:Int}{L:List Value}:ZM b off o v L (some (.int .u64 n))=cond (n==o) (.set b (.cells (PT.ofList .leaf 0 (L.set off (.int .u64 v))) false) (.pure (.value (.bool true)))) (.pure (.value (.bool false))):=rfl
@[go_sem] theorem an_{L:List Value}{v:Int}{b off:Nat}{sp:Option Nat}:ZK ⟨b,off,sp⟩ v (.cells (PT.ofList .leaf 0 L) false)=ZL b off v L L[off]? := by
 simp only[ZK,kU];cases e:L[off]? with
 |none=>rfl
 |some u=>
  have hl:=(List.getElem?_eq_some_iff.1 e).1;cases u with
  |int k n=>
   cases k with
   |u64=>simp only[AP.bind,ZL,pY _ _ _ hl]
   | _=>rfl
  | _=>rfl
@[go_sem] theorem an'{L:List Value}{o v:Int}{b off:Nat}{sp:Option Nat}:atC ⟨b,off,sp⟩ o v (.cells (PT.ofList .leaf 0 L) false)=ZM b off o v L L[off]? := by
 simp only[atC,kU];cases e:L[off]? with
 |none=>rfl
 |some u=>
  have hl:=(List.getElem?_eq_some_iff.1 e).1;cases u with
  |int k n=>
   cases k with
   |u64=>
    simp only[ZM,pY _ _ _ hl];cases (n==o)<;>rfl
   | _=>rfl
  | _=>rfl
abbrev rM:Rl:=(0,0)
abbrev rW:Rl:=(1,0)
abbrev rL:Rl:=(2,0)
def wB(g k:Nat):Value:=if k=0 then .slice none 0 0 else .slice (some ⟨g,0,none⟩) k (aA+6)
structure jm(d:Rl→Nat)(C:Rl→Option aj)(W:List Int)(L:List Value)(k:Nat):Prop where
 mem:C rM=row [.slice (some ⟨d rW,0,none⟩) W.length W.length,wB (d rL) k]
 words:C rW=row (W.map (.int .u64))
 log:(k=0∧L=[])∨(0<k∧C rL=row L)
 len:L.length=k*6
def gU(th a kd old new:Int)(sw:Bool):List Value:=[.int .i64 th,.int .i64 a,.int .u8 kd,.int .u64 old,.int .u64 new,.bool sw]
def mO(C:Rl→Option aj)(w g:Nat)(W:List Int)(L:List Value)(k:Nat):Rl→Option aj:=upd (upd (upd C rW (row (W.map (.int .u64)))) rL (row L)) rM (row [.slice (some ⟨w,0,none⟩) W.length W.length,.slice (some ⟨g,0,none⟩) k (aA+6)])
theorem aL{C:Rl→Option aj}{w g:Nat}{W:List Int}{L:List Value}{k a b:Nat}(h:2<a):mO C w g W L k (a,b)=C (a,b):=by
 unfold mO;rw[au qJ,au qJ,au qJ]
theorem jm.next{d:Rl→Nat}{C:Rl→Option aj}{W W':List Int}{L L':List Value}{k g:Nat}(hw:W'.length=W.length)(hl:L'.length=(k+1)*6):jm (upd d rL g) (mO C (d rW) g W' L' (k+1)) W' L' (k+1):=by
 refine⟨?_,?_,.inr ⟨by omega,?_⟩,hl⟩
 ·unfold mO wB;rw[aq,if_neg qJ,aq,au qi]
 ·unfold mO;rw[au qi,au qi,aq]
 ·unfold mO;rw[au qi,aq]
theorem dP{W:List Int}{i:Nat}(hi:i<W.length):(W.map (Value.int .u64))[i]? = some (.int .u64 W[i]):=by
 rw[List.getElem?_map,List.getElem?_eq_getElem hi];rfl
theorem _root_.Go.Am.St.fin{H:PT aj}{n g m:Nat}{d:Rl→Nat}{C:Rl→Option aj}{A:aj}(S:St H n d C)(e:C rM=some A)(hg:n≤g)(hm:g<m)(B X:aj):St ((H.set g (some B)).set (d rM) (some X)) m (upd d rL g) (upd (upd C rL (some B)) rM (some X)):=
 (S.new rL B hg hm).set rM X (by rw[au qi];exact e) (au qi)
structure UH(O:Over):Prop where
 c:O 178=fun _=>none
 l:O 69=fun _=>none
 s:O 227=fun _=>none
 k:O 255=fun _=>none
 n:O 226=fun _=>none
variable {O:Over}
theorem afs(oM:UH O){h:PT aj}{n:Nat}{d:Rl→Nat}{C:Rl→Option aj}{W:List Int}{L:List Value}{k a:Nat}{th:Int}(S:St h n d C)(M:jm d C W L k)(hk:k≤100000)(ht:0≤th∧th<64)(ha:a<W.length):
  cE prog O 163 [pt (d rM),I6 th,I6 a] h n fun v h' n'=>∃ g,n≤g∧g<n'∧v=iU [U6 W[a],I6 0]∧St h' n' (upd d rL g) (mO C (d rW) g (W) (L++gU th a 1 W[a] W[a] false) (k+1)):=by
 obtain⟨m1,m2,m3,m4⟩:=M;obtain⟨o1,o2,o3,o4,o5⟩:=oM;have g1:=S.at m1;have g2:=S.at m2;have n1:=S.lt m1;have n2:=S.lt m2;have d1:=S.df m1 m2 qi;have hg:=dP ha;have a1:(0:Int)≤(a:Int):=by omega
 have a2:(a:Int)<(W.length:Int):=by omega
 obtain⟨t1,t2⟩:=ht;have hk2:k+1≤1048576:=by omega
 have S1:=S;have e1:∀ {A},C rM=some A→C rM=some A:=fun q=>q;have e2:∀ {A},C rM=some A→(upd C rL none) rM=some A:=fun q=>by rw[au qi];exact q
 have e3:∀ {A},C rL=some A→C rL=some A:=fun q=>q;have m2':=Y3 m2;generalize W[a]=x at*;refine ay (N:=31) func163 rfl rfl fun z hP hO hro hN hQ=>?_
 rcases m3 with ⟨rfl,rfl⟩ | ⟨k0,m3⟩
 ·have e0:wB (d rL) 0 = .slice none 0 0:=if_pos rfl;rw[e0] at g1;clear e0
  repeat' first|simp(disch:=first|omega|assumption) only[go_sem, *] | (apply xs<;>intro _)<;>try omega|refine fun (_ _:List Nat)=>?_ | (first|refine bD func178 rfl ?_ ?_ ?_ ?_ |refine bD func69 rfl ?_ ?_ ?_ ?_ |refine bD func226 rfl ?_ ?_ ?_ ?_ |fail)<;>intros
  exact⟨_,by omega,by omega,((S1.junk (Nat.le_refl _) (Nat.lt_succ_self _)).fin (e1 m1) (Nat.le_refl _) (Nat.lt_succ_self _) _ _).eq (by unfold mO;rw[m2'];rfl) rfl⟩
 ·have e0:wB (d rL) k = .slice (some ⟨d rL,0,none⟩) k (aA+6):=if_neg qJ;rw[e0] at g1;have g3:=S.at m3;have n3:=S.lt m3;have d2:=S.df m1 m3 qi;have d3:=S.df m2 m3 qi;have zJ:List.take (k*6) L=L:=List.take_of_length_le qJ;clear e0
  repeat' first|simp(disch:=first|omega|assumption) only[go_sem, *] | (apply xs<;>intro _)<;>try omega|refine fun (_ _:List Nat)=>?_ | (first|refine bD func178 rfl ?_ ?_ ?_ ?_ |refine bD func69 rfl ?_ ?_ ?_ ?_ |refine bD func226 rfl ?_ ?_ ?_ ?_ |fail)<;>intros
  exact⟨_,by omega,by omega,(((S1.junk (Nat.le_refl _) (Nat.lt_succ_self _)).kill rL (e3 m3) rfl).fin (e2 m1) (Nat.le_refl _) (Nat.lt_succ_self _) _ _).eq (by unfold mO;rw[gn];rw[m2'];rfl) rfl⟩
end Go.Proofs.YtofmbmclopgldaaGreat
namespace Go.Proofs.YtofmbmclopgldaaGreat
open Go.Am Go.Proofs.Tryz
variable {O:Over}
theorem ZN(oM:UH O){h:PT aj}{n:Nat}{d:Rl→Nat}{C:Rl→Option aj}{W:List Int}{L:List Value}{k a:Nat}{th x:Int}(S:St h n d C)(M:jm d C W L k)(hk:k≤100000)(ht:0≤th∧th<64)(ha:a<W.length):
  cE prog O 167 [pt (d rM),I6 th,I6 a,U6 x] h n fun v h' n'=>∃ g,n≤g∧g<n'∧v=I6 0∧St h' n' (upd d rL g) (mO C (d rW) g (W.set a x) (L++gU th a 2 W[a] x false) (k+1)):=by
 obtain⟨m1,m2,m3,m4⟩:=M;obtain⟨o1,o2,o3,o4,o5⟩:=oM;have g1:=S.at m1;have g2:=S.at m2;have n1:=S.lt m1;have n2:=S.lt m2;have d1:=S.df m1 m2 qi;have hg:=dP ha;have a1:(0:Int)≤(a:Int):=by omega
 have a2:(a:Int)<(W.length:Int):=by omega
 obtain⟨t1,t2⟩:=ht;have hk2:k+1≤1048576:=by omega
 have hls:(W.set a x).length=W.length:=List.length_set;have ZO:(W.map (Value.int .u64)).set a (.int .u64 x)=(W.set a x).map (.int .u64):=by rw[List.map_set]
 have S1:=S.set rW (.cells (PT.ofList .leaf 0 ((W.set a x).map (.int .u64))) false) m2 rfl;have e1:∀ {A},C rM=some A→(upd C rW (row ((W.set a x).map (.int .u64)))) rM=some A:=fun q=>by rw[au qi];exact q
 have e2:∀ {A},C rM=some A→(upd (upd C rW (row ((W.set a x).map (.int .u64)))) rL none) rM=some A:=fun q=>by rw[au qi,au qi];exact q
 have e3:∀ {A},C rL=some A→(upd C rW (row ((W.set a x).map (.int .u64)))) rL=some A:=fun q=>by rw[au qi];exact q
 generalize W[a]=y at*;generalize W.set a x=W2 at*;refine ay (N:=32) func167 rfl rfl fun z hP hO hro hN hQ=>?_
 rcases m3 with ⟨rfl,rfl⟩ | ⟨k0,m3⟩
 ·have e0:wB (d rL) 0 = .slice none 0 0:=if_pos rfl;rw[e0] at g1;clear e0
  repeat' first|simp(disch:=first|omega|assumption) only[go_sem, *] | (apply xs<;>intro _)<;>try omega|refine fun (_ _:List Nat)=>?_ | (first|refine bD func178 rfl ?_ ?_ ?_ ?_ |refine bD func227 rfl ?_ ?_ ?_ ?_ |refine bD func226 rfl ?_ ?_ ?_ ?_ |fail)<;>intros
  exact⟨_,by omega,by omega,((S1.junk (Nat.le_refl _) (Nat.lt_succ_self _)).fin (e1 m1) (Nat.le_refl _) (Nat.lt_succ_self _) _ _).eq (by unfold mO;rw[hls];rfl) rfl⟩
 ·have e0:wB (d rL) k = .slice (some ⟨d rL,0,none⟩) k (aA+6):=if_neg qJ;rw[e0] at g1;have g3:=S.at m3;have n3:=S.lt m3;have d2:=S.df m1 m3 qi;have d3:=S.df m2 m3 qi;have zJ:List.take (k*6) L=L:=List.take_of_length_le qJ;clear e0
  repeat' first|simp(disch:=first|omega|assumption) only[go_sem, *] | (apply xs<;>intro _)<;>try omega|refine fun (_ _:List Nat)=>?_ | (first|refine bD func178 rfl ?_ ?_ ?_ ?_ |refine bD func227 rfl ?_ ?_ ?_ ?_ |refine bD func226 rfl ?_ ?_ ?_ ?_ |fail)<;>intros
  exact⟨_,by omega,by omega,(((S1.junk (Nat.le_refl _) (Nat.lt_succ_self _)).kill rL (e3 m3) rfl).fin (e2 m1) (Nat.le_refl _) (Nat.lt_succ_self _) _ _).eq (by unfold mO;rw[gn];rw[hls];rfl) rfl⟩
theorem aq5(oM:UH O){h:PT aj}{n:Nat}{d:Rl→Nat}{C:Rl→Option aj}{W:List Int}{L:List Value}{k a:Nat}{th o x:Int}(S:St h n d C)(M:jm d C W L k)(hk:k≤100000)(ht:0≤th∧th<64)(ha:a<W.length)(hc:W[a]=o):
  cE prog O 251 [pt (d rM),I6 th,I6 a,U6 o,U6 x] h n fun v h' n'=>∃ g,n≤g∧g<n'∧v=iU [.bool true,I6 0]∧St h' n' (upd d rL g) (mO C (d rW) g (W.set a x) (L++gU th a 4 o x true) (k+1)):=by
 obtain⟨m1,m2,m3,m4⟩:=M;obtain⟨o1,o2,o3,o4,o5⟩:=oM;have g1:=S.at m1;have g2:=S.at m2;have n1:=S.lt m1;have n2:=S.lt m2;have d1:=S.df m1 m2 qi;have hg:=dP ha;have a1:(0:Int)≤(a:Int):=by omega
 have a2:(a:Int)<(W.length:Int):=by omega
 obtain⟨t1,t2⟩:=ht;have hk2:k+1≤1048576:=by omega
 have hls:(W.set a x).length=W.length:=List.length_set;have ZO:(W.map (Value.int .u64)).set a (.int .u64 x)=(W.set a x).map (.int .u64):=by rw[List.map_set]
 have S1:=S.set rW (.cells (PT.ofList .leaf 0 ((W.set a x).map (.int .u64))) false) m2 rfl;have e1:∀ {A},C rM=some A→(upd C rW (row ((W.set a x).map (.int .u64)))) rM=some A:=fun q=>by rw[au qi];exact q
 have e2:∀ {A},C rM=some A→(upd (upd C rW (row ((W.set a x).map (.int .u64)))) rL none) rM=some A:=fun q=>by rw[au qi,au qi];exact q
 have e3:∀ {A},C rL=some A→(upd C rW (row ((W.set a x).map (.int .u64)))) rL=some A:=fun q=>by rw[au qi];exact q
 have hg2:((W.set a x).map (Value.int .u64))[a]? = some (.int .u64 x):=by rw[List.getElem?_map,List.getElem?_set_self ha];rfl
 have hbo:(o==o)=true:=by simp
 rw[hc] at hg;clear hc;generalize W.set a x=W2 at*;refine ay (N:=52) func251 rfl rfl fun z hP hO hro hN hQ=>?_
 rcases m3 with ⟨rfl,rfl⟩ | ⟨k0,m3⟩
 ·have e0:wB (d rL) 0 = .slice none 0 0:=if_pos rfl;rw[e0] at g1;clear e0
  repeat' first|simp(disch:=first|omega|assumption) only[go_sem, *] | (apply xs<;>intro _)<;>try omega|refine fun (_ _:List Nat)=>?_ | (first|refine bD func178 rfl ?_ ?_ ?_ ?_ |refine bD func69 rfl ?_ ?_ ?_ ?_ |refine bD func255 rfl ?_ ?_ ?_ ?_ |refine bD func226 rfl ?_ ?_ ?_ ?_ |fail)<;>intros
  exact⟨_,by omega,by omega,((S1.junk (Nat.le_refl _) (Nat.lt_succ_self _)).fin (e1 m1) (Nat.le_refl _) (Nat.lt_succ_self _) _ _).eq (by unfold mO;rw[hls];rfl) rfl⟩
 ·have e0:wB (d rL) k = .slice (some ⟨d rL,0,none⟩) k (aA+6):=if_neg qJ;rw[e0] at g1;have g3:=S.at m3;have n3:=S.lt m3;have d2:=S.df m1 m3 qi;have d3:=S.df m2 m3 qi;have zJ:List.take (k*6) L=L:=List.take_of_length_le qJ;clear e0
  repeat' first|simp(disch:=first|omega|assumption) only[go_sem, *] | (apply xs<;>intro _)<;>try omega|refine fun (_ _:List Nat)=>?_ | (first|refine bD func178 rfl ?_ ?_ ?_ ?_ |refine bD func69 rfl ?_ ?_ ?_ ?_ |refine bD func255 rfl ?_ ?_ ?_ ?_ |refine bD func226 rfl ?_ ?_ ?_ ?_ |fail)<;>intros
  exact⟨_,by omega,by omega,(((S1.junk (Nat.le_refl _) (Nat.lt_succ_self _)).kill rL (e3 m3) rfl).fin (e2 m1) (Nat.le_refl _) (Nat.lt_succ_self _) _ _).eq (by unfold mO;rw[gn];rw[hls];rfl) rfl⟩
end Go.Proofs.YtofmbmclopgldaaGreat
namespace Go.Proofs.YtofmbmclopgldaaGreat
open Go.Am Go.Proofs.Tryz
theorem iE(x:Value):∀ k,rep [x] k=List.replicate k x
 |0=>rfl
 |k+1=>by rw[rep,iE x k];rfl
def vK(W:List Int)(i:Nat):List Value:=(W.take i).map (.int .u64)++List.replicate (W.length-i) (.int .u64 0)
theorem vg(W:List Int)(i:Nat)(hi:i≤W.length):(vK W i).length=W.length:=by
 unfold vK;rw[List.length_append,List.length_map,List.length_take,List.length_replicate];omega
theorem AI(W:List Int):vK W 0=rep [.int .u64 0] W.length:=by
 rw[iE];rfl
theorem Ew(W:List Int):vK W W.length=W.map (.int .u64):=by
 unfold vK;rw[List.take_length,Nat.sub_self,List.replicate_zero,List.append_nil]
theorem PF{W:List Int}{i:Nat}(hi:i<W.length):(vK W i)[i]? = some (.int .u64 0):=by
 unfold vK;rw[List.getElem?_append_right (by rw[List.length_map,List.length_take];omega),List.length_map,List.length_take,Nat.min_eq_left qJ,Nat.sub_self];rw[List.getElem?_replicate,if_pos qJ]
theorem Ey{W:List Int}{i:Nat}(hi:i<W.length):(vK W i).set i (.int .u64 W[i])=vK W (i+1):=by
 unfold vK;have e:((W.take i).map (Value.int .u64)).length=i:=by rw[List.length_map,List.length_take];omega
 rw[List.set_append_right _ _ (by rw[e];exact Nat.le_refl _),e,Nat.sub_self,List.take_succ_eq_append_getElem hi,List.map_append,List.append_assoc];have e2:W.length-i=(W.length-(i+1))+1:=by omega
 rw[e2,List.replicate_succ];rfl
theorem UI{O:Over}(o1:O 112=fun _=>none)(o2:O 113=fun _=>none)(b cap:Nat)(W:List Int)(ro:Bool)(h:PT aj)(N:Nat)(hW:bQ h N)(hb:h.get b=some (.cells (PT.ofList .leaf 0 (W.map (.int .u64))) ro))(h1:0<W.length)(h2:W.length≤65536):
  cE prog O 46 [.slice (some ⟨b,0,none⟩) W.length cap] h N fun v h' n'=>v=iU [pt (N+1),I6 0]∧n'=N+2∧h'.get (N+1)=row [.slice (some ⟨N,0,none⟩) W.length W.length,.slice none 0 0]∧h'.get N=row (W.map (.int .u64))∧Kept h h'∧bQ h' n':=by
 have zG:=hW.lt hb;have hm0:=AI W;have Lb:W.length.ble 1048576=true:=Nat.ble_eq_true_of_le qJ;have h3: ¬ (W.length:Int)=0:=by omega
 have h4: ¬ (65536:Int)<W.length:=by omega
 refine ay (N:=36) func46 rfl rfl fun z hP hO hro hN hQ=>?_
 repeat' first|simp(disch:=first|omega|assumption) only[go_sem, *] | (apply xs<;>intro _)<;>try omega|refine fun (_ _:List Nat)=>?_ | (first|refine bD func112 rfl ?_ ?_ ?_ ?_ |fail)<;>intros
 refine a_ (fun t m h' n'=>∃ i:Nat,i≤W.length∧t=W.length-i∧m.n=36∧m.fF=[]∧m.get 5=pt (N+1)∧m.get 19 = .slice (some ⟨b,0,none⟩) W.length cap∧m.get 20=I6 W.length∧m.get 21=I6 i∧n'=N+2∧
  h'.get (N+1)=row [.slice (some ⟨N,0,none⟩) W.length W.length,.slice none 0 0]∧h'.get N=row (vK W i)∧Kept h h'∧bQ h' n') W.length ?_ ?_
 ·refine⟨0,by omega,by omega,?_⟩;rw[hm0];simp(disch:=first|omega|assumption) only[go_sem, *];exact⟨Kept.set' hW qJ (Kept.set' hW (Nat.le_refl _) (Kept.refl _)),(hW.set (Nat.le_succ _) qJ).set (Nat.le_succ _) qJ⟩
 ·clear hm0;rintro t m h' n' ih ⟨i,hi,rfl,m1,m2,m3,m4,m5,m6,rfl,q1,q2,q3,q4⟩
  rcases Nat.lt_or_ge i W.length with hlt |hge
  ·have e7:(i:Int)<W.length:=by omega
   have hb':=q3 _ _ hb;have hg:=dP hlt;have hmg:=PF hlt;have ZO:=Ey hlt;have hml:=vg W i qJ;have PG:((i+1:Nat):Int)=(i:Int)+1:=by omega
   generalize W[i]=x at*;clear hb
   repeat' first|simp(disch:=first|omega|assumption) only[go_sem, *] | (apply xs<;>intro _)<;>try omega|refine fun (_ _:List Nat)=>?_ | (first|refine bD func113 rfl ?_ ?_ ?_ ?_ |fail)<;>intros
   refine ih (W.length-(i+1)) _ _ _ qJ ⟨i+1,by omega,rfl,?_⟩;rw[PG];clear ih;simp(disch:=first|omega|assumption) only[go_sem, *];exact⟨Kept.set' hW qJ q3,q4.set (Nat.le_refl _) qJ⟩
  ·have e7: ¬ (i:Int)<W.length:=by omega
   obtain rfl:i=W.length:=by omega
   rw[Ew] at q2;clear ih
   repeat' first|simp(disch:=first|omega|assumption) only[go_sem, *] | (apply xs<;>intro _)<;>try omega|refine fun (_ _:List Nat)=>?_
theorem ZP{O:Over}(o1:O 69=fun _=>none)(mb wb cap:Nat)(lg:Value)(W:List Int)(h:PT aj)(N:Nat)(hW:bQ h N)(hm:h.get mb=row [.slice (some ⟨wb,0,none⟩) W.length cap,lg])(hb:h.get wb=row (W.map (.int .u64)))(h2:W.length≤65536):
  cE prog O 20 [pt mb] h N fun v h' n'=>v = .slice (some ⟨N,0,none⟩) W.length W.length∧n'=N+1∧h'.get N=row (W.map (.int .u64))∧Kept h h'∧bQ h' (N+1):=by
 have zG:=hW.lt hb;have hmN:=hW.lt hm;have hm0:=AI W;have Lb:W.length.ble 1048576=true:=Nat.ble_eq_true_of_le qJ;refine ay (N:=33) func20 rfl rfl fun z hP hO hro hN hQ=>?_
 repeat' first|simp(disch:=first|omega|assumption) only[go_sem, *] | (apply xs<;>intro _)<;>try omega|refine fun (_ _:List Nat)=>?_
 refine a_ (fun t m h' n'=>∃ i:Nat,i≤W.length∧t=W.length-i∧m.n=33∧m.fF=[]∧m.get 0=pt mb∧m.get 3 = .slice (some ⟨N,0,none⟩) W.length W.length∧m.get 17=I6 W.length∧m.get 18=I6 i∧n'=N+1∧
  h'.get N=row (vK W i)∧Kept h h'∧bQ h' (N+1)) W.length ?_ ?_
 ·refine⟨0,by omega,by omega,?_⟩;rw[hm0];simp(disch:=first|omega|assumption) only[go_sem, *];exact⟨hW.kept (Nat.le_refl _),hW.set (Nat.le_succ _) (Nat.lt_succ_self _)⟩
 ·clear hm0;rintro t m h' n' ih ⟨i,hi,rfl,m1,m2,m3,m4,m5,m6,rfl,q2,q3,q4⟩
  rcases Nat.lt_or_ge i W.length with hlt |hge
  ·have e7:(i:Int)<W.length:=by omega
   have hb':=q3 _ _ hb;have hm':=q3 _ _ hm;have hg:=dP hlt;have ZO:=Ey hlt;have hml:=vg W i qJ;have PG:((i+1:Nat):Int)=(i:Int)+1:=by omega
   generalize W[i]=x at*;clear hb hm
   repeat' first|simp(disch:=first|omega|assumption) only[go_sem, *] | (apply xs<;>intro _)<;>try omega|refine fun (_ _:List Nat)=>?_ | (first|refine bD func69 rfl ?_ ?_ ?_ ?_ |fail)<;>intros
   refine ih (W.length-(i+1)) _ _ _ qJ ⟨i+1,by omega,rfl,?_⟩;rw[PG];clear ih;simp(disch:=first|omega|assumption) only[go_sem, *];exact⟨Kept.set' hW (Nat.le_refl _) q3,q4.set (Nat.le_refl _) (Nat.lt_succ_self _)⟩
  ·have e7: ¬ (i:Int)<W.length:=by omega
   obtain rfl:i=W.length:=by omega
   rw[Ew] at q2;clear ih
   repeat' first|simp(disch:=first|omega|assumption) only[go_sem, *] | (apply xs<;>intro _)<;>try omega|refine fun (_ _:List Nat)=>?_
noncomputable def yN:List Value→Option (AP Value)
 | [.pointer (some ⟨b,0,none⟩),.int .i64 t]=>some (AP.row b fun (S:List Value) ro=>match (S[0]? : Option Value) with
  |some (.pointer (some ⟨p,0,none⟩))=>AP.row p fun (Q:List Value) Es=>match (Q[3]? : Option Value) with
   |some (.int .i64 k) => .pure (.int .i64 (IntKind.i64.wrap (IntKind.i64.wrap (k+t)-1)))
   | _ => .fail ""
  | _ => .fail "")
 | _=>none
theorem afu:bG prog 231 yN:=by
 refine bM (O:=gG []) (aV .nil) bU ?_ ?_ ?_
 ·intro args m hm;unfold yN at hm;split at hm
  ·obtain rfl:=Option.some.inj hm;refine dW fun S ro=>?_;split
   ·refine dW fun S ro=>?_;split
    ·exact .pure _
    ·exact .fail _
   ·exact .fail _
  ·simp at hm
 ·intro args m h v hm e;unfold yN at hm;split at hm
  ·obtain rfl:=Option.some.inj hm;obtain⟨S,ro,hb,e⟩:=cA e;split at e
   ·obtain⟨Q,Es,hq,e⟩:=cA e;split at e
    ·rw[aF] at e;obtain rfl:=Option.some.inj e;exact .int _ _
    ·simp[AP.look] at e
   ·simp[AP.look] at e
  ·simp at hm
 ·intro args m h N v hm hR hlt e;unfold yN at hm;split at hm
  ·rename_i b t;obtain rfl:=Option.some.inj hm;obtain⟨S,ro,hb,e⟩:=cA e;split at e
   ·rename_i p h0;obtain⟨Q,Es,hq,e⟩:=cA e;split at e
    ·rename_i k h3;rw[aF] at e;obtain rfl:=Option.some.inj e;clear e hlt hR;refine ay (N:=15) func231 rfl rfl fun z hP hO hro hN hQ=>?_
     repeat' first|simp(disch:=first|omega|assumption) only[go_sem, *] | (apply xs<;>intro _)<;>try omega
     exact fun _ _=>trivial
    ·simp[AP.look] at e
   ·simp[AP.look] at e
  ·simp at hm
def Hw:List Value→Option (AP Value)
 | [.int .u64 w]=>some (.pure (.int .i64 (IntKind.i64.wrap (w.tmod 65536))))
 | _=>none
theorem aq6:bG prog 230 Hw:=by
 refine bM (O:=gG []) (aV .nil) bU ?_ ?_ ?_
 ·intro args m hm;unfold Hw at hm;split at hm
  ·obtain rfl:=Option.some.inj hm;exact .pure _
  ·simp at hm
 ·intro args m h v hm e;unfold Hw at hm;split at hm
  ·obtain rfl:=Option.some.inj hm;rw[aF] at e;obtain rfl:=Option.some.inj e;exact .int _ _
  ·simp at hm
 ·intro args m h N v hm hR hlt e;unfold Hw at hm;split at hm
  ·rename_i w;obtain rfl:=Option.some.inj hm;rw[aF] at e;obtain rfl:=Option.some.inj e;clear hlt hR;refine ay (N:=6) func230 rfl rfl fun z hP hO hro hN hQ=>?_
   repeat' first|simp(disch:=first|omega|assumption) only[go_sem, *] | (apply xs<;>intro _)<;>try omega
   first|exact⟨trivial,fun _ _=>trivial⟩ |exact fun _ _=>trivial
  ·simp at hm
noncomputable abbrev OB:Over:=gG [(108,kF),(111,qj),(78,lG),(110,uo),(22,UD),(50,kg),(115,dR),(102,cu),(57,AH),(105,yD),(16,BN),(231,yN),(230,Hw),(169,jj),(93,ep),(89,dB),(209,mN),(100,fk),(210,yy),(216,qo),(37,jT),(217,pL),(219,AJ),(218,AK),(19,Ez),(21,Jd),(11,EA),(15,yO),(25,yP),(38,sW),(149,rF),(150,nV),(85,qp),(10,sJ),(36,sJ)]
theorem oM:UH OB:=⟨rfl,rfl,rfl,rfl,rfl⟩
theorem _root_.Go.Am.St.give{h:PT aj}{n i:Nat}{d:Rl→Nat}{C:Rl→Option aj}{B:aj}(S:St h n d C)(r:Rl)(e:h.get i=some B)(hi:∀ s D,C s=some D→d s≠i):St h n (upd d r i) (upd C r (some B)):=by
 refine⟨fun s D q=>?_,fun s t q1 q2 q=>?_,S.wf⟩
 ·unfold upd at q ⊢;split at q
  ·rename_i c;rw[if_pos c];rw[←Option.some.inj q];exact e
  ·rename_i c;rw[if_neg c];exact S.get s D q
 ·unfold upd at q q1 q2;by_cases c1:s=r
  ·by_cases c2:t=r
   ·rw[c1,c2]
   ·rw[if_pos c1,if_neg c2] at q;rw[if_neg c2] at q2;obtain⟨D,hD⟩:=Option.ne_none_iff_exists'.1 q2;exact absurd q.symm (hi t D hD)
  ·by_cases c2:t=r
   ·rw[if_neg c1,if_pos c2] at q;rw[if_neg c1] at q1;obtain⟨D,hD⟩:=Option.ne_none_iff_exists'.1 q1;exact absurd q (hi s D hD)
   ·rw[if_neg c1,if_neg c2] at q;rw[if_neg c1] at q1;rw[if_neg c2] at q2;exact S.inj s t q1 q2 q
theorem _root_.Go.Am.St.all{h:PT aj}{n:Nat}(w:bQ h n):St h n (fun r=>if r.1=9999 then r.2 else 0) (fun r=>if r.1=9999 then h.get r.2 else none):=by
 refine⟨fun r B q=>?_,fun r s q1 q2 q=>?_,w⟩
 ·split at q
  ·rename_i c;rw[if_pos c];exact q
  ·simp at q
 ·split at q1
  ·rename_i c1;split at q2
   ·rename_i c2;rw[if_pos c1,if_pos c2] at q;exact Prod.ext (c1.trans c2.symm) q
   ·exact absurd rfl q2
  ·exact absurd rfl q1
structure Fz(h1:PT aj)(n1:Nat)(d:Rl→Nat)(C:Rl→Option aj):Prop where
 dz:∀ i,d (9999,i)=i
 cz:∀ i,C (9999,i)=h1.get i
 lo:∀ r B,r.1≠9999→C r=some B→n1≤d r
 wf:bQ h1 n1
section
variable {h1 h:PT aj} {n1 n:Nat} {d:Rl→Nat} {C:Rl→Option aj}
theorem Fz.all(w:bQ h1 n1):Fz h1 n1 (fun r=>if r.1=9999 then r.2 else 0) (fun r=>if r.1=9999 then h1.get r.2 else none):=
 ⟨fun i=>if_pos rfl,fun i=>if_pos rfl,fun r B c q=>by rw[if_neg c] at q;simp at q,w⟩
theorem Fz.kept(F:Fz h1 n1 d C)(S:St h n d C):Kept h1 h:=fun i B e=>by
 have:=S.get (9999,i) B (by rw[F.cz,e])
 rwa [F.dz] at this
theorem Fz.new(F:Fz h1 n1 d C){a b i:Nat}(ha:a≠9999)(hi:n1≤i)(X:Option aj):Fz h1 n1 (upd d (a,b) i) (upd C (a,b) X):=by
 refine⟨fun j=>?_,fun j=>?_,fun r B c q=>?_,F.wf⟩
 ·rw[au (Ne.symm ha)];exact F.dz j
 ·rw[au (Ne.symm ha)];exact F.cz j
 ·unfold upd at q ⊢;split at q
  ·rename_i e;rw[if_pos e];exact hi
  ·rename_i e;rw[if_neg e];exact F.lo r B c q
theorem Fz.set(F:Fz h1 n1 d C){a b:Nat}{A:aj}(ha:a≠9999)(e:C (a,b)=some A)(X:Option aj):Fz h1 n1 d (upd C (a,b) X):=by
 refine⟨F.dz,fun j=>?_,fun r B c q=>?_,F.wf⟩
 ·rw[au (Ne.symm ha)];exact F.cz j
 ·unfold upd at q;split at q
  ·rename_i e2;rw[e2];exact F.lo (a,b) A ha e
  ·exact F.lo r B c q
theorem Fz.mem(F:Fz h1 n1 d C)(S:St h n d C){W W':List Int}{L L':List Value}{k k' g:Nat}(M:jm d C W L k)(hg:n1≤g):Fz h1 n1 (upd d rL g) (mO C (d rW) g W' L' k'):=by
 obtain⟨m1,m2,m3,m4⟩:=M;unfold mO;refine⟨fun j=>?_,fun j=>?_,fun r B c q=>?_,F.wf⟩
 ·rw[au qi];exact F.dz j
 ·rw[au qi,au qi,au qi];exact F.cz j
 ·by_cases c1:r=rL
  ·subst c1;rw[aq];exact hg
  ·rw[bB c1];unfold upd at q;split at q
   ·rename_i e;subst e;exact F.lo _ _ c m1
   ·split at q
    ·rename_i e;subst e;exact F.lo _ _ c m2
    ·exact F.lo r B c q
end
theorem UJ{h:PT aj}{n b cap:Nat}{d:Rl→Nat}{C:Rl→Option aj}{W:List Int}{ro:Bool}(S:St h n d C)(hb:h.get b=aeb (W.map (.int .u64)) ro)(h1:0<W.length)(h2:W.length≤65536):
  cE prog OB 46 [.slice (some ⟨b,0,none⟩) W.length cap] h n fun v h' n'=>v=iU [pt (n+1),I6 0]∧n'=n+2∧Kept h h'∧St h' n' (upd (upd d rW n) rM (n+1)) (upd (upd C rW (row (W.map (.int .u64)))) rM (row [.slice (some ⟨n,0,none⟩) W.length W.length,.slice none 0 0])):=by
 obtain⟨kk,v,h',n',e,rfl,rfl,q1,q2,q3,q4⟩:=UI (O:=OB) rfl rfl b cap W ro h n S.wf hb h1 h2;refine⟨kk,_,h',_,e,rfl,rfl,q3,((S.kept q3 q4).give rW q2 fun s D c=>?_).give rM q1 fun s D c=>?_⟩
 ·have:=S.lt c;omega
 ·by_cases c2:s=rW
  ·subst c2;rw[aq];omega
  ·rw[bB c2] at c ⊢;have:=S.lt c;omega
theorem UK{h h1:PT aj}{n n1 b cap:Nat}{d:Rl→Nat}{C:Rl→Option aj}{W:List Int}{ro:Bool}(S:St h n d C)(F:Fz h1 n1 d C)(hn:n1≤n)(hb:h.get b=aeb (W.map (.int .u64)) ro)(hW1:0<W.length)(Fx:W.length≤65536):
  cE prog OB 46 [.slice (some ⟨b,0,none⟩) W.length cap] h n fun v h' n'=>∃ d' C',v=iU [pt (d' rM),I6 0]∧n≤n'∧Kept h h'∧St h' n' d' C'∧Fz h1 n1 d' C'∧jm d' C' W [] 0∧(∀ a b,2<a→d' (a,b)=d (a,b)∧C' (a,b)=C (a,b)):=by
 refine(UJ S hb hW1 Fx).mono ?_;rintro v h' n' ⟨rfl,rfl,k,S'⟩;refine⟨_,_,by simp(disch:=first |decide|assumption|omega) only[rM,rW,rL,aq,au,aK,aL],by omega,k,S',(F.new (a:=1) qi qJ _).new (a:=0) qi qJ _,⟨by simp(disch:=first |decide|assumption|omega) only[rM,rW,rL,aq,au,aK,aL];rfl,by simp(disch:=first |decide|assumption|omega) only[rM,rW,rL,aq,au,aK,aL],.inl ⟨rfl,rfl⟩,rfl⟩,fun a b c=>⟨by simp(disch:=first |decide|assumption|omega) only[rM,rW,rL,aq,au,aK,aL],by simp(disch:=first |decide|assumption|omega) only[rM,rW,rL,aq,au,aK,aL]⟩⟩
theorem jm.of{d d':Rl→Nat}{C C':Rl→Option aj}{W:List Int}{L:List Value}{k:Nat}(M:jm d C W L k)(hd:∀ a,a<3→d' (a,0)=d (a,0)∧C' (a,0)=C (a,0)):jm d' C' W L k:=by
 obtain⟨m1,m2,m3,m4⟩:=M;refine⟨?_,?_,?_,m4⟩
 ·rw[(hd 0 qJ).2,(hd 1 qJ).1,(hd 2 qJ).1];exact m1
 ·rw[(hd 1 qJ).2];exact m2
 ·rw[(hd 2 qJ).2];exact m3
end Go.Proofs.YtofmbmclopgldaaGreat
namespace Go.Proofs.YtofmbmclopgldaaGreat
open Go.Am Go.Proofs.Tryz
def TE(p:Int×Bool):List Value:=[.int .u64 p.1,.bool p.2]
def slL(P:List (Int×Bool)):List Value:=P.flatMap TE
theorem PI(p:Int×Bool)(P:List (Int×Bool)):slL (p::P) = .int .u64 p.1 :: .bool p.2::slL P:=by simp[slL,TE]
structure afw(d:Rl→Nat)(C:Rl→Option aj)(base:Int)(n:Nat)(N:List Int)(B:List Bool):Prop where
 afx:C (4,0)=row [.iface 231 (.agg ⟨[.iface 225 (pt (d (5,0)))]⟩),U8 1,I6 n]
 eng:C (5,0)=row [pt (d rM),I6 base,.slice (some ⟨d (6,0),0,none⟩) n n,.slice (some ⟨d (7,0),0,none⟩) n n]
 nums:C (6,0)=row (N.map (.int .u64))
 begun:C (7,0)=row (B.map .bool)
 aFA:N.length=n
 aFB:B.length=n
structure afy(d:Rl→Nat)(C:Rl→Option aj)(base:Int)(n:Nat)(P:List (Int×Bool)):Prop where
 afx:C (4,0)=row [.iface 238 (.agg ⟨[.iface 232 (pt (d (5,0)))]⟩),U8 2,I6 n]
 eng:C (5,0)=row [pt (d rM),.slice (some ⟨d (6,0),0,none⟩) n n,.func (.func 182) ⟨[]⟩ ⟨[pt (d (7,0))]⟩]
 slots:C (6,0)=row (slL P)
 base:C (7,0)=row [I6 base]
 len:P.length=n
structure afz(d:Rl→Nat)(C:Rl→Option aj)(base:Int)(nb n:Nat)(X:List cK)(ck:Nat):Prop where
 afx:C (4,0)=row [.iface 245 (.agg ⟨[.iface 239 (pt (d (5,0)))]⟩),U8 3,I6 n]
 eng:C (5,0)=row [pt (d rM),I6 base,I6 nb,.map (some (d (6,0)))]
 secs:C (6,0)=some (.map (ef .i64 X) ck)
theorem Cj(m:Nat):rep [Value.int .u64 0] m=(List.replicate m (0:Int)).map (.int .u64):=by rw[iE,List.map_replicate]
theorem Cm(m:Nat):rep [Value.bool false] m=(List.replicate m false).map .bool:=by rw[iE,List.map_replicate]
theorem wC:∀ m,rep [Value.int .u64 0,.bool false] m=slL (List.replicate m (0,false))
 |0=>rfl
 |m+1=>by rw[rep,wC m,List.replicate_succ,PI];rfl
theorem afA{h:PT aj}{ns ba nn:Nat}{d:Rl→Nat}{C:Rl→Option aj}{W:List Int}{L:List Value}{k:Nat}(S:St h nn d C)(M:jm d C W L k)(XW:0<ns∧ns≤64)(hW:ba+ns≤W.length)(rQ:W.length≤65536):
  cE prog OB 49 [pt (d rM),U8 1,I6 ba,I6 ns,I6 0] h nn fun r h' n'=>∃ d' C',r=iU [pt (d' (4,0)),I6 0]∧St h' n' d' C'∧afw d' C' ba ns (List.replicate ns 0) (List.replicate ns false)∧(∀ a b,a≠4→a≠5→a≠6→a≠7→d' (a,b)=d (a,b)∧C' (a,b)=C (a,b))∧(∀ h1 n1,n1≤nn→Fz h1 n1 d C→Fz h1 n1 d' C'):=by
 obtain⟨m1,m2,m3,m4⟩:=M;have g0:=S.at m1;have gw:=S.at m2;have n0:=S.lt m1;have nw:=S.lt m2;have hg:=dP (W:=W) (i:=ba+ns-1) qJ;obtain⟨hn1,hn2⟩:=XW;have hz:=Cj ns;have hz2:=Cm ns;have hz3:=wC ns;have hc0: ¬ (ns:Int)<1:=by omega
 have hc1: ¬ (64:Int)<ns:=by omega
 have LO:((ba+ns-1:Nat):Int)<((W.length:Nat):Int):=by omega
 have hc3:(0:Int)≤((ba+ns-1:Nat):Int):=by omega
 have hc5:((ba:Int)+(ns:Int)-1).toNat=ba+ns-1:=by omega
 have hc6:(ba:Int)+(ns:Int)-1<((W.length:Nat):Int):=by omega
 have hc7:Nat.ble ns 1048576=true:=Nat.ble_eq_true_of_le qJ;generalize W[ba+ns-1]=y at*;clear m1 m2 m3 m4;refine ay (N:=86) func49 rfl rfl fun z hP hO hro hN hQ=>?_
 repeat' first|simp(disch:=first|omega|assumption) only[go_sem, *] | (apply xs<;>intro _)<;>try omega | ((with_reducible refine b8 11 ?_);refine dw 47 11 aeK (by first | (simp only[go_sem, *];done)|rfl) (by kernel_rfl) (by kernel_rfl) ?_)|refine fun (_ _:List Nat)=>?_ | (first|refine bD func116 rfl ?_ ?_ ?_ ?_ |refine bD func179 rfl ?_ ?_ ?_ ?_ |refine bD func117 rfl ?_ ?_ ?_ ?_ |refine bD func114 rfl ?_ ?_ ?_ ?_ |refine bD func69 rfl ?_ ?_ ?_ ?_ |refine bD func178 rfl ?_ ?_ ?_ ?_ |fail)<;>intros
 refine⟨_,_,by simp(disch:=first |decide|assumption|omega) only[rM,rW,rL,aq,au,aK,aL],((((S.new (4,0) _ (Nat.le_refl _) (Nat.lt_succ_self _)).new (6,0) _ (Nat.le_refl _) (Nat.lt_succ_self _)).new (7,0) _ (Nat.le_refl _) (Nat.lt_succ_self _)).new (5,0) _ (Nat.le_refl _) (Nat.lt_succ_self _)).set (4,0) _ (by (simp(disch:=first |decide|assumption|omega) only[rM,rW,rL,aq,au,aK,aL])<;>rfl) (by (simp(disch:=first |decide|assumption|omega) only[rM,rW,rL,aq,au,aK,aL])<;>rfl),⟨by (simp(disch:=first |decide|assumption|omega) only[rM,rW,rL,aq,au,aK,aL])<;>rfl,by (simp(disch:=first |decide|assumption|omega) only[rM,rW,rL,aq,au,aK,aL])<;>rfl,by (simp(disch:=first |decide|assumption|omega) only[rM,rW,rL,aq,au,aK,aL])<;>rfl,by (simp(disch:=first |decide|assumption|omega) only[rM,rW,rL,aq,au,aK,aL])<;>rfl,List.length_replicate,List.length_replicate⟩,fun a b c1 c2 c3 c4=>⟨by simp(disch:=first |decide|assumption|omega) only[rM,rW,rL,aq,au,aK,aL],by simp(disch:=first |decide|assumption|omega) only[rM,rW,rL,aq,au,aK,aL]⟩,fun h1 n1 hn F=>((((F.new (a:=4) qi qJ _).new (a:=6) qi qJ _).new (a:=7) qi qJ _).new (a:=5) qi qJ _).set (a:=4) qi (by (simp(disch:=first |decide|assumption|omega) only[rM,rW,rL,aq,au,aK,aL])<;>rfl) _⟩
theorem afB{h:PT aj}{ns ba nn:Nat}{d:Rl→Nat}{C:Rl→Option aj}{W:List Int}{L:List Value}{k:Nat}(S:St h nn d C)(M:jm d C W L k)(XW:0<ns∧ns≤64)(hW:ba+2*ns≤W.length)(rQ:W.length≤65536):
  cE prog OB 49 [pt (d rM),U8 2,I6 ba,I6 ns,I6 0] h nn fun r h' n'=>∃ d' C',r=iU [pt (d' (4,0)),I6 0]∧St h' n' d' C'∧afy d' C' ba ns (List.replicate ns (0,false))∧(∀ a b,a≠4→a≠5→a≠6→a≠7→d' (a,b)=d (a,b)∧C' (a,b)=C (a,b))∧(∀ h1 n1,n1≤nn→Fz h1 n1 d C→Fz h1 n1 d' C'):=by
 obtain⟨m1,m2,m3,m4⟩:=M;have g0:=S.at m1;have gw:=S.at m2;have n0:=S.lt m1;have nw:=S.lt m2;have hg:=dP (W:=W) (i:=ba+2*ns-1) qJ;obtain⟨hn1,hn2⟩:=XW;have hz:=Cj ns;have hz2:=Cm ns;have hz3:=wC ns;have hc0: ¬ (ns:Int)<1:=by omega
 have hc1: ¬ (64:Int)<ns:=by omega
 have LO:((ba+2*ns-1:Nat):Int)<((W.length:Nat):Int):=by omega
 have hc3:(0:Int)≤((ba+2*ns-1:Nat):Int):=by omega
 have hc5:((ba:Int)+2*(ns:Int)-1).toNat=ba+2*ns-1:=by omega
 have hc6:(ba:Int)+2*(ns:Int)-1<((W.length:Nat):Int):=by omega
 have hc7:Nat.ble ns 1048576=true:=Nat.ble_eq_true_of_le qJ;generalize W[ba+2*ns-1]=y at*;clear m1 m2 m3 m4;refine ay (N:=86) func49 rfl rfl fun z hP hO hro hN hQ=>?_
 repeat' first|simp(disch:=first|omega|assumption) only[go_sem, *] | (apply xs<;>intro _)<;>try omega|refine fun (_ _:List Nat)=>?_ | (first|refine bD func116 rfl ?_ ?_ ?_ ?_ |refine bD func180 rfl ?_ ?_ ?_ ?_ |refine bD func118 rfl ?_ ?_ ?_ ?_ |refine bD func114 rfl ?_ ?_ ?_ ?_ |refine bD func69 rfl ?_ ?_ ?_ ?_ |refine bD func178 rfl ?_ ?_ ?_ ?_ |fail)<;>intros
 refine⟨_,_,by simp(disch:=first |decide|assumption|omega) only[rM,rW,rL,aq,au,aK,aL],((((S.new (4,0) _ (Nat.le_refl _) (Nat.lt_succ_self _)).new (7,0) _ (Nat.le_refl _) (Nat.lt_succ_self _)).new (6,0) _ (Nat.le_refl _) (Nat.lt_succ_self _)).new (5,0) _ (Nat.le_refl _) (Nat.lt_succ_self _)).set (4,0) _ (by (simp(disch:=first |decide|assumption|omega) only[rM,rW,rL,aq,au,aK,aL])<;>rfl) (by (simp(disch:=first |decide|assumption|omega) only[rM,rW,rL,aq,au,aK,aL])<;>rfl),⟨by (simp(disch:=first |decide|assumption|omega) only[rM,rW,rL,aq,au,aK,aL])<;>rfl,by (simp(disch:=first |decide|assumption|omega) only[rM,rW,rL,aq,au,aK,aL])<;>rfl,by (simp(disch:=first |decide|assumption|omega) only[rM,rW,rL,aq,au,aK,aL])<;>rfl,by (simp(disch:=first |decide|assumption|omega) only[rM,rW,rL,aq,au,aK,aL])<;>rfl,List.length_replicate⟩,fun a b c1 c2 c3 c4=>⟨by simp(disch:=first |decide|assumption|omega) only[rM,rW,rL,aq,au,aK,aL],by simp(disch:=first |decide|assumption|omega) only[rM,rW,rL,aq,au,aK,aL]⟩,fun h1 n1 hn F=>((((F.new (a:=4) qi qJ _).new (a:=7) qi qJ _).new (a:=6) qi qJ _).new (a:=5) qi qJ _).set (a:=4) qi (by (simp(disch:=first |decide|assumption|omega) only[rM,rW,rL,aq,au,aK,aL])<;>rfl) _⟩
theorem afC{h:PT aj}{ns ba nb nn:Nat}{d:Rl→Nat}{C:Rl→Option aj}{W:List Int}{L:List Value}{k:Nat}(S:St h nn d C)(M:jm d C W L k)(XW:0<ns∧ns≤64)(hnb:0<nb∧nb≤16)(hW:ba+4*nb≤W.length)(rQ:W.length≤65536):
  cE prog OB 49 [pt (d rM),U8 3,I6 ba,I6 ns,I6 nb] h nn fun r h' n'=>∃ d' C',r=iU [pt (d' (4,0)),I6 0]∧St h' n' d' C'∧afz d' C' ba nb ns [] 0∧(∀ a b,a≠4→a≠5→a≠6→a≠7→d' (a,b)=d (a,b)∧C' (a,b)=C (a,b))∧(∀ h1 n1,n1≤nn→Fz h1 n1 d C→Fz h1 n1 d' C'):=by
 obtain⟨m1,m2,m3,m4⟩:=M;have g0:=S.at m1;have gw:=S.at m2;have n0:=S.lt m1;have nw:=S.lt m2;have hg:=dP (W:=W) (i:=ba+4*nb-1) qJ;obtain⟨hn1,hn2⟩:=XW;have hz:=Cj ns;have hz2:=Cm ns;have hz3:=wC ns;have hc0: ¬ (ns:Int)<1:=by omega
 have hc1: ¬ (64:Int)<ns:=by omega
 have LO:((ba+4*nb-1:Nat):Int)<((W.length:Nat):Int):=by omega
 have hc3:(0:Int)≤((ba+4*nb-1:Nat):Int):=by omega
 have hc5:((ba:Int)+4*(nb:Int)-1).toNat=ba+4*nb-1:=by omega
 have hc6:(ba:Int)+4*(nb:Int)-1<((W.length:Nat):Int):=by omega
 have hc7:Nat.ble ns 1048576=true:=Nat.ble_eq_true_of_le qJ;generalize W[ba+4*nb-1]=y at*;clear m1 m2 m3 m4;refine ay (N:=86) func49 rfl rfl fun z hP hO hro hN hQ=>?_
 repeat' first|simp(disch:=first|omega|assumption) only[go_sem, *] | (apply xs<;>intro _)<;>try omega|refine fun (_ _:List Nat)=>?_ | (first|refine bD func116 rfl ?_ ?_ ?_ ?_ |refine bD func181 rfl ?_ ?_ ?_ ?_ |refine bD func119 rfl ?_ ?_ ?_ ?_ |refine bD func114 rfl ?_ ?_ ?_ ?_ |refine bD func69 rfl ?_ ?_ ?_ ?_ |refine bD func178 rfl ?_ ?_ ?_ ?_ |fail)<;>intros
 refine⟨_,_,by simp(disch:=first |decide|assumption|omega) only[rM,rW,rL,aq,au,aK,aL],(((S.new (4,0) _ (Nat.le_refl _) (Nat.lt_succ_self _)).new (6,0) _ (Nat.le_refl _) (Nat.lt_succ_self _)).new (5,0) _ (Nat.le_refl _) (Nat.lt_succ_self _)).set (4,0) _ (by (simp(disch:=first |decide|assumption|omega) only[rM,rW,rL,aq,au,aK,aL])<;>rfl) (by (simp(disch:=first |decide|assumption|omega) only[rM,rW,rL,aq,au,aK,aL])<;>rfl),⟨by (simp(disch:=first |decide|assumption|omega) only[rM,rW,rL,aq,au,aK,aL])<;>rfl,by (simp(disch:=first |decide|assumption|omega) only[rM,rW,rL,aq,au,aK,aL])<;>rfl,by (simp(disch:=first |decide|assumption|omega) only[rM,rW,rL,aq,au,aK,aL])<;>rfl⟩,fun a b c1 c2 c3 c4=>⟨by simp(disch:=first |decide|assumption|omega) only[rM,rW,rL,aq,au,aK,aL],by simp(disch:=first |decide|assumption|omega) only[rM,rW,rL,aq,au,aK,aL]⟩,fun h1 n1 hn F=>(((F.new (a:=4) qi qJ _).new (a:=6) qi qJ _).new (a:=5) qi qJ _).set (a:=4) qi (by (simp(disch:=first |decide|assumption|omega) only[rM,rW,rL,aq,au,aK,aL])<;>rfl) _⟩
structure L_(d:Rl→Nat)(C:Rl→Option aj)(lb:Nat)(l:dg)(mk ev:Value)(R:List cK)(rk:Nat)(X:List cK)(xk:Nat)(G:List Int):Prop where
 base:C (70,0)=row [pt lb,pt (d rM),pt (d (75,0)),pt (d (78,0)),pt (d (4,0)),mk,ev,.map (some (d (73,0))),.map (some (d (74,0)))]
 reg:C (74,0)=some (.map (ef .i64 R) rk)
 pool:C (75,0)=row [pt (d rM),pt lb,I6 (l.P.getD 5 0),I6 (l.P.getD 6 0),.map (some (d (76,0))),.slice (some ⟨d (77,0),0,none⟩) G.length G.length]
 out:C (76,0)=some (.map (ef .i64 X) xk)
 Cn:C (77,0)=row (G.map (.int .i64))
 vh:C (78,0)=row [pt (d rM),pt lb]
 vals:∃ v,C (73,0)=some v
theorem UL(m:Nat):rep [Value.int .i64 0] m=(List.replicate m (0:Int)).map (.int .i64):=by rw[iE,List.map_replicate]
theorem PJ{h h1:PT aj}{n n1 lb sz:Nat}{d:Rl→Nat}{C:Rl→Option aj}{W:List Int}{L:List Value}{k:Nat}{l:dg}{V:Int}(S:St h n d C)(F:Fz h1 n1 d C)(M:jm d C W L k)(hl0:(zK (pt lb)).look h1=some l)(hn:qy l V sz)(hW:W.length=sz):
  cE prog OB 47 [pt (d rM),pt lb] h n fun r h' n'=>∃ d' C',r=iU [pt (d' (75,0)),I6 0]∧St h' n' d' C'∧Fz h1 n1 d' C'∧n≤n'∧
   C' (75,0)=row [pt (d' rM),pt lb,I6 (l.P.getD 5 0),I6 (l.P.getD 6 0),.map (some (d' (76,0))),.slice (some ⟨d' (77,0),0,none⟩) l.H.length l.H.length]∧C' (76,0)=some (.map (ef .i64 []) 0)∧C' (77,0)=row ((List.replicate l.H.length (0:Int)).map (.int .i64))∧
   (∀ a b,a≠75→a≠76→a≠77→d' (a,b)=d (a,b)∧C' (a,b)=C (a,b)):=by
 obtain⟨m1,m2,m3,m4⟩:=M;have g0:=S.at m1;have gw:=S.at m2;have n0:=S.lt m1;have nw:=S.lt m2;have l0:=F.lo _ _ qi m1;have lw:=F.lo _ _ qi m2;have K:=F.kept S;have Wf:=F.wf;have hrl:=fun h' hk z f d ops r K m n=>@cw _ _ _ _ h' hl0 z f d ops r K m n hk;have Co:=fun h' hk z L f d ops r K m n lo rd wr fs=>@eT _ _ _ _ h' hl0 z L f d ops r K m n lo rd wr fs hk;have Ia:=fun h' lo hi hk hl=>@kP _ _ _ _ h' _ lo hi hl0 F.wf hk hl;have hlen:=hn.yL.len;have aq_:=hn.sz1;have Hx:=hn.RY;obtain⟨q0,q1,q2,q3,q4,q5,q6,q7,q8,hP⟩:=hn.PL;have hz:=UL l.H.length;have Lb:l.H.length.ble 1048576=true:=Nat.ble_eq_true_of_le qJ;have hg:=dP (W:=W) (i:=sz-1) qJ;have n1n:n1≤n:=by omega
 have hP5:l.P.getD 5 0=q5:=by rw[hP];rfl
 have hP6:l.P.getD 6 0=q6:=by rw[hP];rfl
 rw[hP5,hP6];have Hs:l.P.map (Value.int .i64)=[I6 q0,I6 q1,I6 q2,I6 q3,I6 q4,I6 q5,I6 q6,I6 q7,I6 q8,I6 sz]:=by rw[hP];rfl
 rw[hW] at g0;have hc1:(sz:Int)-1=((sz-1:Nat):Int):=by omega
 have LO:((sz-1:Nat):Int)<(sz:Int):=by omega
 have hc3:(0:Int)≤((sz-1:Nat):Int):=by omega
 have hc4: ¬ (sz:Int)<(sz:Int):=by omega
 generalize W[sz-1]=y at*;clear m1 m2 m3 m4 hP hn hP5 hP6 hl0;refine ay (N:=49) func47 rfl rfl fun z hP hO hro hN hQ=>?_
 repeat' first|simp(disch:=try exact yj) only[go_sem, *,kg,dR] | (apply xs<;>intro _)<;>try omega | ((with_reducible refine b8 10 ?_);refine dw 49 10 afD (by first | (simp only[go_sem, *];done)|rfl) (by kernel_rfl) (by kernel_rfl) ?_)|refine fun (_ _:List Nat)=>?_ | (first|refine bD func114 rfl ?_ ?_ ?_ ?_ |refine bD func69 rfl ?_ ?_ ?_ ?_ |refine bD func178 rfl ?_ ?_ ?_ ?_ |fail)<;>intros
 exact⟨_,_,by simp(disch:=first |decide|assumption|omega) only[rM,rW,rL,aq,au,aK,aL],(((S.xV (Nat.le_refl _) (Nat.lt_succ_self _)).new (76,0) _ (Nat.le_refl _) (Nat.lt_succ_self _)).new (77,0) _ (Nat.le_refl _) (Nat.lt_succ_self _)).new (75,0) _ (Nat.le_refl _) (Nat.lt_succ_self _),((F.new (a:=76) qi qJ _).new (a:=77) qi qJ _).new (a:=75) qi qJ _,by omega,by simp(disch:=first |decide|assumption|omega) only[rM,rW,rL,aq,au,aK,aL],by simp(disch:=first |decide|assumption|omega) only[rM,rW,rL,aq,au,aK,aL];rfl,by simp(disch:=first |decide|assumption|omega) only[rM,rW,rL,aq,au,aK,aL],fun a b c1 c2 c3=>⟨by simp(disch:=first |decide|assumption|omega) only[rM,rW,rL,aq,au,aK,aL],by simp(disch:=first |decide|assumption|omega) only[rM,rW,rL,aq,au,aK,aL]⟩⟩
def Lj:List Nat→Int
 | []=>0
 |a::_=>a
def Lk(W:List Int)(p6:Nat):List Nat→Prop
 | []=>True
 |a::l=>W[p6+a-1]? = some (Lj l)∧Lk W p6 l
def up1{α:Type}(f:Nat→α)(k:Nat)(x:α):Nat→α:=fun j=>if j=k then x else f j
theorem jU{α:Type}{f:Nat→α}{k:Nat}{x:α}:up1 f k x k=x:=if_pos rfl
theorem pM{α:Type}{f:Nat→α}{k j:Nat}{x:α}(h:j≠k):up1 f k x j=f j:=if_neg h
structure Xg(p5 p6 n:Nat)(H:List Int)(W:List Int)(stk:Nat→List Nat)(tag:Nat→Int):Prop where
 h6:p5+6=p6
 sz:p6+n≤W.length
 len:H.length=n
 head:∀ k,k<6→W[p5+k]? = some (Lj (stk k)+65536*tag k)
 tag:∀ k,k<6→0≤tag k∧tag k<1099511627776
 link:∀ k,k<6→Lk W p6 (stk k)
 mem:∀ k t,k<6→t∈stk k→1≤t∧t≤n∧H.getD (t-1) 0=(k:Int)+1
 nd:∀ k,k<6→(stk k).Nodup
theorem Lk.of{W W':List Int}{p6:Nat}:∀ {l:List Nat},Lk W p6 l→(∀ t∈l,W'[p6+t-1]? = W[p6+t-1]?)→Lk W' p6 l
 | [],_,_=>trivial
 |a::l,⟨h1,h2⟩,e=>⟨by rw[e a (by simp)];exact h1,h2.of fun t ht=>e t (by simp[ht])⟩
section
variable {p5 p6 n:Nat} {H W:List Int} {stk:Nat→List Nat} {tag:Nat→Int}
theorem Xg.take(P:Xg p5 p6 n H W stk tag){k a:Nat}{l:List Nat}(hk:k<6)(e:stk k=a::l){g:Int}(hg:0≤g∧g<1099511627776):
  Xg p5 p6 n H (W.set (p5+k) (Lj l+65536*g)) (up1 stk k l) (up1 tag k g):=by
 obtain⟨h6,sz,len,head,tg,link,mem,nd⟩:=P;have hl:=link k hk;rw[e] at hl;refine⟨h6,by rw[List.length_set];exact sz,len,fun j hj=>?_,fun j hj=>?_,fun j hj=>?_,fun j t hj ht=>?_,fun j hj=>?_⟩
 ·by_cases c:j=k
  ·subst c;rw[jU,jU,List.getElem?_set_self qJ]
  ·rw[pM c,pM c,List.getElem?_set_ne qJ];exact head j hj
 ·by_cases c:j=k
  ·subst c;rw[jU];exact hg
  ·rw[pM c];exact tg j hj
 ·have hs:∀ t,1≤t→(W.set (p5+k) (Lj l+65536*g))[p6+t-1]? = W[p6+t-1]? := fun t ht=>List.getElem?_set_ne qJ;by_cases c:j=k
  ·subst c;rw[jU];exact hl.2.of fun t ht=>hs t (mem j t hj (by rw[e];simp[ht])).1
  ·rw[pM c];exact(link j hj).of fun t ht=>hs t (mem j t hj ht).1
 ·by_cases c:j=k
  ·subst c;rw[jU] at ht;exact mem j t hj (by rw[e];simp[ht])
  ·rw[pM c] at ht;exact mem j t hj ht
 ·by_cases c:j=k
  ·subst c;rw[jU];have:=nd j hj;rw[e] at this;exact(List.nodup_cons.1 this).2
  ·rw[pM c];exact nd j hj
end
def sX:List Int→Int→Nat→List Nat
 | [],_,_=>[]
 |x::xs,h,b=>if x=h then b::sX xs h (b+1) else sX xs h (b+1)
theorem Cp:∀ (L:List Int) (h:Int) (b:Nat),fs L h b=Lj (sX L h b)
 | [],_,_=>rfl
 |x::xs,h,b=>by
  rw[fs,sX];by_cases c:x=h
  ·rw[if_pos c,if_pos c];rfl
  ·rw[if_neg c,if_neg c,←Cp xs h (b+1)];rfl
theorem yQ:∀ (L:List Int) (h:Int) (b t:Nat),t∈sX L h b→b≤t∧t<b+L.length∧L.getD (t-b) 0=h
 | [],_,_,_,ht=>by simp[sX] at ht
 |x::xs,h,b,t,ht=>by
  rw[sX] at ht;have key:t∈sX xs h (b+1)→b≤t∧t<b+(x::xs).length∧(x::xs).getD (t-b) 0=h:=fun q=>by
   obtain⟨q1,q2,q3⟩:=yQ xs h (b+1) t q;refine⟨by omega,by rw[List.length_cons];omega,?_⟩;rw[show t-b=(t-(b+1))+1 by omega,List.getD_cons_succ];exact q3
  by_cases c:x=h
  ·rw[if_pos c] at ht
   rcases List.mem_cons.1 ht with rfl |ht
   ·exact⟨Nat.le_refl _,by rw[List.length_cons];omega,by rw[Nat.sub_self];exact c⟩
   ·exact key ht
  ·rw[if_neg c] at ht;exact key ht
theorem rG:∀ (L:List Int) (h:Int) (b:Nat),(sX L h b).Nodup
 | [],_,_=>List.nodup_nil
 |x::xs,h,b=>by
  rw[sX];split
  ·exact List.nodup_cons.2 ⟨fun q=>by have:=(yQ _ _ _ _ q).1;omega,rG xs h (b+1)⟩
  ·exact rG xs h (b+1)
theorem EB{p5 p6 sz k:Nat}{H:List Int}(hk:k<sz):(jR p5 p6 sz H 0)[k]? = some (qK p5 p6 H 0 k):=by
 unfold jR;rw[List.getElem?_map,List.getElem?_range hk];rfl
theorem Xh{p5 p6 sz:Nat}{H:List Int}{h:Int}(h6:p5+6=p6)(hs:p6+H.length≤sz):∀ (m j:Nat),j+m=H.length→Lk (jR p5 p6 sz H 0) p6 (sX (H.drop j) h (j+1))
 |0,j,hj=>by rw[List.drop_eq_nil_of_le qJ];trivial
 |m+1,j,hj=>by
  have ih:=Xh h6 hs (h:=h) m (j+1) qJ;have hlt:j<H.length:=by omega
  rw[List.drop_eq_getElem_cons hlt,sX];by_cases c:H[j]=h
  ·rw[if_pos c];refine⟨?_,ih⟩;rw[EB qJ];unfold qK;have hg:H.getD (p6+(j+1)-1-p6) 0=h:=by rw[show p6+(j+1)-1-p6=j by omega];simp[List.getD,hlt,c]
   rw[if_pos qJ,hg,←Cp];rw[show p6+(j+1)-1-p6=j by omega];rfl
  ·rw[if_neg c];exact ih
theorem Xg.init{p5 p6 sz n:Nat}{H:List Int}(h6:p5+6=p6)(hs:p6+H.length≤sz)(hn:H.length=n):Xg p5 p6 n H (jR p5 p6 sz H 0) (fun k=>sX H ((k:Int)+1) 1) (fun _=>0):=by
 refine⟨h6,by rw[jS];omega,hn,fun k hk=>?_,fun k hk=>by omega,fun k hk=>?_,fun k t hk ht=>?_,fun k hk=>rG _ _ _⟩
 ·rw[EB qJ];unfold qK;rw[if_neg qJ,if_pos qJ,show p5+k-p5=k by omega,List.drop_zero];rw[show ((0:Nat):Int)+1=((1:Nat):Int) from rfl,Cp];simp
 ·have:=Xh (h:=(k:Int)+1) h6 hs H.length 0 qJ
  rwa [List.drop_zero] at this
 ·obtain⟨q1,q2,q3⟩:=yQ _ _ _ _ ht;exact⟨q1,by omega,q3⟩
end Go.Proofs.YtofmbmclopgldaaGreat
namespace Go.Proofs.YtofmbmclopgldaaGreat
open Go.Am Go.Proofs.Tryz
theorem UM{h h1:PT aj}{n n1 lb sz:Nat}{d:Rl→Nat}{C:Rl→Option aj}{W:List Int}{L:List Value}{k:Nat}{l:dg}{V:Int}(S:St h n d C)(F:Fz h1 n1 d C)(M:jm d C W L k)(hl0:(zK (pt lb)).look h1=some l)(hn:qy l V sz)(hW:W.length=sz):
  cE prog OB 48 [pt (d rM),pt lb] h n fun r h' n'=>∃ p,n≤p∧p<n'∧r=iU [pt p,I6 0]∧St h' n' (upd d (78,0) p) (upd C (78,0) (row [pt (d rM),pt lb])):=by
 obtain⟨m1,m2,m3,m4⟩:=M;have g0:=S.at m1;have gw:=S.at m2;have n0:=S.lt m1;have nw:=S.lt m2;have K:=F.kept S;have Wf:=F.wf;have hrl:=fun h' hk z f d ops r K m n=>@cw _ _ _ _ h' hl0 z f d ops r K m n hk;have aq_:=hn.sz1;have Hx:=hn.RY;obtain⟨q0,q1,q2,q3,q4,q5,q6,q7,q8,hP⟩:=hn.PL;have Hs:l.P.map (Value.int .i64)=[I6 q0,I6 q1,I6 q2,I6 q3,I6 q4,I6 q5,I6 q6,I6 q7,I6 q8,I6 sz]:=by rw[hP];rfl
 have hw:=ZP (O:=OB) rfl (d rM) (d rW) W.length (wB (d rL) k) W h n S.wf g0 gw qJ;rw[hW] at hw g0;have WfS:=S.wf;clear m1 m2 m3 m4 hP hn hl0;refine ay (N:=23) func48 rfl rfl fun z hP hO hro hN hQ=>?_
 repeat' first|simp(disch:=try exact yj) only[go_sem, *] | (apply xs<;>intro _)<;>try omega
 refine jg (hw) ?_;rintro r h2 n2 ⟨rfl,rfl,q2,q3,q4⟩;have K2:=K.trans q3;have S2:=S.kept q3 q4
 repeat' first|simp(disch:=try exact yj) only[go_sem, *,kg] | (apply xs<;>intro _)<;>try omega
 exact⟨_,by omega,by omega,rfl,S2.new (78,0) _ (Nat.le_refl _) (Nat.lt_succ_self _)⟩
theorem OBc(a:List Value):OB 109 a=none:=rfl
def PK(en:Int)(d:Rl→Nat)(C:Rl→Option aj)(base:Int)(n:Nat):Prop:=
 (en=1∧afw d C base n (List.replicate n 0) (List.replicate n false))∨(en=2∧afy d C base n (List.replicate n (0,false)))∨(en=3∧∃ nb:Nat,afz d C base nb n [] 0)
theorem PK.put{en base:Int}{d:Rl→Nat}{C:Rl→Option aj}{n a b:Nat}{X:Option aj}(E:PK en d C base n)(ha:7<a):PK en d (upd C (a,b) X) base n:=by
 have q:∀ c,c<8→upd C (a,b) X (c,0)=C (c,0):=fun c hc=>au qJ
 rcases E with ⟨e,e1,e2,e3,e4,e5,e6⟩ | ⟨e,e1,e2,e3,e4,e5⟩ | ⟨e,nb,e1,e2,e3⟩
 ·exact .inl ⟨e,(q 4 qJ).trans e1,(q 5 qJ).trans e2,(q 6 qJ).trans e3,(q 7 qJ).trans e4,e5,e6⟩
 ·exact .inr (.inl ⟨e,(q 4 qJ).trans e1,(q 5 qJ).trans e2,(q 6 qJ).trans e3,(q 7 qJ).trans e4,e5⟩)
 ·exact .inr (.inr ⟨e,nb,(q 4 qJ).trans e1,(q 5 qJ).trans e2,(q 6 qJ).trans e3⟩)
theorem PN{h h1:PT aj}{n1 nn:Nat}{d:Rl→Nat}{C:Rl→Option aj}{W:List Int}{L:List Value}{k:Nat}{en ba sl bu:Int}(S:St h nn d C)(F:Fz h1 n1 d C)(hn:n1≤nn)(M:jm d C W L k)(he:1≤en∧en≤3)(hs:1≤sl∧sl≤64)(hb:if en=3 then 1≤bu∧bu≤16 else bu=0)(h0:0≤ba)(hW:ba+bH en sl bu≤W.length)(rQ:W.length≤65536):
  cE prog OB 49 [pt (d rM),U8 en,I6 ba,I6 sl,I6 bu] h nn fun r h' n'=>∃ d' C',r=iU [pt (d' (4,0)),I6 0]∧St h' n' d' C'∧PK en d' C' ba sl.toNat∧(∀ a b,a≠4→a≠5→a≠6→a≠7→d' (a,b)=d (a,b)∧C' (a,b)=C (a,b))∧Fz h1 n1 d' C':=by
 obtain⟨b0,rfl⟩:=Int.eq_ofNat_of_zero_le h0;obtain⟨s0,rfl⟩:=Int.eq_ofNat_of_zero_le (show 0≤sl by omega);unfold bH at hW;have c:en=1∨en=2∨en=3:=by omega
 rcases c with rfl|rfl|rfl
 ·rw[if_neg qi] at hb;subst hb;refine(afA S M ⟨by omega,by omega⟩ (ba:=b0) (ns:=s0) (by simp at hW;omega) rQ).mono ?_;rintro r h' n' ⟨d',C',q1,q2,q3,q4,q5⟩;exact⟨d',C',q1,q2,.inl ⟨rfl,by simpa using q3⟩,q4,q5 _ _ hn F⟩
 ·rw[if_neg qi] at hb;subst hb;refine(afB S M ⟨by omega,by omega⟩ (ba:=b0) (ns:=s0) (by simp at hW;omega) rQ).mono ?_;rintro r h' n' ⟨d',C',q1,q2,q3,q4,q5⟩;exact⟨d',C',q1,q2,.inr (.inl ⟨rfl,by simpa using q3⟩),q4,q5 _ _ hn F⟩
 ·rw[if_pos rfl] at hb;obtain⟨u0,rfl⟩:=Int.eq_ofNat_of_zero_le (show 0≤bu by omega);refine(afC S M ⟨by omega,by omega⟩ ⟨by omega,by omega⟩ (ba:=b0) (ns:=s0) (nb:=u0) (by simp at hW;omega) rQ).mono ?_;rintro r h' n' ⟨d',C',q1,q2,q3,q4,q5⟩;exact⟨d',C',q1,q2,.inr (.inr ⟨rfl,u0,by simpa using q3⟩),q4,q5 _ _ hn F⟩
theorem EC{th sl en bu kd dn t0 t1 t2 t3 t4 t5 lo tr ba:Int}{xs:List Int}(h:gq th sl en bu kd dn t0 t1 t2 t3 t4 t5 lo tr ba xs=true):if en=3 then 1≤bu∧bu≤16 else bu=0:=by
 simp only[gq,Bool.and_eq_true,Bool.not_eq_true',Bool.or_eq_false_iff,decide_eq_true_eq,decide_eq_false_iff_not] at h;obtain⟨⟨⟨⟨⟨⟨⟨⟨⟨⟨⟨⟨⟨⟨a0,a1⟩,a2⟩,a3⟩,a4⟩,a5⟩,a6⟩,a7⟩,a8⟩,a9⟩,vJ⟩,wu⟩,zu⟩,zH⟩,zI⟩:=h;split<;>rename_i c<;>simp_all
structure afF(sl en:Int)(h1:PT aj)(n1:Nat)(d:Rl→Nat)(C:Rl→Option aj)(lb:Nat)(l:dg):Prop where
 fz:Fz h1 n1 d C
 mem:jm d C (pK l) [] 0
 obj:L_ d C lb l (.slice none 0 0) (.slice none 0 0) [] 0 [] 0 (List.replicate l.H.length 0)
 vals:C (73,0)=some (.map (ef .i64 []) 0)
 eng:PK en d C (l.P.getD 1 0) sl.toNat
theorem aq'(th sl en bu kd dn t0 t1 t2 t3 t4 t5 lo tr ba:Int)(s:Value)(xs:List Int)(h:PT aj)(N:Nat)(hW:bQ h N)(hs:aN .u64 h s xs)(hl:xs.length<1000000000000000):
  cE prog OB 9 [.agg ⟨[I6 th,I6 sl,U8 en,I6 bu,U8 kd,I6 dn,s,I6 t0,I6 t1,I6 t2,I6 t3,I6 t4,I6 t5,I6 lo,I6 tr,I6 ba]⟩] h N
   fun v h' n'=>(gq th sl en bu kd dn t0 t1 t2 t3 t4 t5 lo tr ba xs=false∧v=iU [.pointer none,I6 2]∧Kept h h'∧bQ h' n')∨
    (∃ h1 n1 lb l gb cv sz d C,v=iU [pt (d (70,0)),I6 0]∧Kept h h1∧N≤n1∧Hv th sl en bu kd dn t0 t1 t2 t3 t4 t5 lo tr ba xs h1 lb l gb cv∧qy l (aC kd dn xs) sz∧St h' n' d C∧afF sl en h1 n1 d C lb l):=by
 refine ay (N:=94) func9 rfl rfl fun z hP hO hro hN hQ=>?_
 repeat' first|simp(disch:=try exact yj) only[go_sem, *] | (apply xs<;>intro _)<;>try omega
 generalize Hy:h.set N _=h1;have e1:h1.get N=row [I6 th,I6 sl,U8 en,I6 bu,U8 kd,I6 dn,s,I6 t0,I6 t1,I6 t2,I6 t3,I6 t4,I6 t5,I6 lo,I6 tr,I6 ba]:=by rw[←Hy];exact aI
 have hW1:bQ h1 (N+1):=by rw[←Hy];exact hW.set qJ qJ
 have k1:Kept h h1:=by rw[←Hy];exact hW.kept (Nat.le_refl _)
 clear Hy;refine jg ((Uy (O:=OB) rfl rfl rfl rfl OBc th sl en bu kd dn t0 t1 t2 t3 t4 t5 lo tr ba _ xs _ _ hW1 (hs.keep k1) hl).wf hW1) ?_;rintro v h2 n2 ⟨⟨c1,rfl,k2⟩ | ⟨lb,l,gb,cv,rfl,k2,hlb,hL⟩,hn2,Fx⟩
 ·have k02:=k1.trans k2
  repeat' first|simp(disch:=try exact yj) only[go_sem, *] | (apply xs<;>intro _)<;>try omega
  all_goals done
 have e2:=k2 N _ e1;have k02:=k1.trans k2;obtain⟨sz,hn⟩:=PD hL;have aFD:@decide (Jb l) (Classical.propDecidable _)=true:=@decide_eq_true _ (Classical.propDecidable _) hn.yL;have hl0:=hL.look;have S0:=St.all Fx;have F0:=Fz.all Fx;have hrl:=fun h' hk z f d ops r K m n=>@cw _ _ _ _ h' hl0 z f d ops r K m n hk;have Co:=fun h' hk z L f d ops r K m n lo rd wr fs=>@eT _ _ _ _ h' hl0 z L f d ops r K m n lo rd wr fs hk;have Ia:=fun h' lo hi hk hl=>@kP _ _ _ _ h' _ lo hi hl0 Fx hk hl;have hp9:(l.P.getD 9 0).toNat=sz:=by rw[hn.p9];omega
 have rQ:(pK l).length=sz:=by unfold pK;rw[jS];exact hp9
 have hz1:=hn.sz1;have hz2:=hn.RY
 repeat' first|simp(disch:=try exact yj) only[go_sem, *,UD] | (apply xs<;>intro _)<;>try omega
 obtain⟨d3,C3,S3,F3,c1,c2,c3,c4,c5,c6⟩:∃ d C,St ((((h2.set n2 (some (.map [] 0))).set (n2+1) (some (.map [] 0))).set (n2+1+1) (row [pt lb,.pointer none,.pointer none,.pointer none,.pointer none,.slice none 0 0,.slice none 0 0,.map (some n2),.map (some (n2+1))])).set (n2+1+1+1) (row ((pK l).map (.int .u64)))) (n2+1+1+1+1) d C∧
   Fz h2 n2 d C∧d (73,0)=n2∧d (74,0)=n2+1∧d (70,0)=n2+1+1∧C (73,0)=some (.map [] 0)∧C (74,0)=some (.map [] 0)∧C (70,0)=row [pt lb,.pointer none,.pointer none,.pointer none,.pointer none,.slice none 0 0,.slice none 0 0,.map (some n2),.map (some (n2+1))]:=
  ⟨_,_,(((S0.new (73,0) _ (Nat.le_refl _) (Nat.lt_succ_self _)).new (74,0) _ (Nat.le_refl _) (Nat.lt_succ_self _)).new (70,0) _ (Nat.le_refl _) (Nat.lt_succ_self _)).junk (Nat.le_refl _) (Nat.lt_succ_self _),((F0.new (a:=73) (b:=0) qi (Nat.le_refl _) _).new (a:=74) (b:=0) qi qJ _).new (a:=70) (b:=0) qi qJ _,by simp(disch:=first |decide|assumption|omega) only[rM,rW,rL,aq,au,aK,aL],by simp(disch:=first |decide|assumption|omega) only[rM,rW,rL,aq,au,aK,aL],by simp(disch:=first |decide|assumption|omega) only[rM,rW,rL,aq,au,aK,aL],by simp(disch:=first |decide|assumption|omega) only[rM,rW,rL,aq,au,aK,aL],by simp(disch:=first |decide|assumption|omega) only[rM,rW,rL,aq,au,aK,aL],by simp(disch:=first |decide|assumption|omega) only[rM,rW,rL,aq,au,aK,aL]⟩
 generalize L8:(((h2.set _ _).set _ _).set _ _).set _ _=h3 at S3 ⊢;have eW:h3.get (n2+1+1+1)=row ((pK l).map (.int .u64)):=by rw[←L8];exact aI
 have mn:=UK (W:=pK l) (cap:=sz) S3 F3 qJ eW qJ qJ;rw[rQ] at mn;clear L8 S0 F0;refine jg (mn.wf S3.wf) ?_;rintro v h4 n4 ⟨⟨d4,C4,rfl,hn4,k4,S4,F4,M4,ZQ⟩,-,-⟩;have f70:=ZQ 70 0 qJ;have f73:=ZQ 73 0 qJ;have f74:=ZQ 74 0 qJ;rw[c3,c6] at f70;rw[c1,c4] at f73;rw[c2,c5] at f74;have FA:=S4.at f70.2;rw[f70.1] at FA;have K4:=F4.kept S4;have e4:=K4 _ _ e2;clear mn eW c1 c2 c3 c4 c5 c6 S3 F3 ZQ e1
 repeat' first|simp(disch:=try exact yj) only[go_sem, *] | (apply xs<;>intro _)<;>try omega
 have S5:=S4.set (70,0) (.cells (PT.ofList .leaf 0 [pt lb,pt (d4 rM),.pointer none,.pointer none,.pointer none,.slice none 0 0,.slice none 0 0,.map (some n2),.map (some (n2+1))]) false) f70.2 f70.1;have F5:=F4.set (a:=70) qi f70.2 (row [pt lb,pt (d4 rM),.pointer none,.pointer none,.pointer none,.slice none 0 0,.slice none 0 0,.map (some n2),.map (some (n2+1))]);have M5:=M4.of (d':=d4) (C':=upd C4 (70,0) (row [pt lb,pt (d4 rM),.pointer none,.pointer none,.pointer none,.slice none 0 0,.slice none 0 0,.map (some n2),.map (some (n2+1))])) fun a ha=>⟨rfl,by rw[au qJ]⟩;refine jg ((PJ S5 F5 M5 hl0 hn rQ).wf S5.wf) ?_;rintro v h6 n6 ⟨⟨d6,C6,rfl,S6,F6,hn6,p1,p2,p3,fr6⟩,-,-⟩;have fM:=fr6 0 0 qJ qJ qJ;have ED:=fr6 70 0 qJ qJ qJ;have ZR:=fr6 73 0 qJ qJ qJ;have ZS:=fr6 74 0 qJ qJ qJ;rw[f70.1,aq] at ED;rw[f73.1,au qi,f73.2] at ZR;rw[f74.1,au qi,f74.2] at ZS;have M6:=M5.of (d':=d6) (C':=C6) fun a ha=>fr6 a 0 qJ qJ qJ;have afG:=S6.at ED.2;rw[ED.1] at afG;have K6:=F6.kept S6;have e6:=K6 _ _ e2;clear S4 F4 M4 S5 F5 M5 fr6 FA f70 f73 f74 K4 e4
 repeat' first|simp(disch:=try exact yj) only[go_sem, *] | (apply xs<;>intro _)<;>try omega
 have S7:=S6.set (70,0) (.cells (PT.ofList .leaf 0 [pt lb,pt (d4 rM),pt (d6 (75,0)),.pointer none,.pointer none,.slice none 0 0,.slice none 0 0,.map (some n2),.map (some (n2+1))]) false) ED.2 ED.1;have F7:=F6.set (a:=70) qi ED.2 (row [pt lb,pt (d4 rM),pt (d6 (75,0)),.pointer none,.pointer none,.slice none 0 0,.slice none 0 0,.map (some n2),.map (some (n2+1))]);have M7:=M6.of (d':=d6) (C':=upd C6 (70,0) (row [pt lb,pt (d4 rM),pt (d6 (75,0)),.pointer none,.pointer none,.slice none 0 0,.slice none 0 0,.map (some n2),.map (some (n2+1))])) fun a ha=>⟨rfl,by rw[au qJ]⟩;have tn:=(UM S7 F7 M7 hl0 hn rQ).wf S7.wf;rw[show d6 rM=d4 rM from fM.1] at tn;refine jg (tn) ?_;rintro v h8 n8 ⟨⟨tb,htb,aFF,rfl,S8⟩,hn8,-⟩;have F8:=F7.new (a:=78) (b:=0) (i:=tb) qi qJ (row [pt (d4 rM),pt lb]);have EE:upd d6 (78,0) tb (70,0)=n2+1+1∧upd (upd C6 (70,0) (row [pt lb,pt (d4 rM),pt (d6 (75,0)),.pointer none,.pointer none,.slice none 0 0,.slice none 0 0,.map (some n2),.map (some (n2+1))])) (78,0) (row [pt (d4 rM),pt lb]) (70,0)=row [pt lb,pt (d4 rM),pt (d6 (75,0)),.pointer none,.pointer none,.slice none 0 0,.slice none 0 0,.map (some n2),.map (some (n2+1))]:=⟨by rw[au qi];exact ED.1,by rw[au qi,aq]⟩;have afH:=S8.at EE.2;rw[EE.1] at afH;have K8:=F8.kept S8;have e8:=K8 _ _ e2;have M8:=M7.of (d':=upd d6 (78,0) tb) (C':=upd (upd C6 (70,0) (row [pt lb,pt (d4 rM),pt (d6 (75,0)),.pointer none,.pointer none,.slice none 0 0,.slice none 0 0,.map (some n2),.map (some (n2+1))])) (78,0) (row [pt (d4 rM),pt lb])) fun a ha=>⟨au qJ,au qJ⟩;obtain⟨q0,q1,q2,q3,q4,q5,q6,q7,q8,hP⟩:=hn.PL;have Hs:l.P.map (Value.int .i64)=[I6 q0,I6 q1,I6 q2,I6 q3,I6 q4,I6 q5,I6 q6,I6 q7,I6 q8,I6 sz]:=by rw[hP];rfl
 have hP1:l.P.getD 1 0=q1:=by rw[hP];rfl
 clear S6 F6 M6 S7 F7 M7 tn afG K6 e6;have mM:=cr hL.ok;have RZ:=EC hL.ok;have Xi:=gJ (en:=en) mM.2.2.1.1 mM.2.2.1.2 mM.2.2.2.1.1 mM.2.2.2.1.2;have hlo:=mM.2.2.2.2.1;have hq1:0≤q1∧q1+bH en sl bu≤sz:=by
  have hq1:q1=0+sl*1:=by rw[←hP1,hL.P];simp only[placesOf,List.getD_cons_succ,List.getD_cons_zero]
  have hq6:l.P.getD 6 0=0+sl*1+1*bH en sl bu+1+lo*3+lo*1+6:=by rw[hL.P];simp only[placesOf,List.getD_cons_succ,List.getD_cons_zero]
  have hq9:=hn.yL.p9;have aFG:=hn.p9;omega
 repeat' first|simp(disch:=try exact yj) only[go_sem, *,kg] | (apply xs<;>intro _)<;>try omega | ((with_reducible refine b8 14 ?_);refine dw 94 14 aoz (by first | (simp only[go_sem, *];done)|rfl) (by kernel_rfl) (by kernel_rfl) ?_)
 have S9:=S8.set (70,0) (.cells (PT.ofList .leaf 0 [pt lb,pt (d4 rM),pt (d6 (75,0)),pt tb,.pointer none,.slice none 0 0,.slice none 0 0,.map (some n2),.map (some (n2+1))]) false) EE.2 EE.1;have F9:=F8.set (a:=70) qi EE.2 (row [pt lb,pt (d4 rM),pt (d6 (75,0)),pt tb,.pointer none,.slice none 0 0,.slice none 0 0,.map (some n2),.map (some (n2+1))]);have M9:=M8.of (d':=upd d6 (78,0) tb) (C':=upd _ (70,0) (row [pt lb,pt (d4 rM),pt (d6 (75,0)),pt tb,.pointer none,.slice none 0 0,.slice none 0 0,.map (some n2),.map (some (n2+1))])) fun a ha=>⟨rfl,au qJ⟩;have pn:=(PN S9 F9 qJ M9 mM.2.1 mM.2.2.1 RZ hq1.1 (by rw[rQ];exact hq1.2) qJ).wf S9.wf;rw[show upd d6 (78,0) tb rM=d4 rM from (au qi).trans fM.1] at pn;refine jg (pn) ?_;rintro v h10 n10 ⟨⟨d10,C10,rfl,S10,E10,UN,F10⟩,aFJ,-⟩;intro rd wr;have fr:∀ a,67<a→d10 (a,0)=upd d6 (78,0) tb (a,0)∧C10 (a,0)=upd (upd (upd C6 (70,0) (row [pt lb,pt (d4 rM),pt (d6 (75,0)),.pointer none,.pointer none,.slice none 0 0,.slice none 0 0,.map (some n2),.map (some (n2+1))])) (78,0) (row [pt (d4 rM),pt lb])) (70,0) (row [pt lb,pt (d4 rM),pt (d6 (75,0)),pt tb,.pointer none,.slice none 0 0,.slice none 0 0,.map (some n2),.map (some (n2+1))]) (a,0):=fun a ha=>UN a 0 qJ qJ qJ qJ;have ZT:=fr 70 qJ;have x73:=fr 73 qJ;have x74:=fr 74 qJ;have UO:=fr 75 qJ;have x76:=fr 76 qJ;have x77:=fr 77 qJ;have x78:=fr 78 qJ;rw[au qi,ED.1,aq] at ZT;rw[au qi,ZR.1,au qi,au qi,au qi,ZR.2] at x73;rw[au qi,ZS.1,au qi,au qi,au qi,ZS.2] at x74;rw[au qi,au qi,au qi,au qi,p1] at UO;rw[au qi,au qi,au qi,au qi,p2] at x76;rw[au qi,au qi,au qi,au qi,p3] at x77;rw[aq,au qi,aq] at x78;have xM:=UN 0 0 qJ qJ qJ qJ;have dM:d10 rM=d4 rM:=xM.1.trans ((au qi).trans fM.1);have M10:=M9.of (d':=d10) (C':=C10) fun a ha=>UN a 0 qJ qJ qJ qJ;have g10:=S10.at ZT.2;rw[ZT.1] at g10;have K10:=F10.kept S10;have hmt:∀ h',Kept h2 h'→meets ((zK (pt lb)).ids h' []) [n2+1+1]=false:=fun h' hk=>G2 hl0 Fx hk (by simp only[List.all_cons,List.all_nil,Bool.and_true];exact decide_eq_true qJ);have hNn:N<n2:=Fx.lt e2;clear UN fr S9 F9 M9 S8 F8 M8 pn e8 K8
 repeat' first|simp(disch:=try exact yj) only[go_sem, *,kg] | (apply xs<;>intro _)<;>try omega
 refine .inr ⟨h2,n2,lb,l,gb,cv,sz,d10,_,by rw[ZT.1],k02,by omega,hL,hn,S10.set (70,0) _ ZT.2 ZT.1,F10.set (a:=70) qi ZT.2 _,M10.of fun a ha=>⟨rfl,au qJ⟩,⟨?_,?_,?_,?_,?_,?_,?_⟩,?_,?_⟩
 ·rw[aq,dM,UO.1,x78.1,x73.1,x74.1]
 ·rw[au qi,x74.2];rfl
 ·rw[au qi,UO.2,dM,x76.1,x77.1,List.length_replicate,show d6 rM=d4 rM from fM.1]
 ·rw[au qi,x76.2]
 ·rw[au qi,x77.2]
 ·rw[au qi,x78.2,dM]
 ·exact⟨_,by rw[au qi,x73.2]⟩
 ·rw[au qi,x73.2];rfl
 ·rw[hP1];exact E10.put qJ
end Go.Proofs.YtofmbmclopgldaaGreat
