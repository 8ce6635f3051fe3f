/-
  A part of the proof: contracts of inner functions.
-/
import Derived.Test.YtbceiadaihphaaaGreatPT
import Derived.Test.YtbceiadaihphaaaGreatAmV3
set_option linter.unusedVariables false
set_option linter.unusedSimpArgs false
namespace Go.Proofs.YtbceiadaihphaaaGreat
open Go.Am
def YF (a:Addr) (B:aj):AP aJ:=AP.bind (match B with
    | .cells c _=>match fA c a with |some n => .pure (.int .u64 n) |none => .fail "atomic"
    | _ => .fail "atomic") fun v => .pure (.value v)
def YG (a:Addr) (v:Int) (B:aj):AP aJ:=AP.bind (match B with
    | .cells c false=>match fA c a with |some _ => .set a.block (.cells (c.set a.off (some (.int .u64 v))) false) (.pure (.tuple ⟨[]⟩)) |none => .fail "atomic"
    | _ => .fail "atomic") fun v => .pure (.value v)
def YH (a:Addr) (v:Int) (B:aj):AP aJ:=AP.bind (match B with
    | .cells c false=>match fA c a with |some n => .set a.block (.cells (c.set a.off (some (.int .u64 v))) false) (.pure (.int .u64 n)) |none => .fail "atomic"
    | _ => .fail "atomic") fun v => .pure (.value v)
@[go_sem] theorem Rh {b off:Nat} {sp:Option Nat}:aq Tryz.prog 98 [.pointer (some ⟨b,off,sp⟩)] = .get b (YF ⟨b,off,sp⟩):=by kernel_rfl
@[go_sem] theorem OB {b off:Nat} {sp:Option Nat} {v:Int}:aq Tryz.prog 78 [.pointer (some ⟨b,off,sp⟩),.int .u64 v] = .get b (YG ⟨b,off,sp⟩ v):=by kernel_rfl
@[go_sem] theorem Ri {b off:Nat} {sp:Option Nat} {v:Int}:aq Tryz.prog 147 [.pointer (some ⟨b,off,sp⟩),.int .u64 v] = .get b (YH ⟨b,off,sp⟩ v):=by kernel_rfl
def Rj:Option Value→AP aJ
 |some (.int .u64 n) => .pure (.value (.int .u64 n))
 | _ => .fail "atomic"
def LN (b off:Nat) (v:Int) (L:List Value):Option Value→AP aJ
 |some (.int .u64 _) => .set b (.cells (PT.ofList .leaf 0 (L.set off (.int .u64 v))) false) (.pure (.value (.tuple ⟨[]⟩)))
 | _ => .fail "atomic"
def LO (b off:Nat) (v:Int) (L:List Value):Option Value→AP aJ
 |some (.int .u64 n) => .set b (.cells (PT.ofList .leaf 0 (L.set off (.int .u64 v))) false) (.pure (.value (.int .u64 n)))
 | _ => .fail "atomic"
@[go_sem] theorem OC {n:Int}:Rj (some (.int .u64 n)) = .pure (.value (.int .u64 n)):=rfl
@[go_sem] theorem OD {b off:Nat} {v n:Int} {L:List Value}:LN b off v L (some (.int .u64 n)) = .set b (.cells (PT.ofList .leaf 0 (L.set off (.int .u64 v))) false) (.pure (.value (.tuple ⟨[]⟩))):=rfl
@[go_sem] theorem OE {b off:Nat} {v n:Int} {L:List Value}:LO b off v L (some (.int .u64 n)) = .set b (.cells (PT.ofList .leaf 0 (L.set off (.int .u64 v))) false) (.pure (.value (.int .u64 n))):=rfl
theorem iY {L:List Value} {b off:Nat} {sp:Option Nat}:fA (PT.ofList .leaf 0 L) ⟨b,off,sp⟩=match L[off]? with |some (.int .u64 n)=>some n | _=>none:=by
 unfold fA
 rw[PT.bf]
 rfl
@[go_sem] theorem VO {L:List Value} {ro:Bool} {b off:Nat} {sp:Option Nat}:YF ⟨b,off,sp⟩ (.cells (PT.ofList .leaf 0 L) ro)=Rj L[off]? := by
 simp only[YF,iY]
 cases L[off]? with
 |none=>rfl
 |some v=>cases v with
  |int k n=>cases k<;>rfl
  | _=>rfl
@[go_sem] theorem VP {L:List Value} {v:Int} {b off:Nat} {sp:Option Nat}:YG ⟨b,off,sp⟩ v (.cells (PT.ofList .leaf 0 L) false)=LN b off v L L[off]? := by
 simp only[YG,iY]
 cases e:L[off]? with
 |none=>rfl
 |some u=>
  have hl:=(List.getElem?_eq_some_iff.1 e).1
  cases u with
  |int k n=>
   cases k with
   |u64=>simp only[AP.bind,LN,mJ _ _ _ hl]
   | _=>rfl
  | _=>rfl
@[go_sem] theorem VQ {L:List Value} {v:Int} {b off:Nat} {sp:Option Nat}:YH ⟨b,off,sp⟩ v (.cells (PT.ofList .leaf 0 L) false)=LO b off v L L[off]? := by
 simp only[YH,iY]
 cases e:L[off]? with
 |none=>rfl
 |some u=>
  have hl:=(List.getElem?_eq_some_iff.1 e).1
  cases u with
  |int k n=>
   cases k with
   |u64=>simp only[AP.bind,LO,mJ _ _ _ hl]
   | _=>rfl
  | _=>rfl
def YI (a:Addr) (v:Int) (B:aj):AP aJ:=AP.bind (match B with
    | .cells c false=>match fA c a with |some n => .set a.block (.cells (c.set a.off (some (.int .u64 (IntKind.u64.wrap (n+v))))) false) (.pure (.int .u64 (IntKind.u64.wrap (n+v)))) |none => .fail "atomic"
    | _ => .fail "atomic") fun v => .pure (.value v)
def YJ (a:Addr) (o v:Int) (B:aj):AP aJ:=AP.bind (match B with
    | .cells c false=>match fA c a with |some n=>cond (n==o) (.set a.block (.cells (c.set a.off (some (.int .u64 v))) false) (.pure (.bool true))) (.pure (.bool false)) |none => .fail "atomic"
    | _ => .fail "atomic") fun v => .pure (.value v)
@[go_sem] theorem VR {b off:Nat} {sp:Option Nat} {v:Int}:aq Tryz.prog 178 [.pointer (some ⟨b,off,sp⟩),.int .u64 v] = .get b (YI ⟨b,off,sp⟩ v):=by kernel_rfl
@[go_sem] theorem VT {b off:Nat} {sp:Option Nat} {o v:Int}:aq Tryz.prog 190 [.pointer (some ⟨b,off,sp⟩),.int .u64 o,.int .u64 v] = .get b (YJ ⟨b,off,sp⟩ o v):=by kernel_rfl
def LP (b off:Nat) (v:Int) (L:List Value):Option Value→AP aJ
 |some (.int .u64 n) => .set b (.cells (PT.ofList .leaf 0 (L.set off (.int .u64 (IntKind.u64.wrap (n+v))))) false) (.pure (.value (.int .u64 (IntKind.u64.wrap (n+v)))))
 | _ => .fail "atomic"
def LQ (b off:Nat) (o v:Int) (L:List Value):Option Value→AP aJ
 |some (.int .u64 n)=>cond (n==o) (.set b (.cells (PT.ofList .leaf 0 (L.set off (.int .u64 v))) false) (.pure (.value (.bool true)))) (.pure (.value (.bool false)))
 | _ => .fail "atomic"
@[go_sem] theorem OG {b off:Nat} {v n:Int} {L:List Value}:LP b off v L (some (.int .u64 n)) = .set b (.cells (PT.ofList .leaf 0 (L.set off (.int .u64 (IntKind.u64.wrap (n+v))))) false) (.pure (.value (.int .u64 (IntKind.u64.wrap (n+v))))):=rfl
@[go_sem] theorem OH {b off:Nat} {o v n:Int} {L:List Value}:LQ b off o v L (some (.int .u64 n))=cond (n==o) (.set b (.cells (PT.ofList .leaf 0 (L.set off (.int .u64 v))) false) (.pure (.value (.bool true)))) (.pure (.value (.bool false))):=rfl
@[go_sem] theorem VU {L:List Value} {v:Int} {b off:Nat} {sp:Option Nat}:YI ⟨b,off,sp⟩ v (.cells (PT.ofList .leaf 0 L) false)=LP b off v L L[off]? := by
 simp only[YI,iY]
 cases e:L[off]? with
 |none=>rfl
 |some u=>
  have hl:=(List.getElem?_eq_some_iff.1 e).1
  cases u with
  |int k n=>
   cases k with
   |u64=>simp only[AP.bind,LP,mJ _ _ _ hl]
   | _=>rfl
  | _=>rfl
@[go_sem] theorem VW {L:List Value} {o v:Int} {b off:Nat} {sp:Option Nat}:YJ ⟨b,off,sp⟩ o v (.cells (PT.ofList .leaf 0 L) false)=LQ b off o v L L[off]? := by
 simp only[YJ,iY]
 cases e:L[off]? with
 |none=>rfl
 |some u=>
  have hl:=(List.getElem?_eq_some_iff.1 e).1
  cases u with
  |int k n=>
   cases k with
   |u64=>
    simp only[LQ,mJ _ _ _ hl]
    cases (n==o)<;>rfl
   | _=>rfl
  | _=>rfl
end Go.Proofs.YtbceiadaihphaaaGreat
namespace Go.Proofs.YtbceiadaihphaaaGreat
open Go.Am
theorem pT:Tryz.prog.follows .mixedOrders=true:=by kernel_rfl
noncomputable def ET:List Value→Option (AP Value)
 | [.int .i64 s,.pointer (some ⟨p,0,none⟩)]=>some (AP.row p fun (S:List Value) ro=>match S with
  | [.int .i64 b] => .pure (.int .i64 (IntKind.i64.wrap (b+IntKind.i64.wrap (2*s))))
  | _ => .fail "")
 | _=>none
theorem atF:iX Tryz.prog 80 ET:=by
 refine lU (O:=pN []) (gK .nil) pT ?_ ?_ ?_
 ·intro args m hm
  unfold ET at hm
  split at hm
  ·obtain rfl:=Option.some.inj hm
   refine jR fun S ro=>?_
   split
   ·exact .pure _
   ·exact .fail _
  ·simp at hm
 ·intro args m h v hm e
  unfold ET at hm
  split at hm
  ·obtain rfl:=Option.some.inj hm
   obtain⟨S,ro,hb,e⟩:=fG e
   split at e
   ·rw[iH] at e;obtain rfl:=Option.some.inj e
    exact .int _ _
   ·simp[AP.look] at e
  ·simp at hm
 ·intro args m h N v hm hR hlt e
  unfold ET at hm
  split at hm
  ·rename_i s p
   obtain rfl:=Option.some.inj hm
   obtain⟨S,ro,hb,e⟩:=fG e
   split at e
   ·rename_i b
    rw[iH] at e;obtain rfl:=Option.some.inj e
    clear e hlt hR
    refine aC (N:=8) Tryz.func80 rfl rfl fun z hP hO hro hN hQ=>?_
    repeat' first |simp(disch:=first |omega |assumption) only[go_sem, *] | (apply xs<;>intro _)<;>try omega
    exact fun _ _=>trivial
   ·simp[AP.look] at e
  ·simp at hm
def oY (base b:Int):List Value:=[.int .i64 (base+4*b+0),.int .i64 (base+4*b+1),.int .i64 (base+4*b+2),.int .i64 (base+4*b+3)]
noncomputable def eX:List Value→Option (AP Value)
 | [.pointer (some ⟨w,0,none⟩)]=>some (AP.row w fun (S:List Value) ro=>match S with
  | [.pointer (some ⟨g,0,none⟩),th,.slice (some ⟨l,off,none⟩) len cap,lk,sd,x,y]=>AP.row g fun (G:List Value) OI=>match G with
   | [mp,.int .i64 base,nn,sm]=>AP.row l fun (B:List Value) ro3=>match B[off]? with
    |some (.int .i64 b)=>cond (Nat.blt 0 len&&decide (0≤b)&&decide (b<100)&&decide (0≤base)&&decide (base<100000)) (.pure (.agg ⟨oY base b⟩)) (.fail "")
    | _ => .fail ""
   | _ => .fail ""
  | _ => .fail "")
 | _=>none
set_option maxHeartbeats 4000000 in
theorem LR:iX Tryz.prog 176 eX:=by
 refine lU (O:=pN []) (gK .nil) pT ?_ ?_ ?_
 ·intro args m hm
  unfold eX at hm
  split at hm
  ·obtain rfl:=Option.some.inj hm
   refine jR fun S ro=>?_
   split
   ·refine jR fun S ro=>?_
    split
    ·refine jR fun S ro=>?_
     split
     ·exact .cond (.pure _) (.fail _)
     ·exact .fail _
    ·exact .fail _
   ·exact .fail _
  ·simp at hm
 ·intro args m h v hm e
  unfold eX at hm
  split at hm
  ·obtain rfl:=Option.some.inj hm
   obtain⟨S,ro,hb,e⟩:=fG e
   split at e
   ·obtain⟨G,OI,hg,e⟩:=fG e
    split at e
    ·obtain⟨B,ro3,hl,e⟩:=fG e
     split at e
     ·obtain⟨hc,e⟩:=mR e
      rw[iH] at e;obtain rfl:=Option.some.inj e
      exact .agg _ (by simp[oY];exact⟨.int _ _,.int _ _,.int _ _,.int _ _⟩)
     ·simp[AP.look] at e
    ·simp[AP.look] at e
   ·simp[AP.look] at e
  ·simp at hm
 ·intro args m h N v hm hR hlt e
  unfold eX at hm
  split at hm
  ·rename_i w
   obtain rfl:=Option.some.inj hm
   obtain⟨S,ro,hb,e⟩:=fG e
   split at e
   ·rename_i g th l off len cap lk sd x y
    obtain⟨G,OI,hg,e⟩:=fG e
    split at e
    ·rename_i mp base nn sm
     obtain⟨B,ro3,hl,e⟩:=fG e
     split at e
     ·rename_i b hB
      obtain⟨hc,e⟩:=mR e
      rw[iH] at e;obtain rfl:=Option.some.inj e
      clear e
      simp only[Bool.and_eq_true,decide_eq_true_eq] at hc
      obtain⟨⟨⟨⟨c1,c2⟩,c3⟩,c4⟩,c5⟩:=hc
      have c6:0<len:=Nat.le_of_ble_eq_true c1
      have hbN:=hlt _ _ hb
      have hgN:=hlt _ _ hg
      have hlN:=hlt _ _ hl
      have c7:(0:Int)<len:=by omega
      clear c1 hlt hR
      refine aC (N:=14) Tryz.func176 rfl rfl fun z hP hO hro hN hQ=>?_
      repeat' first |simp(disch:=first |omega |assumption) only[go_sem, *] | (apply xs<;>intro _)<;>try omega | ((with_reducible refine bR 1 ?_);refine dz 14 1 w176_1 ?_) |refine fun (_ _:List Nat)=>?_ | (first |refine aT Tryz.func169 rfl ?_ ?_ ?_ ?_ |fail)<;>intros
      rw[cE]
      repeat' first |simp(disch:=first |omega |assumption) only[go_sem, *] | (apply xs<;>intro _)<;>try omega |refine fun (_ _:List Nat)=>?_
      rw[cE]
      repeat' first |simp(disch:=first |omega |assumption) only[go_sem, *] | (apply xs<;>intro _)<;>try omega |refine fun (_ _:List Nat)=>?_
      rw[cE]
      repeat' first |simp(disch:=first |omega |assumption) only[go_sem, *] | (apply xs<;>intro _)<;>try omega |refine fun (_ _:List Nat)=>?_
      rw[cE]
      repeat' first |simp(disch:=first |omega |assumption) only[go_sem, *] | (apply xs<;>intro _)<;>try omega |refine fun (_ _:List Nat)=>?_
      rw[cE]
      repeat' first |simp(disch:=first |omega |assumption) only[go_sem, *] | (apply xs<;>intro _)<;>try omega |refine fun (_ _:List Nat)=>?_
      exact⟨rfl,fun i hi=>by simp(disch:=omega) only[bO]⟩
     ·simp[AP.look] at e
    ·simp[AP.look] at e
   ·simp[AP.look] at e
  ·simp at hm
noncomputable def mS:List Value→Option (AP Value)
 | [.pointer (some ⟨g,0,none⟩),.int .i64 b]=>some (AP.row g fun (G:List Value) OI=>match G with
   | [mp,.int .i64 base,nn,sm]=>cond (decide (0≤b)&&decide (b<100)&&decide (0≤base)&&decide (base<100000)) (.pure (.agg ⟨oY base b⟩)) (.fail "")
   | _ => .fail "")
 | _=>none
set_option maxHeartbeats 4000000 in
theorem Ia:iX Tryz.prog 169 mS:=by
 refine lU (O:=pN []) (gK .nil) pT ?_ ?_ ?_
 ·intro args m hm
  unfold mS at hm
  split at hm
  ·obtain rfl:=Option.some.inj hm
   refine jR fun S ro=>?_
   split
   ·exact .cond (.pure _) (.fail _)
   ·exact .fail _
  ·simp at hm
 ·intro args m h v hm e
  unfold mS at hm
  split at hm
  ·obtain rfl:=Option.some.inj hm
   obtain⟨G,OI,hg,e⟩:=fG e
   split at e
   ·obtain⟨hc,e⟩:=mR e
    rw[iH] at e;obtain rfl:=Option.some.inj e
    exact .agg _ (by simp[oY];exact⟨.int _ _,.int _ _,.int _ _,.int _ _⟩)
   ·simp[AP.look] at e
  ·simp at hm
 ·intro args m h N v hm hR hlt e
  unfold mS at hm
  split at hm
  ·rename_i g b
   obtain rfl:=Option.some.inj hm
   obtain⟨G,OI,hg,e⟩:=fG e
   split at e
   ·rename_i mp base nn sm
    obtain⟨hc,e⟩:=mR e
    rw[iH] at e;obtain rfl:=Option.some.inj e
    clear e
    simp only[Bool.and_eq_true,decide_eq_true_eq] at hc
    obtain⟨⟨⟨c2,c3⟩,c4⟩,c5⟩:=hc
    have hgN:=hlt _ _ hg
    clear hlt hR
    refine aC (N:=23) Tryz.func169 rfl rfl fun z hP hO hro hN hQ=>?_
    repeat' first |simp(disch:=first |omega |assumption) only[go_sem, *] | (apply xs<;>intro _)<;>try omega
    rw[cE]
    repeat' first |simp(disch:=first |omega |assumption) only[go_sem, *] | (apply xs<;>intro _)<;>try omega
    rw[cE]
    repeat' first |simp(disch:=first |omega |assumption) only[go_sem, *] | (apply xs<;>intro _)<;>try omega
    rw[cE]
    repeat' first |simp(disch:=first |omega |assumption) only[go_sem, *] | (apply xs<;>intro _)<;>try omega
    rw[cE]
    repeat' first |simp(disch:=first |omega |assumption) only[go_sem, *] | (apply xs<;>intro _)<;>try omega
    rw[cE]
    repeat' first |simp(disch:=first |omega |assumption) only[go_sem, *] | (apply xs<;>intro _)<;>try omega
    exact⟨rfl,fun i hi=>by simp(disch:=omega) only[bO]⟩
   ·simp[AP.look] at e
  ·simp at hm
noncomputable abbrev OP:dK:=pN [(80,ET),(176,eX),(169,mS),(10,r7),(16,r7)]
end Go.Proofs.YtbceiadaihphaaaGreat
namespace Go.Proofs.YtbceiadaihphaaaGreat
open Go.Am
abbrev rM:Rl:=(0,0)
abbrev rW:Rl:=(1,0)
abbrev rL:Rl:=(2,0)
def zf (g k:Nat):Value:=if k=0 then .slice none 0 0 else .slice (some ⟨g,0,none⟩) k (aB+6)
structure dP (d:Rl→Nat) (C:Rl→Option aj) (W:List Int) (L:List Value) (k:Nat):Prop where
 mem:C rM=row [.slice (some ⟨d rW,0,none⟩) W.length W.length,zf (d rL) k]
 words:C rW=row (W.map (.int .u64))
 log:(k=0∧L=[])∨(0<k∧C rL=row L)
 len:L.length=k*6
def bI (th a kd old new:Int) (sw:Bool):List Value:=[.int .i64 th,.int .i64 a,.int .u8 kd,.int .u64 old,.int .u64 new,.bool sw]
def bM (C:Rl→Option aj) (w g:Nat) (W:List Int) (L:List Value) (k:Nat):Rl→Option aj:=upd (upd (upd C rW (row (W.map (.int .u64)))) rL (row L)) rM (row [.slice (some ⟨w,0,none⟩) W.length W.length,.slice (some ⟨g,0,none⟩) k (aB+6)])
theorem aG {C:Rl→Option aj} {w g:Nat} {W:List Int} {L:List Value} {k a b:Nat} (h:2<a):bM C w g W L k (a,b)=C (a,b):=by
 unfold bM
 rw[au (by omega),au (by omega),au (by omega)]
theorem rS {p:Prop} (h:p:=by (simp(disch:=first |decide |assumption |omega) only[rM,rW,rL,ah,au,aR,aG])<;>rfl):p:=h
theorem rT {p:Prop} (h:p:=by simp(disch:=first |decide |assumption |omega) only[rM,rW,rL,ah,au,aR,aG];rfl):p:=h
theorem rR {p:Prop} (h:p:=by simp(disch:=first |decide |assumption |omega) only[rM,rW,rL,ah,au,aR,aG]):p:=h
theorem rE {p q:Prop} (h:q) (e:q→p:=by intro h;simp(disch:=first |decide |assumption |omega) only[rM,rW,rL,ah,au,aR,aG];exact h):p:=e h
theorem dP.next {d:Rl→Nat} {C:Rl→Option aj} {W W':List Int} {L L':List Value} {k g:Nat} (hw:W'.length=W.length) (hl:L'.length=(k+1)*6):dP (upd d rL g) (bM C (d rW) g W' L' (k+1)) W' L' (k+1):=by
 refine⟨?_,?_,.inr ⟨by omega,?_⟩,hl⟩
 ·unfold bM zf
  rw[ah,if_neg (by omega),ah,au (by decide)]
 ·unfold bM
  rw[au (by decide),au (by decide),ah]
 ·unfold bM
  rw[au (by decide),ah]
theorem eC {W:List Int} {i:Nat} (hi:i<W.length):(W.map (Value.int .u64))[i]? = some (.int .u64 W[i]):=by
 rw[List.getElem?_map,List.getElem?_eq_getElem hi];rfl
theorem _root_.Go.Am.St.fin {H:PT aj} {n g m:Nat} {d:Rl→Nat} {C:Rl→Option aj} {A:aj} (S:St H n d C) (e:C rM=some A) (hg:n≤g) (hm:g<m) (B X:aj):St ((H.set g (some B)).set (d rM) (some X)) m (upd d rL g) (upd (upd C rL (some B)) rM (some X)):=
 (S.new rL B hg hm).set rM X (by rw[au (by decide)];exact e) (au (by decide))
structure BS (O:dK):Prop where
 c:O 89=fun _=>none
 l:O 90=fun _=>none
 s:O 145=fun _=>none
 a:O 174=fun _=>none
 k:O 187=fun _=>none
 n:O 146=fun _=>none
variable {O:dK}
set_option maxHeartbeats 4000000 in
theorem lX (oM:BS O) {h:PT aj} {n:Nat} {d:Rl→Nat} {C:Rl→Option aj} {W:List Int} {L:List Value} {k a:Nat} {th:Int} (S:St h n d C) (M:dP d C W L k) (hk:k≤100000) (ht:0≤th∧th<64) (ha:a<W.length):
  b9 Tryz.prog O 185 [pt (d rM),I6 th,I6 a] h n fun v h' n'=>∃ g,n≤g∧g<n'∧v=dY [U6 W[a],I6 0]∧St h' n' (upd d rL g) (bM C (d rW) g (W) (L++bI th a 1 W[a] W[a] false) (k+1)):=by
 obtain⟨m1,m2,m3,m4⟩:=M
 obtain⟨o1,o2,o3,o4,o5,o6⟩:=oM
 have g1:=S.at m1
 have g2:=S.at m2
 have n1:=S.lt m1
 have n2:=S.lt m2
 have d1:=S.df m1 m2 (by decide)
 have hg:=eC ha
 have a1:(0:Int)≤(a:Int):=by omega
 have a2:(a:Int)<(W.length:Int):=by omega
 obtain⟨t1,t2⟩:=ht
 have hk2:k+1≤1048576:=by omega
 have S1:=S
 have e1:∀ {A},C rM=some A→C rM=some A:=fun q=>q
 have e2:∀ {A},C rM=some A→(upd C rL none) rM=some A:=fun q=>by rw[au (by decide)];exact q
 have e3:∀ {A},C rL=some A→C rL=some A:=fun q=>q
 have Rk:=sn m2
 generalize W[a]=x at*
 refine aC (N:=31) Tryz.func185 rfl rfl fun z hP hO hro hN hQ=>?_
 rcases m3 with ⟨rfl,rfl⟩ | ⟨k0,m3⟩
 ·have e0:zf (d rL) 0 = .slice none 0 0:=if_pos rfl
  rw[e0] at g1
  clear e0
  repeat' first |simp(disch:=first |omega |assumption) only[go_sem, *] | (apply xs<;>intro _)<;>try omega |refine fun (_ _:List Nat)=>?_ | (first |refine aT Tryz.func89 rfl ?_ ?_ ?_ ?_ |refine aT Tryz.func90 rfl ?_ ?_ ?_ ?_ |refine aT Tryz.func146 rfl ?_ ?_ ?_ ?_ |fail)<;>intros
  exact⟨_,by omega,by omega,((S1.junk bG bH).fin (e1 m1) bG bH _ _).eq (by unfold bM;rw[Rk];rfl) rfl⟩
 ·have e0:zf (d rL) k = .slice (some ⟨d rL,0,none⟩) k (aB+6):=if_neg (by omega)
  rw[e0] at g1
  have g3:=S.at m3
  have n3:=S.lt m3
  have d2:=S.df m1 m3 (by decide)
  have d3:=S.df m2 m3 (by decide)
  have tZ:List.take (k*6) L=L:=List.take_of_length_le (by omega)
  clear e0
  repeat' first |simp(disch:=first |omega |assumption) only[go_sem, *] | (apply xs<;>intro _)<;>try omega |refine fun (_ _:List Nat)=>?_ | (first |refine aT Tryz.func89 rfl ?_ ?_ ?_ ?_ |refine aT Tryz.func90 rfl ?_ ?_ ?_ ?_ |refine aT Tryz.func146 rfl ?_ ?_ ?_ ?_ |fail)<;>intros
  exact⟨_,by omega,by omega,(((S1.junk bG bH).kill rL (e3 m3) rfl).fin (e2 m1) bG bH _ _).eq (by unfold bM;rw[aN];rw[Rk];rfl) rfl⟩
end Go.Proofs.YtbceiadaihphaaaGreat
namespace Go.Proofs.YtbceiadaihphaaaGreat
open Go.Am
variable {O:dK}
set_option maxHeartbeats 4000000 in
theorem kG (oM:BS O) {h:PT aj} {n:Nat} {d:Rl→Nat} {C:Rl→Option aj} {W:List Int} {L:List Value} {k a:Nat} {th x:Int} (S:St h n d C) (M:dP d C W L k) (hk:k≤100000) (ht:0≤th∧th<64) (ha:a<W.length):
  b9 Tryz.prog O 142 [pt (d rM),I6 th,I6 a,U6 x] h n fun v h' n'=>∃ g,n≤g∧g<n'∧v=I6 0∧St h' n' (upd d rL g) (bM C (d rW) g (W.set a x) (L++bI th a 2 W[a] x false) (k+1)):=by
 obtain⟨m1,m2,m3,m4⟩:=M
 obtain⟨o1,o2,o3,o4,o5,o6⟩:=oM
 have g1:=S.at m1
 have g2:=S.at m2
 have n1:=S.lt m1
 have n2:=S.lt m2
 have d1:=S.df m1 m2 (by decide)
 have hg:=eC ha
 have a1:(0:Int)≤(a:Int):=by omega
 have a2:(a:Int)<(W.length:Int):=by omega
 obtain⟨t1,t2⟩:=ht
 have hk2:k+1≤1048576:=by omega
 have hls:(W.set a x).length=W.length:=List.length_set
 have YK:(W.map (Value.int .u64)).set a (.int .u64 x)=(W.set a x).map (.int .u64):=by rw[List.map_set]
 have S1:=S.set rW (.cells (PT.ofList .leaf 0 ((W.set a x).map (.int .u64))) false) m2 rfl
 have e1:∀ {A},C rM=some A→(upd C rW (row ((W.set a x).map (.int .u64)))) rM=some A:=fun q=>by rw[au (by decide)];exact q
 have e2:∀ {A},C rM=some A→(upd (upd C rW (row ((W.set a x).map (.int .u64)))) rL none) rM=some A:=fun q=>by rw[au (by decide),au (by decide)];exact q
 have e3:∀ {A},C rL=some A→(upd C rW (row ((W.set a x).map (.int .u64)))) rL=some A:=fun q=>by rw[au (by decide)];exact q
 generalize W[a]=y at*
 generalize W.set a x=W2 at*
 refine aC (N:=32) Tryz.func142 rfl rfl fun z hP hO hro hN hQ=>?_
 rcases m3 with ⟨rfl,rfl⟩ | ⟨k0,m3⟩
 ·have e0:zf (d rL) 0 = .slice none 0 0:=if_pos rfl
  rw[e0] at g1
  clear e0
  repeat' first |simp(disch:=first |omega |assumption) only[go_sem, *] | (apply xs<;>intro _)<;>try omega |refine fun (_ _:List Nat)=>?_ | (first |refine aT Tryz.func89 rfl ?_ ?_ ?_ ?_ |refine aT Tryz.func145 rfl ?_ ?_ ?_ ?_ |refine aT Tryz.func146 rfl ?_ ?_ ?_ ?_ |fail)<;>intros
  exact⟨_,by omega,by omega,((S1.junk bG bH).fin (e1 m1) bG bH _ _).eq (by unfold bM;rw[hls];rfl) rfl⟩
 ·have e0:zf (d rL) k = .slice (some ⟨d rL,0,none⟩) k (aB+6):=if_neg (by omega)
  rw[e0] at g1
  have g3:=S.at m3
  have n3:=S.lt m3
  have d2:=S.df m1 m3 (by decide)
  have d3:=S.df m2 m3 (by decide)
  have tZ:List.take (k*6) L=L:=List.take_of_length_le (by omega)
  clear e0
  repeat' first |simp(disch:=first |omega |assumption) only[go_sem, *] | (apply xs<;>intro _)<;>try omega |refine fun (_ _:List Nat)=>?_ | (first |refine aT Tryz.func89 rfl ?_ ?_ ?_ ?_ |refine aT Tryz.func145 rfl ?_ ?_ ?_ ?_ |refine aT Tryz.func146 rfl ?_ ?_ ?_ ?_ |fail)<;>intros
  exact⟨_,by omega,by omega,(((S1.junk bG bH).kill rL (e3 m3) rfl).fin (e2 m1) bG bH _ _).eq (by unfold bM;rw[aN];rw[hls];rfl) rfl⟩
set_option maxHeartbeats 4000000 in
theorem Rm (oM:BS O) {h:PT aj} {n:Nat} {d:Rl→Nat} {C:Rl→Option aj} {W:List Int} {L:List Value} {k a:Nat} {th x:Int} (S:St h n d C) (M:dP d C W L k) (hk:k≤100000) (ht:0≤th∧th<64) (ha:a<W.length):
  b9 Tryz.prog O 170 [pt (d rM),I6 th,I6 a,U6 x] h n fun v h' n'=>∃ g,n≤g∧g<n'∧v=dY [U6 (IntKind.u64.wrap (W[a]+x)),I6 0]∧St h' n' (upd d rL g) (bM C (d rW) g (W.set a (IntKind.u64.wrap (W[a]+x))) (L++bI th a 3 (IntKind.u64.wrap (IntKind.u64.wrap (W[a]+x)-x)) (IntKind.u64.wrap (W[a]+x)) false) (k+1)):=by
 obtain⟨m1,m2,m3,m4⟩:=M
 obtain⟨o1,o2,o3,o4,o5,o6⟩:=oM
 have g1:=S.at m1
 have g2:=S.at m2
 have n1:=S.lt m1
 have n2:=S.lt m2
 have d1:=S.df m1 m2 (by decide)
 have hg:=eC ha
 have a1:(0:Int)≤(a:Int):=by omega
 have a2:(a:Int)<(W.length:Int):=by omega
 obtain⟨t1,t2⟩:=ht
 have hk2:k+1≤1048576:=by omega
 have hls:(W.set a (IntKind.u64.wrap (W[a]+x))).length=W.length:=List.length_set
 have YK:(W.map (Value.int .u64)).set a (.int .u64 (IntKind.u64.wrap (W[a]+x)))=(W.set a (IntKind.u64.wrap (W[a]+x))).map (.int .u64):=by rw[List.map_set]
 have S1:=S.set rW (.cells (PT.ofList .leaf 0 ((W.set a (IntKind.u64.wrap (W[a]+x))).map (.int .u64))) false) m2 rfl
 have e1:∀ {A},C rM=some A→(upd C rW (row ((W.set a (IntKind.u64.wrap (W[a]+x))).map (.int .u64)))) rM=some A:=fun q=>by rw[au (by decide)];exact q
 have e2:∀ {A},C rM=some A→(upd (upd C rW (row ((W.set a (IntKind.u64.wrap (W[a]+x))).map (.int .u64)))) rL none) rM=some A:=fun q=>by rw[au (by decide),au (by decide)];exact q
 have e3:∀ {A},C rL=some A→(upd C rW (row ((W.set a (IntKind.u64.wrap (W[a]+x))).map (.int .u64)))) rL=some A:=fun q=>by rw[au (by decide)];exact q
 generalize hy:W[a]=y at*
 generalize hs9:IntKind.u64.wrap (y+x)=s9 at*
 generalize hy9:IntKind.u64.wrap (s9-x)=y9 at*
 generalize W.set a s9=W2 at*
 refine aC (N:=36) Tryz.func170 rfl rfl fun z hP hO hro hN hQ=>?_
 rcases m3 with ⟨rfl,rfl⟩ | ⟨k0,m3⟩
 ·have e0:zf (d rL) 0 = .slice none 0 0:=if_pos rfl
  rw[e0] at g1
  clear e0
  repeat' first |simp(disch:=first |omega |assumption) only[go_sem, *] | (apply xs<;>intro _)<;>try omega |refine fun (_ _:List Nat)=>?_ | (first |refine aT Tryz.func89 rfl ?_ ?_ ?_ ?_ |refine aT Tryz.func174 rfl ?_ ?_ ?_ ?_ |refine aT Tryz.func146 rfl ?_ ?_ ?_ ?_ |fail)<;>intros
  exact⟨_,by omega,by omega,((S1.junk bG bH).fin (e1 m1) bG bH _ _).eq (by unfold bM;rw[hls];rfl) rfl⟩
 ·have e0:zf (d rL) k = .slice (some ⟨d rL,0,none⟩) k (aB+6):=if_neg (by omega)
  rw[e0] at g1
  have g3:=S.at m3
  have n3:=S.lt m3
  have d2:=S.df m1 m3 (by decide)
  have d3:=S.df m2 m3 (by decide)
  have tZ:List.take (k*6) L=L:=List.take_of_length_le (by omega)
  clear e0
  repeat' first |simp(disch:=first |omega |assumption) only[go_sem, *] | (apply xs<;>intro _)<;>try omega |refine fun (_ _:List Nat)=>?_ | (first |refine aT Tryz.func89 rfl ?_ ?_ ?_ ?_ |refine aT Tryz.func174 rfl ?_ ?_ ?_ ?_ |refine aT Tryz.func146 rfl ?_ ?_ ?_ ?_ |fail)<;>intros
  exact⟨_,by omega,by omega,(((S1.junk bG bH).kill rL (e3 m3) rfl).fin (e2 m1) bG bH _ _).eq (by unfold bM;rw[aN];rw[hls];rfl) rfl⟩
set_option maxHeartbeats 4000000 in
theorem YL (oM:BS O) {h:PT aj} {n:Nat} {d:Rl→Nat} {C:Rl→Option aj} {W:List Int} {L:List Value} {k a:Nat} {th o x:Int} (S:St h n d C) (M:dP d C W L k) (hk:k≤100000) (ht:0≤th∧th<64) (ha:a<W.length) (hc:W[a]=o):
  b9 Tryz.prog O 183 [pt (d rM),I6 th,I6 a,U6 o,U6 x] h n fun v h' n'=>∃ g,n≤g∧g<n'∧v=dY [.bool true,I6 0]∧St h' n' (upd d rL g) (bM C (d rW) g (W.set a x) (L++bI th a 4 o x true) (k+1)):=by
 obtain⟨m1,m2,m3,m4⟩:=M
 obtain⟨o1,o2,o3,o4,o5,o6⟩:=oM
 have g1:=S.at m1
 have g2:=S.at m2
 have n1:=S.lt m1
 have n2:=S.lt m2
 have d1:=S.df m1 m2 (by decide)
 have hg:=eC ha
 have a1:(0:Int)≤(a:Int):=by omega
 have a2:(a:Int)<(W.length:Int):=by omega
 obtain⟨t1,t2⟩:=ht
 have hk2:k+1≤1048576:=by omega
 have hls:(W.set a x).length=W.length:=List.length_set
 have YK:(W.map (Value.int .u64)).set a (.int .u64 x)=(W.set a x).map (.int .u64):=by rw[List.map_set]
 have S1:=S.set rW (.cells (PT.ofList .leaf 0 ((W.set a x).map (.int .u64))) false) m2 rfl
 have e1:∀ {A},C rM=some A→(upd C rW (row ((W.set a x).map (.int .u64)))) rM=some A:=fun q=>by rw[au (by decide)];exact q
 have e2:∀ {A},C rM=some A→(upd (upd C rW (row ((W.set a x).map (.int .u64)))) rL none) rM=some A:=fun q=>by rw[au (by decide),au (by decide)];exact q
 have e3:∀ {A},C rL=some A→(upd C rW (row ((W.set a x).map (.int .u64)))) rL=some A:=fun q=>by rw[au (by decide)];exact q
 have gx:((W.set a x).map (Value.int .u64))[a]? = some (.int .u64 x):=by rw[List.getElem?_map,List.getElem?_set_self ha];rfl
 have hbo:(o==o)=true:=by simp
 rw[hc] at hg
 clear hc
 generalize W.set a x=W2 at*
 refine aC (N:=52) Tryz.func183 rfl rfl fun z hP hO hro hN hQ=>?_
 rcases m3 with ⟨rfl,rfl⟩ | ⟨k0,m3⟩
 ·have e0:zf (d rL) 0 = .slice none 0 0:=if_pos rfl
  rw[e0] at g1
  clear e0
  repeat' first |simp(disch:=first |omega |assumption) only[go_sem, *] | (apply xs<;>intro _)<;>try omega |refine fun (_ _:List Nat)=>?_ | (first |refine aT Tryz.func89 rfl ?_ ?_ ?_ ?_ |refine aT Tryz.func90 rfl ?_ ?_ ?_ ?_ |refine aT Tryz.func187 rfl ?_ ?_ ?_ ?_ |refine aT Tryz.func146 rfl ?_ ?_ ?_ ?_ |fail)<;>intros
  exact⟨_,by omega,by omega,((S1.junk bG bH).fin (e1 m1) bG bH _ _).eq (by unfold bM;rw[hls];rfl) rfl⟩
 ·have e0:zf (d rL) k = .slice (some ⟨d rL,0,none⟩) k (aB+6):=if_neg (by omega)
  rw[e0] at g1
  have g3:=S.at m3
  have n3:=S.lt m3
  have d2:=S.df m1 m3 (by decide)
  have d3:=S.df m2 m3 (by decide)
  have tZ:List.take (k*6) L=L:=List.take_of_length_le (by omega)
  clear e0
  repeat' first |simp(disch:=first |omega |assumption) only[go_sem, *] | (apply xs<;>intro _)<;>try omega |refine fun (_ _:List Nat)=>?_ | (first |refine aT Tryz.func89 rfl ?_ ?_ ?_ ?_ |refine aT Tryz.func90 rfl ?_ ?_ ?_ ?_ |refine aT Tryz.func187 rfl ?_ ?_ ?_ ?_ |refine aT Tryz.func146 rfl ?_ ?_ ?_ ?_ |fail)<;>intros
  exact⟨_,by omega,by omega,(((S1.junk bG bH).kill rL (e3 m3) rfl).fin (e2 m1) bG bH _ _).eq (by unfold bM;rw[aN];rw[hls];rfl) rfl⟩
set_option maxHeartbeats 4000000 in
theorem Rn (oM:BS O) {h:PT aj} {n:Nat} {d:Rl→Nat} {C:Rl→Option aj} {W:List Int} {L:List Value} {k a:Nat} {th o x:Int} (S:St h n d C) (M:dP d C W L k) (hk:k≤100000) (ht:0≤th∧th<64) (ha:a<W.length) (hc:W[a]≠o):
  b9 Tryz.prog O 183 [pt (d rM),I6 th,I6 a,U6 o,U6 x] h n fun v h' n'=>∃ g,n≤g∧g<n'∧v=dY [.bool false,I6 0]∧St h' n' (upd d rL g) (bM C (d rW) g (W) (L++bI th a 4 W[a] W[a] false) (k+1)):=by
 obtain⟨m1,m2,m3,m4⟩:=M
 obtain⟨o1,o2,o3,o4,o5,o6⟩:=oM
 have g1:=S.at m1
 have g2:=S.at m2
 have n1:=S.lt m1
 have n2:=S.lt m2
 have d1:=S.df m1 m2 (by decide)
 have hg:=eC ha
 have a1:(0:Int)≤(a:Int):=by omega
 have a2:(a:Int)<(W.length:Int):=by omega
 obtain⟨t1,t2⟩:=ht
 have hk2:k+1≤1048576:=by omega
 have S1:=S
 have e1:∀ {A},C rM=some A→C rM=some A:=fun q=>q
 have e2:∀ {A},C rM=some A→(upd C rL none) rM=some A:=fun q=>by rw[au (by decide)];exact q
 have e3:∀ {A},C rL=some A→C rL=some A:=fun q=>q
 have Rk:=sn m2
 have hbo:(W[a]==o)=false:=by simpa using hc
 generalize W[a]=y at*
 clear hc
 refine aC (N:=52) Tryz.func183 rfl rfl fun z hP hO hro hN hQ=>?_
 rcases m3 with ⟨rfl,rfl⟩ | ⟨k0,m3⟩
 ·have e0:zf (d rL) 0 = .slice none 0 0:=if_pos rfl
  rw[e0] at g1
  clear e0
  repeat' first |simp(disch:=first |omega |assumption) only[go_sem, *] | (apply xs<;>intro _)<;>try omega |refine fun (_ _:List Nat)=>?_ | (first |refine aT Tryz.func89 rfl ?_ ?_ ?_ ?_ |refine aT Tryz.func90 rfl ?_ ?_ ?_ ?_ |refine aT Tryz.func187 rfl ?_ ?_ ?_ ?_ |refine aT Tryz.func146 rfl ?_ ?_ ?_ ?_ |fail)<;>intros
  exact⟨_,by omega,by omega,((S1.junk bG bH).fin (e1 m1) bG bH _ _).eq (by unfold bM;rw[Rk];rfl) rfl⟩
 ·have e0:zf (d rL) k = .slice (some ⟨d rL,0,none⟩) k (aB+6):=if_neg (by omega)
  rw[e0] at g1
  have g3:=S.at m3
  have n3:=S.lt m3
  have d2:=S.df m1 m3 (by decide)
  have d3:=S.df m2 m3 (by decide)
  have tZ:List.take (k*6) L=L:=List.take_of_length_le (by omega)
  clear e0
  repeat' first |simp(disch:=first |omega |assumption) only[go_sem, *] | (apply xs<;>intro _)<;>try omega |refine fun (_ _:List Nat)=>?_ | (first |refine aT Tryz.func89 rfl ?_ ?_ ?_ ?_ |refine aT Tryz.func90 rfl ?_ ?_ ?_ ?_ |refine aT Tryz.func187 rfl ?_ ?_ ?_ ?_ |refine aT Tryz.func146 rfl ?_ ?_ ?_ ?_ |fail)<;>intros
  exact⟨_,by omega,by omega,(((S1.junk bG bH).kill rL (e3 m3) rfl).fin (e2 m1) bG bH _ _).eq (by unfold bM;rw[aN];rw[Rk];rfl) rfl⟩
end Go.Proofs.YtbceiadaihphaaaGreat
namespace Go.Proofs.YtbceiadaihphaaaGreat
open Go.Am
def VX (u:Option TypeDesc) (t:TypeId) (x:Value):AP aJ:=match u with
 |some (.interface _) => .fail "makeInterface"
 |some _ => .pure (.value (.iface t x))
 |none => .fail "makeInterface"
@[go_sem] theorem VY {e t:TypeId} {x:Value}:VX (some (.pointer e)) t x = .pure (.value (.iface t x)):=rfl
@[go_sem] theorem LS {fs:Array Field} {t:TypeId} {x:Value}:VX (some (.struct fs)) t x = .pure (.value (.iface t x)):=rfl
@[go_sem] theorem VZ {P:Program} {ρ:Operand→Value} {d:Option Tmp} {ty t:TypeId} {x:Operand} {pos:String} {af:Array Edge} {g:Option (Nat×Bool)}:jA P ρ ⟨d,.makeInterface t x,ty,pos,af,g⟩=VX (P.underlying t) t (ρ x):=by
 show (eL P t (ρ x)).bind _=_
 unfold eL VX
 cases P.underlying t with
 |none=>rfl
 |some u=>cases u<;>rfl
section
variable {P:Program} {t:TypeId} {cx cy:Bool}
def Ib (u:Option TypeDesc) (b:Bool):AP aJ:=match u with
 |some (.func _ _ _) => .pure (.value (.bool b))
 | _ => .fail "equal"
@[go_sem] theorem Ro {ps rs:Array TypeId} {v b:Bool}:Ib (some (.func ps rs v)) b = .pure (.value (.bool b)):=rfl
theorem Aj {f:Fn} {a b:Array Value} (D:Nat):bS P (D+1) t (.func f a b) .nilFunc=match P.underlying t with |some (.func _ _ _) => .pure false | _ => .fail "equal":=by
 unfold bS
 cases P.underlying t with
 |none=>rfl
 |some u=>cases u<;>rfl
theorem Ak (D:Nat):bS P (D+1) t .nilFunc .nilFunc=match P.underlying t with |some (.func _ _ _) => .pure true | _ => .fail "equal":=by
 unfold bS
 cases P.underlying t with
 |none=>rfl
 |some u=>cases u<;>rfl
@[go_sem] theorem LU {f:Fn} {a b:Array Value}:cX P .eql t cx cy (.func f a b) .nilFunc=Ib (P.underlying t) false:=by
 have q:cX P .eql t cx cy (.func f a b) .nilFunc=AP.bind ((bS P (11+1) t (.func f a b) .nilFunc).bind fun b => .pure (.bool b)) fun v => .pure (.value v):=by simp only[cX,fO,bU,cond_true]
 rw[q,Aj];unfold Ib
 cases P.underlying t with
 |none=>rfl
 |some u=>cases u<;>rfl
@[go_sem] theorem LV {f:Fn} {a b:Array Value}:cX P .neq t cx cy (.func f a b) .nilFunc=Ib (P.underlying t) true:=by
 have q:cX P .neq t cx cy (.func f a b) .nilFunc=AP.bind ((bS P (11+1) t (.func f a b) .nilFunc).bind fun b => .pure (.bool !b)) fun v => .pure (.value v):=by simp only[cX,fO,bU,cond_true]
 rw[q,Aj];unfold Ib
 cases P.underlying t with
 |none=>rfl
 |some u=>cases u<;>rfl
@[go_sem] theorem LW:cX P .eql t cx cy .nilFunc .nilFunc=Ib (P.underlying t) true:=by
 have q:cX P .eql t cx cy .nilFunc .nilFunc=AP.bind ((bS P (11+1) t .nilFunc .nilFunc).bind fun b => .pure (.bool b)) fun v => .pure (.value v):=by simp only[cX,fO,bU,cond_true]
 rw[q,Ak];unfold Ib
 cases P.underlying t with
 |none=>rfl
 |some u=>cases u<;>rfl
@[go_sem] theorem LX:cX P .neq t cx cy .nilFunc .nilFunc=Ib (P.underlying t) false:=by
 have q:cX P .neq t cx cy .nilFunc .nilFunc=AP.bind ((bS P (11+1) t .nilFunc .nilFunc).bind fun b => .pure (.bool !b)) fun v => .pure (.value v):=by simp only[cX,fO,bU,cond_true]
 rw[q,Ak];unfold Ib
 cases P.underlying t with
 |none=>rfl
 |some u=>cases u<;>rfl
end
@[go_sem] theorem YM {r:Operand} {nm:String} {ys:Array Operand} {ts:Array TypeId}:(Op.call ⟨.invoke r nm,ys,ts⟩).operands=#[r]++ys:=rfl
@[go_sem] theorem aiZ {p:Addr} {args:List Value}:aI Tryz.prog (.iface 146 (.agg ⟨[.iface 140 (.pointer (some p))]⟩)) "Enter" args = .pure (.enter 148 (.agg ⟨[.iface 140 (.pointer (some p))]⟩::args)):=by kernel_rfl
@[go_sem] theorem ai0 {p:Addr} {args:List Value}:aI Tryz.prog (.iface 146 (.agg ⟨[.iface 140 (.pointer (some p))]⟩)) "Wait" args = .pure (.enter 149 (.agg ⟨[.iface 140 (.pointer (some p))]⟩::args)):=by kernel_rfl
@[go_sem] theorem ai1 {p:Addr} {args:List Value}:aI Tryz.prog (.iface 146 (.agg ⟨[.iface 140 (.pointer (some p))]⟩)) "Exit" args = .pure (.enter 133 (.pointer (some p)::args)):=by kernel_rfl
@[go_sem] theorem ai2 {p:Addr} {args:List Value}:aI Tryz.prog (.iface 140 (.pointer (some p))) "Enter" args = .pure (.enter 132 (.pointer (some p)::args)):=by kernel_rfl
@[go_sem] theorem ai3 {p:Addr} {args:List Value}:aI Tryz.prog (.iface 140 (.pointer (some p))) "Wait" args = .pure (.enter 135 (.pointer (some p)::args)):=by kernel_rfl
@[go_sem] theorem ai4 {p:Addr} {args:List Value}:aI Tryz.prog (.iface 258 (.pointer (some p))) "Step" args = .pure (.enter 200 (.pointer (some p)::args)):=by kernel_rfl
@[go_sem] theorem ai5 {p:Addr} {args:List Value}:aI Tryz.prog (.iface 258 (.pointer (some p))) "Next" args = .pure (.enter 199 (.pointer (some p)::args)):=by kernel_rfl
@[go_sem] theorem ai6 {p:Addr} {args:List Value}:aI Tryz.prog (.iface 261 (.pointer (some p))) "Step" args = .pure (.enter 202 (.pointer (some p)::args)):=by kernel_rfl
@[go_sem] theorem aeE {p:Addr} {args:List Value}:aI Tryz.prog (.iface 261 (.pointer (some p))) "Next" args = .pure (.enter 201 (.pointer (some p)::args)):=by kernel_rfl
@[go_sem] theorem aeF {p:Addr} {args:List Value}:aI Tryz.prog (.iface 153 (.agg ⟨[.iface 147 (.pointer (some p))]⟩)) "Enter" args = .pure (.enter 159 (.agg ⟨[.iface 147 (.pointer (some p))]⟩::args)):=by kernel_rfl
@[go_sem] theorem aeG {p:Addr} {args:List Value}:aI Tryz.prog (.iface 153 (.agg ⟨[.iface 147 (.pointer (some p))]⟩)) "Wait" args = .pure (.enter 160 (.agg ⟨[.iface 147 (.pointer (some p))]⟩::args)):=by kernel_rfl
@[go_sem] theorem aeH {p:Addr} {args:List Value}:aI Tryz.prog (.iface 153 (.agg ⟨[.iface 147 (.pointer (some p))]⟩)) "Exit" args = .pure (.enter 153 (.pointer (some p)::args)):=by kernel_rfl
@[go_sem] theorem aeI {p:Addr} {args:List Value}:aI Tryz.prog (.iface 147 (.pointer (some p))) "Enter" args = .pure (.enter 152 (.pointer (some p)::args)):=by kernel_rfl
@[go_sem] theorem aeJ {p:Addr} {args:List Value}:aI Tryz.prog (.iface 147 (.pointer (some p))) "Wait" args = .pure (.enter 155 (.pointer (some p)::args)):=by kernel_rfl
@[go_sem] theorem aeK {p:Addr} {args:List Value}:aI Tryz.prog (.iface 274 (.pointer (some p))) "Step" args = .pure (.enter 204 (.pointer (some p)::args)):=by kernel_rfl
@[go_sem] theorem aeL {p:Addr} {args:List Value}:aI Tryz.prog (.iface 274 (.pointer (some p))) "Next" args = .pure (.enter 203 (.pointer (some p)::args)):=by kernel_rfl
@[go_sem] theorem aeM {p:Addr} {args:List Value}:aI Tryz.prog (.iface 282 (.pointer (some p))) "Step" args = .pure (.enter 209 (.pointer (some p)::args)):=by kernel_rfl
@[go_sem] theorem aeN {p:Addr} {args:List Value}:aI Tryz.prog (.iface 282 (.pointer (some p))) "Next" args = .pure (.enter 208 (.pointer (some p)::args)):=by kernel_rfl
@[go_sem] theorem aeO {p:Addr} {args:List Value}:aI Tryz.prog (.iface 160 (.agg ⟨[.iface 154 (.pointer (some p))]⟩)) "Enter" args = .pure (.enter 194 (.agg ⟨[.iface 154 (.pointer (some p))]⟩::args)):=by kernel_rfl
@[go_sem] theorem aeP {p:Addr} {args:List Value}:aI Tryz.prog (.iface 160 (.agg ⟨[.iface 154 (.pointer (some p))]⟩)) "Wait" args = .pure (.enter 195 (.agg ⟨[.iface 154 (.pointer (some p))]⟩::args)):=by kernel_rfl
@[go_sem] theorem aeQ {p:Addr} {args:List Value}:aI Tryz.prog (.iface 160 (.agg ⟨[.iface 154 (.pointer (some p))]⟩)) "Exit" args = .pure (.enter 164 (.pointer (some p)::args)):=by kernel_rfl
@[go_sem] theorem aeR {p:Addr} {args:List Value}:aI Tryz.prog (.iface 154 (.pointer (some p))) "Enter" args = .pure (.enter 163 (.pointer (some p)::args)):=by kernel_rfl
@[go_sem] theorem aeS {p:Addr} {args:List Value}:aI Tryz.prog (.iface 154 (.pointer (some p))) "Wait" args = .pure (.enter 166 (.pointer (some p)::args)):=by kernel_rfl
@[go_sem] theorem aeT {p:Addr} {args:List Value}:aI Tryz.prog (.iface 291 (.pointer (some p))) "Step" args = .pure (.enter 216 (.pointer (some p)::args)):=by kernel_rfl
@[go_sem] theorem aeU {p:Addr} {args:List Value}:aI Tryz.prog (.iface 291 (.pointer (some p))) "Next" args = .pure (.enter 215 (.pointer (some p)::args)):=by kernel_rfl
@[go_sem] theorem aeV {p:Addr} {args:List Value}:aI Tryz.prog (.iface 302 (.pointer (some p))) "Step" args = .pure (.enter 218 (.pointer (some p)::args)):=by kernel_rfl
@[go_sem] theorem aeW {p:Addr} {args:List Value}:aI Tryz.prog (.iface 302 (.pointer (some p))) "Next" args = .pure (.enter 217 (.pointer (some p)::args)):=by kernel_rfl
end Go.Proofs.YtbceiadaihphaaaGreat
