/-
A part.
-/
import Derived.Test.YtofmbmclopgldaaGreatAmY3
import Derived.KernelRfl
set_option linter.all false
namespace Go.Am
theorem xK{h h':PT aj}{i:Nat}{b:Option aj}(e:h.set i b=h'):h'.get i=b:=by subst e;exact aI
def bQ(h:PT aj)(n:Nat):Prop:=∀ i,n≤i→h.get i=none
theorem bQ.lt{h:PT aj}{n:Nat}(hw:bQ h n){i:Nat}{B:aj}(e:h.get i=some B):i<n:=by
 rcases Nat.lt_or_ge i n with q |q
 ·exact q
 ·rw[hw i q] at e;simp at e
theorem bQ.of_lt{h:PT aj}{n:Nat}(hlt:∀ i B,h.get i=some B→i<n):bQ h n:=by
 intro i hi;cases e:h.get i with
 |none=>rfl
 |some B=>have:=hlt i B e;omega
theorem bQ.set{h:PT aj}{n m i:Nat}{b:Option aj}(hw:bQ h n)(hn:n≤m)(hi:i<m):bQ (h.set i b) m:=by
 intro j hj;rw[PT.cB _ _ qJ];exact hw j qJ
theorem bQ.set'{h:PT aj}{m i:Nat}{b:Option aj}(hi:i<m)(hw:bQ h m):bQ (h.set i b) m:=hw.set (Nat.le_refl _) hi
theorem bQ.mono{h:PT aj}{n m:Nat}(hw:bQ h n)(hn:n≤m):bQ h m:=fun i hi=>hw i (Nat.le_trans hn hi)
theorem Kept.trans{a b c:PT aj}(h:Kept a b)(k:Kept b c):Kept a c:=fun i B e=>k i B (h i B e)
theorem bQ.kept{h:PT aj}{n j:Nat}{b:Option aj}(hw:bQ h n)(hj:n≤j):Kept h (h.set j b):=fun i B e=>by
 have:=hw.lt e;rw[PT.cB _ _ qJ];exact e
theorem Kept.set'{h0 h:PT aj}{N j:Nat}{b:Option aj}(hw:bQ h0 N)(hj:N≤j)(hk:Kept h0 h):Kept h0 (h.set j b):=Kept.set (fun i B e=>hw.lt e) hj hk
theorem zF{p:Prop}(h:p:=by first|omega | (repeat first|assumption|exact Kept.refl _ |refine Kept.set' (by assumption) ?_ ?_ |refine Kept.set (by assumption) ?_ ?_ |omega)):p:=h
theorem cE.wf{P:Program}{O:Over}{f:FuncId}{args:List Value}{h:PT aj}{n:Nat}{R:Value→PT aj→Nat→Prop}(e:cE P O f args h n R)(hw:bQ h n):cE P O f args h n fun v h' n'=>R v h' n'∧n≤n'∧bQ h' n':=by
 obtain⟨k,v,h',n',e,hR⟩:=e;obtain⟨p,_⟩:=Dr (tU (P:=P) (O:=O) k) f args h n [] [] v (S0 h' n') e (Nat.zero_le _) hw;exact⟨k,v,h',n',e,hR,p.next,p.wf⟩
theorem ofList_inj{L L':List Value}(h:PT.ofList .leaf 0 L=PT.ofList .leaf 0 L'):L=L':=by
 apply List.ext_getElem?;intro i;rw[←PT.aQ L i,←PT.aQ L' i,h]
noncomputable def rowOf (c:PT Value):Option (List Value):=
 match Classical.propDecidable (∃ L,c=PT.ofList .leaf 0 L) with
 | .isTrue h=>some (Classical.choose h)
 | .isFalse _=>none
theorem KH(L:List Value):rowOf (PT.ofList .leaf 0 L)=some L:=by
 have h:∃ L',PT.ofList .leaf 0 L=PT.ofList .leaf 0 L':=⟨L,rfl⟩;unfold rowOf;split
 ·rename_i h' _;rw[←ofList_inj (Classical.choose_spec h')]
 ·rename_i h' _;exact absurd h h'
theorem xN{c:PT Value}{L:List Value}(h:rowOf c=some L):c=PT.ofList .leaf 0 L:=by
 unfold rowOf at h;split at h
 ·rename_i hc _;obtain rfl:=Option.some.inj h;exact Classical.choose_spec hc
 ·simp at h
noncomputable def zE {α:Type} (k:List Value→Bool→AP α):aj→AP α
 | .cells c ro=>match rowOf c with
  |some L=>k L ro
  |none => .fail ""
 | _ => .fail ""
@[go_sem] theorem kN{α:Type}{k:List Value→Bool→AP α}{L:List Value}{ro:Bool}:zE k (.cells (PT.ofList .leaf 0 L) ro)=k L ro:=by simp only[zE,KH]
noncomputable def AP.row {α:Type} (id:Nat) (k:List Value→Bool→AP α):AP α := .get id (zE k)
@[go_sem] theorem row_eq{α:Type}{id:Nat}{k:List Value→Bool→AP α}:AP.row id k = .get id (zE k):=rfl
def AP.setRow{α:Type}(id:Nat)(L:List Value)(k:AP α):AP α := .set id (.cells (PT.ofList .leaf 0 L) false) k
@[go_sem] theorem abO{α:Type}{id:Nat}{L:List Value}{k:AP α}:AP.setRow id L k = .set id (.cells (PT.ofList .leaf 0 L) false) k:=rfl
def AP.newRow{α:Type}(L:List Value)(k:Nat→AP α):AP α := .new (.cells (PT.ofList .leaf 0 L) false) k
@[go_sem] theorem abP{α:Type}{L:List Value}{k:Nat→AP α}:AP.newRow L k = .new (.cells (PT.ofList .leaf 0 L) false) k:=rfl
theorem GV{α:Type}{k:List Value→Bool→AP α}(hk:∀ L ro,Reads (k L ro))(b:aj):Reads (zE k b):=by
 unfold zE;split
 ·split
  ·exact hk _ _
  ·exact .fail _
 ·exact .fail _
theorem dW{α:Type}{id:Nat}{k:List Value→Bool→AP α}(hk:∀ L ro,Reads (k L ro)):Reads (AP.row id k) := .get _ _ (GV hk)
theorem cA{α:Type}{h:PT aj}{id:Nat}{k:List Value→Bool→AP α}{a:α}(e:(AP.row id k).look h=some a):∃ L ro,h.get id=some (.cells (PT.ofList .leaf 0 L) ro)∧(k L ro).look h=some a:=by
 simp only[AP.row,AP.look] at e;cases hb:h.get id with
 |none=>rw[hb] at e;simp at e
 |some b=>
  rw[hb] at e;cases b with
  |cells c ro=>
   simp only[zE] at e;cases hc:rowOf c with
   |none=>rw[hc] at e;simp[AP.look] at e
   |some L=>rw[hc] at e;rw[xN hc];exact⟨L,ro,rfl,e⟩
  | _=>simp[zE,AP.look] at e
theorem nJ{h:PT aj}{n:Nat}{id:Nat}{k:List Value→Bool→AP Value}{v:Value}{s':HS}(e:(AP.row id k).run 0 (S0 h n) = .ok v s'):∃ L ro,h.get id=some (.cells (PT.ofList .leaf 0 L) ro)∧(k L ro).run 0 (S0 h n) = .ok v s':=by
 simp only[AP.row,AP.run,show (S0 h n).heap=h from rfl] at e;cases hb:h.get id with
 |none=>rw[hb] at e;simp at e
 |some b=>
  rw[hb] at e;simp only[show Nat.blt id 0=false from rfl,cond_false] at e;cases b with
  |cells c ro=>
   simp only[zE] at e;cases hc:rowOf c with
   |none=>rw[hc] at e;simp[AP.run] at e
   |some L=>rw[hc] at e;rw[xN hc];exact⟨L,ro,rfl,e⟩
  | _=>simp[zE,AP.run] at e
theorem oX{α:Type}{h:PT aj}{id:Nat}{k:aj→AP α}:(AP.get id k).look h=match h.get id with |some b=>(k b).look h |none=>none:=by
 rw[AP.look];cases h.get id<;>rfl
@[go_sem] theorem aF{α:Type}{h:PT aj}{a:α}:(AP.pure a).look h=some a:=by rw[AP.look]
theorem f_{α:Type}{h:PT aj}{b:Bool}{p:AP α}{w:String}{a:α}(e:(cond b p (.fail w)).look h=some a):b=true∧p.look h=some a:=by
 cases b with
 |false=>simp[AP.look] at e
 |true=>exact⟨rfl,e⟩
theorem aJ{α β:Type}{h:PT aj}{p:AP α}{f:α→AP β}{b:β}(e:(p.bind f).look h=some b):∃ a,p.look h=some a∧(f a).look h=some b:=by
 rw[mG] at e;cases hp:p.look h with
 |none=>rw[hp] at e;simp at e
 |some a=>rw[hp] at e;exact⟨a,rfl,e⟩
theorem cC.set{I:Nat→Nat→Prop}{Old:Value→Prop}:∀ {l l':List Value} (i:Nat) {v v':Value},cC I Old l l'→jc I Old v v'→cC I Old (l.set i v) (l'.set i v')
 | _,_,i,_,_,.nil,_ => .nil
 | _,_,0,_,_,.cons _ _ _ _ _ t,h => .cons _ _ _ _ h t
 | _,_,i+1,_,_,.cons _ _ _ _ h' t,h => .cons _ _ _ _ h' (t.set i h)
theorem uc{σ:Nat→Nat}{n n1 i:Nat}(h: ¬ (n≤i∧i<n1)):sg σ n n1 i=i:=if_neg h
theorem xO{σ:Nat→Nat}{n n1 i:Nat}(h:n≤i∧i<n1):sg σ n n1 i=σ i:=if_pos h
theorem run_set{id:Nat}{b:aj}{p:AP Value}{h:PT aj}{n:Nat}{v:Value}{s':HS}(e:(AP.set id b p).run 0 (S0 h n) = .ok v s'):p.run 0 (S0 (h.set id (some b)) n) = .ok v s':=by
 simp only[AP.run] at e;split at e
 ·simp at e
 ·exact e
theorem DX{id:Nat}{p:AP Value}{h:PT aj}{n:Nat}{v:Value}{s':HS}(e:(AP.kill id p).run 0 (S0 h n) = .ok v s'):p.run 0 (S0 (h.set id none) n) = .ok v s':=by
 simp only[AP.run] at e;split at e
 ·simp at e
 ·exact e
theorem sK{b:aj}{p:Nat→AP Value}{h:PT aj}{n:Nat}{v:Value}{s':HS}(e:(AP.new b p).run 0 (S0 h n) = .ok v s'):(p n).run 0 (S0 (h.set n (some b)) (n+1)) = .ok v s':=e
theorem xP{w:String}{h:PT aj}{n:Nat}{v:Value}{s':HS}(e:(AP.fail w:AP Value).run 0 (S0 h n) = .ok v s'):False:=by simp[AP.run] at e
def bg(k:IntKind)(h:PT aj)(lo:Nat)(s:Value)(xs:List Int):Prop:=
 (s = .slice none 0 0∧xs=[])∨∃ b,s = .slice (some ⟨b,0,none⟩) xs.length (aA+1)∧lo≤b∧h.get b=some (.cells (PT.ofList .leaf 0 (xs.map (.int k))) false)
theorem bg.cR{k:IntKind}{h:PT aj}{lo:Nat}{s:Value}{xs:List Int}(hs:bg k h lo s xs):aN k h s xs:=by
 rcases hs with hs | ⟨b,e,_,hb⟩
 ·exact .inl hs
 ·refine .inr ⟨b,0,none,_,_,_,e,hb,?_,?_⟩
  ·simp[jd]
  ·rw[List.drop_zero];exact jH
theorem bg.set{k:IntKind}{h:PT aj}{lo j:Nat}{s:Value}{xs:List Int}{B:Option aj}(hs:bg k h lo s xs)(hj:∀ b c,s = .slice (some ⟨b,0,none⟩) xs.length c→j≠b):bg k (h.set j B) lo s xs:=by
 rcases hs with hs | ⟨b,e,hl,hb⟩
 ·exact .inl hs
 ·exact .inr ⟨b,e,hl,by rw[PT.cB _ _ (hj b _ e)];exact hb⟩
theorem bg.low{k:IntKind}{h:PT aj}{lo j:Nat}{s:Value}{xs:List Int}{B:Option aj}(hs:bg k h lo s xs)(hj:j<lo):bg k (h.set j B) lo s xs:=by
 rcases hs with hs | ⟨b,e,hl,hb⟩
 ·exact .inl hs
 ·exact .inr ⟨b,e,hl,by rw[PT.cB _ _ qJ];exact hb⟩
theorem bg.fresh{k:IntKind}{h:PT aj}{lo n j:Nat}{s:Value}{xs:List Int}{B:Option aj}(hs:bg k h lo s xs)(hW:bQ h n)(hj:n≤j):bg k (h.set j B) lo s xs:=by
 rcases hs with hs | ⟨b,e,hl,hb⟩
 ·exact .inl hs
 ·have:=hW.lt hb;exact .inr ⟨b,e,hl,by rw[PT.cB _ _ qJ];exact hb⟩
def AP.ids{α:Type}(h:PT aj):AP α→List Nat→List Nat
 | .get id k,l=>match h.get id with
  |some b=>(k b).ids h (id::l)
  |none=>l
 | _,l=>l
theorem Ai{α:Type}{h:PT aj}{n:Nat}{wr:List Nat}:∀ {p:AP α} {a:α} {rd:List Nat},p.look h=some a→p.note ⟨h,n,rd,wr⟩ = .ok a ⟨h,n,p.ids h rd,wr⟩
 | .pure b,a,rd,e=>by simp only[AP.look,Option.some.injEq] at e;subst e;rfl
 | .fail w,a,rd,e=>by simp[AP.look] at e
 | .set ..,a,rd,e=>by simp[AP.look] at e
 | .kill ..,a,rd,e=>by simp[AP.look] at e
 | .new ..,a,rd,e=>by simp[AP.look] at e
 | .get id k,a,rd,e=>by
  simp only[AP.look] at e;simp only[AP.note,AP.ids];cases hb:h.get id with
  |none=>rw[hb] at e;simp at e
  |some b=>rw[hb] at e;exact Ai e
theorem eT{α:Type}{p:AP α}{a:α}{h0 h:PT aj}(hs:p.look h0=some a){z:Zx}{L:List (Nat×Nat)}{f:α→AP aG}{d:Option Nat}{ops r:List Oper}{K:List KF}{m:Tm}{n lo:Nat}{rd wr:List Nat}{fs:List bO}(hk:Kept h0 h):
  lD z L (p.bind f) d ops r K m h n lo rd wr fs↔lD z L (f a) d ops r K m h n lo (p.ids h rd) wr fs:=by
 unfold lD;simp only[jA,Ai (n:=n) (wr:=wr) (rd:=rd) (gT hk hs),aS]
@[go_sem] theorem YX{a:List Nat}:meets a []=false:=by
 induction a with
 |nil=>rfl
 |cons x l ih=>simp only[GR,List.any_nil,ih,Bool.or_false]
@[go_sem] theorem L4{a:List Nat}{n:Nat}:bR a n n=false:=by
 induction a with
 |nil=>rfl
 |cons x l ih=>
  simp only[vG,ih,Bool.or_false]
  rcases Nat.lt_or_ge x n with q |q
  ·rw[fZ q];rfl
  ·rw[Ks q];simp
end Go.Am
