/-
  The abstract machine, for proofs with variables: rows as wholes in summaries; what is beyond the heap's end; looks within regions that draw.
-/
import Derived.Test.YtbceiadaihphaaaGreatAmY3
import Derived.KernelRfl
set_option linter.unusedSimpArgs false
set_option linter.unusedVariables false
namespace Go.Am
theorem y4 {h h':PT aj} {i:Nat} {b:Option aj} (e:h.set i b=h'):h'.get i=b:=by subst e;exact cG
def iG (h:PT aj) (n:Nat):Prop:=∀ i,n≤i→h.get i=none
theorem iG.lt {h:PT aj} {n:Nat} (hw:iG h n) {i:Nat} {B:aj} (e:h.get i=some B):i<n:=by
 rcases Nat.lt_or_ge i n with q |q
 ·exact q
 ·rw[hw i q] at e;simp at e
theorem iG.set {h:PT aj} {n m i:Nat} {b:Option aj} (hw:iG h n) (hn:n≤m) (hi:i<m):iG (h.set i b) m:=by
 intro j hj
 rw[PT.cF _ _ (by omega)]
 exact hw j (by omega)
theorem iG.set' {h:PT aj} {m i:Nat} {b:Option aj} (hi:i<m) (hw:iG h m):iG (h.set i b) m:=hw.set (Nat.le_refl _) hi
theorem iG.mono {h:PT aj} {n m:Nat} (hw:iG h n) (hn:n≤m):iG h m:=fun i hi=>hw i (Nat.le_trans hn hi)
theorem Kept.trans {a b c:PT aj} (h:Kept a b) (k:Kept b c):Kept a c:=fun i B e=>k i B (h i B e)
theorem iG.kept {h:PT aj} {n j:Nat} {b:Option aj} (hw:iG h n) (hj:n≤j):Kept h (h.set j b):=fun i B e=>by
 have:=hw.lt e
 rw[PT.cF _ _ (by omega)];exact e
theorem Kept.set' {h0 h:PT aj} {N j:Nat} {b:Option aj} (hw:iG h0 N) (hj:N≤j) (hk:Kept h0 h):Kept h0 (h.set j b):=Kept.set (fun i B e=>hw.lt e) hj hk
theorem b9.wf {P:Program} {O:dK} {f:FuncId} {args:List Value} {h:PT aj} {n:Nat} {R:Value→PT aj→Nat→Prop} (e:b9 P O f args h n R) (hw:iG h n):b9 P O f args h n fun v h' n'=>R v h' n'∧n≤n'∧iG h' n':=by
 obtain⟨k,v,h',n',e,hR⟩:=e
 obtain⟨p,_⟩:=vR (pI (P:=P) (O:=O) k) f args h n [] [] v (S0 h' n') e (Nat.zero_le _) hw
 exact⟨k,v,h',n',e,hR,p.next,p.wf⟩
theorem ofList_inj {L L':List Value} (h:PT.ofList .leaf 0 L=PT.ofList .leaf 0 L'):L=L':=by
 apply List.ext_getElem?
 intro i
 rw[←PT.bf L i,←PT.bf L' i,h]
noncomputable def rowOf (c:PT Value):Option (List Value):=
 match Classical.propDecidable (∃ L,c=PT.ofList .leaf 0 L) with
 | .isTrue h=>some (Classical.choose h)
 | .isFalse _=>none
theorem BJ (L:List Value):rowOf (PT.ofList .leaf 0 L)=some L:=by
 have h:∃ L',PT.ofList .leaf 0 L=PT.ofList .leaf 0 L':=⟨L,rfl⟩
 unfold rowOf
 split
 ·rename_i h' _
  rw[←ofList_inj (Classical.choose_spec h')]
 ·rename_i h' _;exact absurd h h'
theorem y6 {c:PT Value} {L:List Value} (h:rowOf c=some L):c=PT.ofList .leaf 0 L:=by
 unfold rowOf at h
 split at h
 ·rename_i hc _
  obtain rfl:=Option.some.inj h
  exact Classical.choose_spec hc
 ·simp at h
noncomputable def wK {α:Type} (k:List Value→Bool→AP α):aj→AP α
 | .cells c ro=>match rowOf c with
  |some L=>k L ro
  |none => .fail ""
 | _ => .fail ""
@[go_sem] theorem Q5 {α:Type} {k:List Value→Bool→AP α} {L:List Value} {ro:Bool}:wK k (.cells (PT.ofList .leaf 0 L) ro)=k L ro:=by simp only[wK,BJ]
noncomputable def AP.row {α:Type} (id:Nat) (k:List Value→Bool→AP α):AP α := .get id (wK k)
@[go_sem] theorem row_eq {α:Type} {id:Nat} {k:List Value→Bool→AP α}:AP.row id k = .get id (wK k):=rfl
def AP.setRow {α:Type} (id:Nat) (L:List Value) (k:AP α):AP α := .set id (.cells (PT.ofList .leaf 0 L) false) k
@[go_sem] theorem Ox {α:Type} {id:Nat} {L:List Value} {k:AP α}:AP.setRow id L k = .set id (.cells (PT.ofList .leaf 0 L) false) k:=rfl
def AP.newRow {α:Type} (L:List Value) (k:Nat→AP α):AP α := .new (.cells (PT.ofList .leaf 0 L) false) k
@[go_sem] theorem Oy {α:Type} {L:List Value} {k:Nat→AP α}:AP.newRow L k = .new (.cells (PT.ofList .leaf 0 L) false) k:=rfl
theorem y7 {α:Type} {k:List Value→Bool→AP α} (hk:∀ L ro,Reads (k L ro)) (b:aj):Reads (wK k b):=by
 unfold wK
 split
 ·split
  ·exact hk _ _
  ·exact .fail _
 ·exact .fail _
theorem jR {α:Type} {id:Nat} {k:List Value→Bool→AP α} (hk:∀ L ro,Reads (k L ro)):Reads (AP.row id k) := .get _ _ (y7 hk)
theorem fG {α:Type} {h:PT aj} {id:Nat} {k:List Value→Bool→AP α} {a:α} (e:(AP.row id k).look h=some a):∃ L ro,h.get id=some (.cells (PT.ofList .leaf 0 L) ro)∧(k L ro).look h=some a:=by
 simp only[AP.row,AP.look] at e
 cases hb:h.get id with
 |none=>rw[hb] at e;simp at e
 |some b=>
  rw[hb] at e
  cases b with
  |cells c ro=>
   simp only[wK] at e
   cases hc:rowOf c with
   |none=>rw[hc] at e;simp[AP.look] at e
   |some L=>rw[hc] at e;rw[y6 hc];exact⟨L,ro,rfl,e⟩
  | _=>simp[wK,AP.look] at e
@[go_sem] theorem iH {α:Type} {h:PT aj} {a:α}:(AP.pure a).look h=some a:=by rw[AP.look]
theorem mR {α:Type} {h:PT aj} {b:Bool} {p:AP α} {w:String} {a:α} (e:(cond b p (.fail w)).look h=some a):b=true∧p.look h=some a:=by
 cases b with
 |false=>simp[AP.look] at e
 |true=>exact⟨rfl,e⟩
theorem cY.set {I:Nat→Nat→Prop} {Old:Value→Prop}:∀ {l l':List Value} (i:Nat) {v v':Value},cY I Old l l'→gl I Old v v'→cY I Old (l.set i v) (l'.set i v')
 | _,_,i,_,_,.nil,_ => .nil
 | _,_,0,_,_,.cons _ _ _ _ _ t,h => .cons _ _ _ _ h t
 | _,_,i+1,_,_,.cons _ _ _ _ h' t,h => .cons _ _ _ _ h' (t.set i h)
def dX (k:IntKind) (h:PT aj) (lo:Nat) (s:Value) (xs:List Int):Prop:=
 (s = .slice none 0 0∧xs=[])∨∃ b,s = .slice (some ⟨b,0,none⟩) xs.length (aB+1)∧lo≤b∧h.get b=some (.cells (PT.ofList .leaf 0 (xs.map (.int k))) false)
theorem dX.set {k:IntKind} {h:PT aj} {lo j:Nat} {s:Value} {xs:List Int} {B:Option aj} (hs:dX k h lo s xs) (hj:∀ b c,s = .slice (some ⟨b,0,none⟩) xs.length c→j≠b):dX k (h.set j B) lo s xs:=by
 rcases hs with hs | ⟨b,e,hl,hb⟩
 ·exact .inl hs
 ·exact .inr ⟨b,e,hl,by rw[PT.cF _ _ (hj b _ e)];exact hb⟩
theorem dX.low {k:IntKind} {h:PT aj} {lo j:Nat} {s:Value} {xs:List Int} {B:Option aj} (hs:dX k h lo s xs) (hj:j<lo):dX k (h.set j B) lo s xs:=by
 rcases hs with hs | ⟨b,e,hl,hb⟩
 ·exact .inl hs
 ·exact .inr ⟨b,e,hl,by rw[PT.cF _ _ (by omega)];exact hb⟩
theorem dX.fresh {k:IntKind} {h:PT aj} {lo n j:Nat} {s:Value} {xs:List Int} {B:Option aj} (hs:dX k h lo s xs) (hW:iG h n) (hj:n≤j):dX k (h.set j B) lo s xs:=by
 rcases hs with hs | ⟨b,e,hl,hb⟩
 ·exact .inl hs
 ·have:=hW.lt hb
  exact .inr ⟨b,e,hl,by rw[PT.cF _ _ (by omega)];exact hb⟩
@[go_sem] theorem LH {a:List Nat}:meets a []=false:=by
 induction a with
 |nil=>rfl
 |cons x l ih=>simp only[yY,List.any_nil,ih,Bool.or_false]
@[go_sem] theorem CQ {a:List Nat} {n:Nat}:bZ a n n=false:=by
 induction a with
 |nil=>rfl
 |cons x l ih=>
  simp only[qA,ih,Bool.or_false]
  rcases Nat.lt_or_ge x n with q |q
  ·rw[fc q];rfl
  ·rw[Bx q];simp
end Go.Am
