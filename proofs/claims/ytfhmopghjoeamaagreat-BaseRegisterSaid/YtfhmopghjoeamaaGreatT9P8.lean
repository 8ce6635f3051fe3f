/-
  A part of the proof: contracts of inner functions.
-/
import Derived.Test.YtfhmopghjoeamaaGreatT9P4
import Derived.Test.YtfhmopghjoeamaaGreatAmY4
set_option linter.unusedVariables false
set_option linter.unusedSimpArgs false
namespace Go.Proofs.YtfhmopghjoeamaaGreat
open Go.Am
structure bZ where
 S:List Value
 H:List Int
 T:List Int
 P:List Int
 V:Int
noncomputable def rB:Value→AP bZ
 | .pointer (some ⟨lb,0,none⟩)=>AP.row lb fun (S:List Value) _=>match (S[27]? : Option Value),(S[28]? : Option Value) with
  |some hv,some tv=>(dJ .i64 hv).bind fun H=>(dJ .i64 tv).bind fun T=>match dL .i64 ((S.drop 16).take 10),(S[29]? : Option Value) with
   |some P,some (.int .i64 V)=>cond (Nat.blt H.length 100000&&Nat.beq T.length H.length&&Nat.beq S.length 30) (.pure ⟨S,H,T,P,V⟩) (.fail "")
   | _,_ => .fail ""
  | _,_ => .fail ""
 | _ => .fail ""
theorem fA (v:Value):Reads (rB v):=by
 unfold rB
 split
 ·refine nO fun S ro=>?_
  split
  ·refine mL.bind fun H=>mL.bind fun T=>?_
   split
   ·exact .cond (.pure _) (.fail _)
   ·exact .fail _
  ·exact .fail _
 ·exact .fail _
theorem gR {v:Value} {h:PT aj} {l:bZ} (hR:Am.Rows h) (e:(rB v).look h=some l):∃ lb ro hv tv,v = .pointer (some ⟨lb,0,none⟩)∧h.get lb=some (.cells (PT.ofList .leaf 0 l.S) ro)∧l.S[27]? = some hv∧l.S[28]? = some tv∧
  aS .i64 h hv l.H∧aS .i64 h tv l.T∧l.H.length<100000∧l.T.length=l.H.length∧l.S.length=30∧(l.S.drop 16).take 10=l.P.map (.int .i64)∧l.S[29]? = some (.int .i64 l.V)∧l.S[23]? = some (.int .i64 (l.P.getD 7 0)):=by
 unfold rB at e
 split at e
 ·rename_i lb
  obtain⟨S,ro,hb,e⟩:=j6 e
  split at e
  ·rename_i hv tv Az Dw
   obtain⟨H,e1,e⟩:=bg e
   obtain⟨T,e2,e⟩:=bg e
   split at e
   ·rename_i P V hP hV
    obtain⟨hc,e⟩:=Ao e
    rw[aO] at e
    obtain rfl:=Option.some.inj e
    simp only[Bool.and_eq_true] at hc
    have h30:=Nat.eq_of_beq_eq_true hc.2
    have OG:=lM hP
    refine⟨lb,ro,hv,tv,rfl,hb,Az,Dw,oE e1 hR,oE e2 hR,Nat.le_of_ble_eq_true hc.1.1,Nat.eq_of_beq_eq_true hc.1.2,h30,OG,hV,?_⟩
    have OH:P.length=10:=by have:=congrArg List.length OG;simp at this;omega
    have h7:((S.drop 16).take 10)[7]? = (P.map (Value.int .i64))[7]? := by rw[OG]
    rw[List.getElem?_take,if_pos (by omega),List.getElem?_drop] at h7
    rw[show 16+7=23 from rfl] at h7
    simp only
    rw[h7,List.getElem?_map,List.getElem?_eq_getElem (by omega)]
    simp[List.getD,List.getElem?_eq_getElem (show 7<P.length by omega)]
   ·simp[AP.look] at e
  ·simp[AP.look] at e
 ·simp[AP.look] at e
def rC (H:List Int) (t:Int):Int:=if 1≤t∧t≤H.length then H.getD (t-1).toNat 0 else 0
def oT (H:List Int) (t:Int):Int:=if 1≤t∧t≤H.length then 0 else 3
def eo (H:List Int) (t:Int):Value := .tuple ⟨[.int .i64 (rC H t),.int .i64 (oT H t)]⟩
noncomputable def cR:List Value→Option (AP Value)
 | [.pointer none,.int .i64 t]=>some (.pure (.tuple ⟨[.int .i64 0,.int .i64 1]⟩))
 | [.pointer (some a),.int .i64 t]=>some ((rB (.pointer (some a))).bind fun l => .pure (eo l.H t))
 | _=>none
abbrev Ow:Over:=jD [(79,cY)]
theorem V5:cr Tryz.prog Ow:=bt (.cons o_ .nil)
theorem tX:bR Tryz.prog 80 cR:=by
 refine cW V5 cO ?_ ?_ ?_
 ·intro args m hm
  unfold cR at hm
  split at hm
  ·obtain rfl:=Option.some.inj hm;exact .pure _
  ·obtain rfl:=Option.some.inj hm;exact(fA _).bind fun l => .pure _
  ·simp at hm
 ·intro args m h v hm e
  unfold cR at hm
  split at hm
  ·obtain rfl:=Option.some.inj hm;rw[aO] at e;obtain rfl:=Option.some.inj e;exact .tuple _ (by simp;exact⟨.int _ _,.int _ _⟩)
  ·obtain rfl:=Option.some.inj hm
   obtain⟨l,_,e⟩:=bg e
   rw[aO] at e;obtain rfl:=Option.some.inj e
   exact .tuple _ (by simp;exact⟨.int _ _,.int _ _⟩)
  ·simp at hm
 ·intro args m h N v hm hR hlt e
  unfold cR at hm
  split at hm
  ·obtain rfl:=Option.some.inj hm;rw[aO] at e;obtain rfl:=Option.some.inj e
   refine aB (N:=24) Tryz.func80 rfl rfl ?_
   intro z hP hO hro hN hQ
   repeat' first |simp(maxSteps:=2000000) (disch:=first |omega |assumption |exact Kept.refl _) only[go_sem, *,Tryz.results80,implies_true] | (first |apply fW |apply fS |apply fX |apply fT |apply fU |apply fV |apply fY |apply fZ)<;>intro _ | (first |apply iW |apply iX |apply iY |apply iZ)<;>intro _ |refine aG (by cbv) (by first |rfl |cbv) ?_
  ·rename_i pa t
   ·obtain rfl:=Option.some.inj hm
    obtain⟨l,hl,e⟩:=bg e
    rw[aO] at e;obtain rfl:=Option.some.inj e
    obtain⟨lb,ro,hv,tv,hp,hb,Az,Dw,hH,hT,HY,HZ,Gd,yt,J3,Ge⟩:=gR hR hl
    cases hp
    obtain⟨a,c,rfl,hA⟩:=hH.len
    clear hl
    by_cases hin:1≤t∧t≤l.H.length
    ·obtain⟨b,off,sp,L,Mh,rfl,hb',hL⟩:=hA (t-1).toNat (by omega)
     have OI:=hin.1
     have OJ:=hin.2
     refine aB (N:=24) Tryz.func80 rfl rfl ?_
     intro z hP hO hro hN hQ
     repeat' first |simp(maxSteps:=2000000) (disch:=first |omega |assumption |exact Kept.refl _) only[go_sem, *,Tryz.results80,cY,eo,rC,oT,implies_true] | (first |apply fW |apply fS |apply fX |apply fT |apply fU |apply fV |apply fY |apply fZ)<;>intro _ | (first |apply iW |apply iX |apply iY |apply iZ)<;>intro _ |refine aG (by cbv) (by first |rfl |cbv) ?_
    ·refine aB (N:=24) Tryz.func80 rfl rfl ?_
     intro z hP hO hro hN hQ
     repeat' first |simp(maxSteps:=2000000) (disch:=first |omega |assumption |exact Kept.refl _) only[go_sem, *,Tryz.results80,cY,eo,rC,oT,implies_true] | (first |apply fW |apply fS |apply fX |apply fT |apply fU |apply fV |apply fY |apply fZ)<;>intro _ | (first |apply iW |apply iX |apply iY |apply iZ)<;>intro _ |refine aG (by cbv) (by first |rfl |cbv) ?_
  ·simp at hm
def Gf (l:bZ) (t w:Int):Int:=if (1≤t∧t≤l.H.length)∧(0≤w∧w≤4) then IntKind.i64.wrap (l.T.getD (t-1).toNat 0+w) else 0
def Gg (l:bZ) (t w:Int):Int:=if (1≤t∧t≤l.H.length)∧(0≤w∧w≤4) then 0 else 3
def za (l:bZ) (t w:Int):Value := .tuple ⟨[.int .i64 (Gf l t w),.int .i64 (Gg l t w)]⟩
noncomputable abbrev Owh:Over:=jD [(79,cY),(80,cR)]
theorem OL:cr Tryz.prog Owh:=bt (.cons o_ (.cons tX .nil))
noncomputable def jy:List Value→Option (AP Value)
 | [.pointer none]=>some (.pure (.int .i64 0))
 | [.pointer (some p)]=>some ((rB (.pointer (some p))).bind fun l => .pure (.int .i64 l.H.length))
 | _=>none
set_option maxRecDepth 100000 in
set_option maxHeartbeats 4000000 in
theorem Gh:bR Tryz.prog 27 jy:=by
 refine cW (bt .nil) cO ?_ ?_ ?_
 ·intro args m hm
  unfold jy at hm
  split at hm
  ·obtain rfl:=Option.some.inj hm;exact .pure _
  ·obtain rfl:=Option.some.inj hm;exact(fA _).bind fun l => .pure _
  ·simp at hm
 ·intro args m h v hm e
  unfold jy at hm
  split at hm
  ·obtain rfl:=Option.some.inj hm;rw[aO] at e;obtain rfl:=Option.some.inj e;exact .int _ _
  ·obtain rfl:=Option.some.inj hm
   obtain⟨l,hl,e⟩:=bg e
   rw[aO] at e;obtain rfl:=Option.some.inj e
   exact .int _ _
  ·simp at hm
 ·intro args m h N v hm hR hlt e
  unfold jy at hm
  split at hm
  ·obtain rfl:=Option.some.inj hm;rw[aO] at e;obtain rfl:=Option.some.inj e
   refine aB (N:=10) Tryz.func27 rfl rfl ?_
   intro z hP hO hro hN hQ
   repeat' first |simp(maxSteps:=2000000) (disch:=first |omega |assumption |exact Kept.refl _) only[go_sem, *,Tryz.results27,implies_true] | (first |apply fW |apply fS |apply fX |apply fT |apply fU |apply fV |apply fY |apply fZ)<;>intro _
   all_goals first | (intro i hi;simp(disch:=omega) only[bf];done) | (refine⟨?_,fun i hi=>by simp(disch:=omega) only[bf]⟩;rfl)
  ·rename_i p
   obtain rfl:=Option.some.inj hm
   obtain⟨l,hl,e⟩:=bg e
   rw[aO] at e;obtain rfl:=Option.some.inj e
   have hW:=bX.of_lt hlt
   have hrl:=fun h' hk z f d ops r K m n=>@dg _ _ _ _ h' hl z f d ops r K m n hk
   obtain⟨lb,ro,hv,tv,hp,hb,Az,Dw,hH,hT,HY,HZ,Gd,yt,J3,Ge⟩:=gR hR hl
   cases hp
   have Es:=hlt _ _ hb
   clear hm
   ·obtain⟨a,c,rfl,-⟩:=hH.len
    refine aB (N:=10) Tryz.func27 rfl rfl fun z hP hO hro hN hQ=>?_
    repeat' first |simp(maxSteps:=2000000) (disch:=first |omega |assumption |exact Kept.refl _) only[go_sem, *,Tryz.results27,implies_true] | (first |apply fW |apply fS |apply fX |apply fT |apply fU |apply fV |apply fY |apply fZ)<;>intro _
  ·simp at hm
noncomputable def vC:List Value→Option (AP Value)
 | [.pointer none,.int .i64 t,.int .i64 w]=>some (.pure (.tuple ⟨[.int .i64 0,.int .i64 1]⟩))
 | [.pointer (some p),.int .i64 t,.int .i64 w]=>some ((rB (.pointer (some p))).bind fun l => .pure (za l t w))
 | _=>none
set_option maxRecDepth 100000 in
set_option maxHeartbeats 4000000 in
theorem OM:bR Tryz.prog 85 vC:=by
 refine cW OL cO ?_ ?_ ?_
 ·intro args m hm
  unfold vC at hm
  split at hm
  ·obtain rfl:=Option.some.inj hm;exact .pure _
  ·obtain rfl:=Option.some.inj hm;exact(fA _).bind fun l => .pure _
  ·simp at hm
 ·intro args m h v hm e
  unfold vC at hm
  split at hm
  ·obtain rfl:=Option.some.inj hm;rw[aO] at e;obtain rfl:=Option.some.inj e;exact .tuple _ (by simp;exact⟨.int _ _,.int _ _⟩)
  ·obtain rfl:=Option.some.inj hm
   obtain⟨l,hl,e⟩:=bg e
   rw[aO] at e;obtain rfl:=Option.some.inj e
   exact .tuple _ (by simp;exact⟨.int _ _,.int _ _⟩)
  ·simp at hm
 ·intro args m h N v hm hR hlt e
  unfold vC at hm
  split at hm
  ·obtain rfl:=Option.some.inj hm;rw[aO] at e;obtain rfl:=Option.some.inj e
   refine aB (N:=32) Tryz.func85 rfl rfl ?_
   intro z hP hO hro hN hQ
   repeat' first |simp(maxSteps:=2000000) (disch:=first |omega |assumption |exact Kept.refl _) only[go_sem, *,Tryz.results85,cY,cR,eo,rC,oT,za,Gf,Gg,implies_true] | (first |apply fW |apply fS |apply fX |apply fT |apply fU |apply fV |apply fY |apply fZ)<;>intro _
   all_goals first | (intro i hi;simp(disch:=omega) only[bf];done) | (refine⟨?_,fun i hi=>by simp(disch:=omega) only[bf]⟩;rfl)
  ·rename_i p t w
   obtain rfl:=Option.some.inj hm
   obtain⟨l,hl,e⟩:=bg e
   rw[aO] at e;obtain rfl:=Option.some.inj e
   have hW:=bX.of_lt hlt
   have hrl:=fun h' hk z f d ops r K m n=>@dg _ _ _ _ h' hl z f d ops r K m n hk
   obtain⟨lb,ro,hv,tv,hp,hb,Az,Dw,hH,hT,HY,HZ,Gd,yt,J3,Ge⟩:=gR hR hl
   cases hp
   have Es:=hlt _ _ hb
   clear hm
   by_cases hin:1≤t∧t≤l.H.length
   ·obtain⟨a,c,rfl,hA⟩:=hT.len
    obtain⟨b,off,sp,L,Mh,rfl,hb',hL⟩:=hA (t-1).toNat (by omega)
    have OI:=hin.1
    have OJ:=hin.2
    clear hl hA
    refine aB (N:=32) Tryz.func85 rfl rfl fun z hP hO hro hN hQ=>?_
    repeat' first |simp(maxSteps:=2000000) (disch:=first |omega |assumption |exact Kept.refl _) only[go_sem, *,Tryz.results85,cY,cR,eo,rC,oT,za,Gf,Gg,implies_true] | (first |apply fW |apply fS |apply fX |apply fT |apply fU |apply fV |apply fY |apply fZ)<;>intro _
   ·clear hl
    refine aB (N:=32) Tryz.func85 rfl rfl fun z hP hO hro hN hQ=>?_
    repeat' first |simp(maxSteps:=2000000) (disch:=first |omega |assumption |exact Kept.refl _) only[go_sem, *,Tryz.results85,cY,cR,eo,rC,oT,za,Gf,Gg,implies_true] | (first |apply fW |apply fS |apply fX |apply fT |apply fU |apply fV |apply fY |apply fZ)<;>intro _
  ·simp at hm
def kg (l:bZ) (r:Int):Prop:=r<0∧IntKind.i64.wrap (-1-r)<l.V
instance (l:bZ) (r:Int):Decidable (kg l r):=inferInstanceAs (Decidable (_∧_))
def vF (l:bZ) (r:Int):Int:=IntKind.i64.wrap (l.P.getD 7 0+IntKind.i64.wrap (IntKind.i64.wrap (-1-r)*7))
def qI (l:bZ) (r:Int):Value := .tuple ⟨[.int .i64 (vF l r),.bool (decide (kg l r))]⟩
def AA (l:bZ) (r lv:Int):Prop:=(1≤r∧r≤l.H.length)∧(0≤lv∧lv≤IntKind.i64.wrap (l.H.getD (r-1).toNat 0-1))
instance (l:bZ) (r lv:Int):Decidable (AA l r lv):=inferInstanceAs (Decidable ((_∧_)∧(_∧_)))
def Gi (l:bZ) (r lv:Int):Int:=if kg l r∧(0≤lv∧lv≤5) then IntKind.i64.wrap (IntKind.i64.wrap (vF l r+1)+lv) else if AA l r lv then IntKind.i64.wrap (IntKind.i64.wrap (l.T.getD (r-1).toNat 0+5)+lv) else 0
def Gj (l:bZ) (r lv:Int):Int:=if kg l r∧(0≤lv∧lv≤5) then 0 else if AA l r lv then 0 else 3
def zb (l:bZ) (r lv:Int):Value := .tuple ⟨[.int .i64 (Gi l r lv),.int .i64 (Gj l r lv)]⟩
noncomputable def oI:List Value→Option (AP Value)
 | [.pointer (some p),.int .i64 r]=>some ((rB (.pointer (some p))).bind fun l => .pure (qI l r))
 | _=>none
set_option maxRecDepth 100000 in
set_option maxHeartbeats 4000000 in
theorem OO:bR Tryz.prog 78 oI:=by
 refine cW (bt .nil) cO ?_ ?_ ?_
 ·intro args m hm
  unfold oI at hm
  split at hm
  ·obtain rfl:=Option.some.inj hm;exact(fA _).bind fun l => .pure _
  ·simp at hm
 ·intro args m h v hm e
  unfold oI at hm
  split at hm
  ·obtain rfl:=Option.some.inj hm
   obtain⟨l,hl,e⟩:=bg e
   rw[aO] at e;obtain rfl:=Option.some.inj e
   exact .tuple _ (by simp;exact⟨.int _ _,.bool _⟩)
  ·simp at hm
 ·intro args m h N v hm hR hlt e
  unfold oI at hm
  split at hm
  ·rename_i p r
   obtain rfl:=Option.some.inj hm
   obtain⟨l,hl,e⟩:=bg e
   rw[aO] at e;obtain rfl:=Option.some.inj e
   have hW:=bX.of_lt hlt
   have hrl:=fun h' hk z f d ops r K m n=>@dg _ _ _ _ h' hl z f d ops r K m n hk
   obtain⟨lb,ro,hv,tv,hp,hb,Az,Dw,hH,hT,HY,HZ,Gd,yt,J3,Ge⟩:=gR hR hl
   cases hp
   have Es:=hlt _ _ hb
   clear hm
   clear hl
   by_cases h0:r<0
   ·by_cases h1:IntKind.i64.wrap (-1-r)<l.V
    ·refine aB (N:=27) Tryz.func78 rfl rfl fun z hP hO hro hN hQ=>?_
     repeat' first |simp(maxSteps:=2000000) (disch:=first |omega |assumption |exact Kept.refl _) only[go_sem, *,Tryz.results78,qI,vF,kg,implies_true] | (first |apply fW |apply fS |apply fX |apply fT |apply fU |apply fV |apply fY |apply fZ)<;>intro _ | (first |apply iW |apply iX |apply iY |apply iZ)<;>intro _ |refine aG (id:=2) (L:=Dk) (by kernel_rfl) (by kernel_rfl) ?_
    ·refine aB (N:=27) Tryz.func78 rfl rfl fun z hP hO hro hN hQ=>?_
     repeat' first |simp(maxSteps:=2000000) (disch:=first |omega |assumption |exact Kept.refl _) only[go_sem, *,Tryz.results78,qI,vF,kg,implies_true] | (first |apply fW |apply fS |apply fX |apply fT |apply fU |apply fV |apply fY |apply fZ)<;>intro _ | (first |apply iW |apply iX |apply iY |apply iZ)<;>intro _ |refine aG (id:=2) (L:=Dk) (by kernel_rfl) (by kernel_rfl) ?_
   ·refine aB (N:=27) Tryz.func78 rfl rfl fun z hP hO hro hN hQ=>?_
    repeat' first |simp(maxSteps:=2000000) (disch:=first |omega |assumption |exact Kept.refl _) only[go_sem, *,Tryz.results78,qI,vF,kg,implies_true] | (first |apply fW |apply fS |apply fX |apply fT |apply fU |apply fV |apply fY |apply fZ)<;>intro _ | (first |apply iW |apply iX |apply iY |apply iZ)<;>intro _ |refine aG (id:=2) (L:=Dk) (by kernel_rfl) (by kernel_rfl) ?_
  ·simp at hm
noncomputable abbrev Ohh:Over:=jD [(79,cY),(78,oI),(80,cR)]
theorem OP:cr Tryz.prog Ohh:=bt (.cons o_ (.cons OO (.cons tX .nil)))
noncomputable def vG:List Value→Option (AP Value)
 | [.pointer none,.int .i64 r,.int .i64 lv]=>some (.pure (.tuple ⟨[.int .i64 0,.int .i64 1]⟩))
 | [.pointer (some p),.int .i64 r,.int .i64 lv]=>some ((rB (.pointer (some p))).bind fun l => .pure (zb l r lv))
 | _=>none
set_option maxRecDepth 100000 in
set_option maxHeartbeats 4000000 in
theorem OQ:bR Tryz.prog 44 vG:=by
 refine cW OP cO ?_ ?_ ?_
 ·intro args m hm
  unfold vG at hm
  split at hm
  ·obtain rfl:=Option.some.inj hm;exact .pure _
  ·obtain rfl:=Option.some.inj hm;exact(fA _).bind fun l => .pure _
  ·simp at hm
 ·intro args m h v hm e
  unfold vG at hm
  split at hm
  ·obtain rfl:=Option.some.inj hm;rw[aO] at e;obtain rfl:=Option.some.inj e;exact .tuple _ (by simp;exact⟨.int _ _,.int _ _⟩)
  ·obtain rfl:=Option.some.inj hm
   obtain⟨l,hl,e⟩:=bg e
   rw[aO] at e;obtain rfl:=Option.some.inj e
   exact .tuple _ (by simp;exact⟨.int _ _,.int _ _⟩)
  ·simp at hm
 ·intro args m h N v hm hR hlt e
  unfold vG at hm
  split at hm
  ·obtain rfl:=Option.some.inj hm;rw[aO] at e;obtain rfl:=Option.some.inj e
   refine aB (N:=54) Tryz.func44 rfl rfl ?_
   intro z hP hO hro hN hQ
   repeat' first |simp(maxSteps:=2000000) (disch:=first |omega |assumption |exact Kept.refl _) only[go_sem, *,Tryz.results44,cY,oI,qI,cR,eo,rC,oT,zb,Gi,Gj,AA,implies_true] | (first |apply fW |apply fS |apply fX |apply fT |apply fU |apply fV |apply fY |apply fZ)<;>intro _
   all_goals first | (intro i hi;simp(disch:=omega) only[bf];done) | (refine⟨?_,fun i hi=>by simp(disch:=omega) only[bf]⟩;rfl)
  ·rename_i p r lv
   obtain rfl:=Option.some.inj hm
   obtain⟨l,hl,e⟩:=bg e
   rw[aO] at e;obtain rfl:=Option.some.inj e
   have hW:=bX.of_lt hlt
   have hrl:=fun h' hk z f d ops r K m n=>@dg _ _ _ _ h' hl z f d ops r K m n hk
   obtain⟨lb,ro,hv,tv,hp,hb,Az,Dw,hH,hT,HY,HZ,Gd,yt,J3,Ge⟩:=gR hR hl
   cases hp
   have Es:=hlt _ _ hb
   clear hm
   by_cases hin:1≤r∧r≤l.H.length
   ·obtain⟨a,c,rfl,hA⟩:=hT.len
    obtain⟨b,off,sp,L,Mh,rfl,hb',hL⟩:=hA (r-1).toNat (by omega)
    have OI:=hin.1
    have OJ:=hin.2
    have aeX: ¬ kg l r:=fun hh=>absurd hh.1 (by omega)
    clear hl hA
    refine aB (N:=54) Tryz.func44 rfl rfl fun z hP hO hro hN hQ=>?_
    repeat' first |simp(maxSteps:=2000000) (disch:=first |omega |assumption |exact Kept.refl _) only[go_sem, *,Tryz.results44,cY,oI,qI,cR,eo,rC,oT,zb,Gi,Gj,AA,implies_true] | (first |apply fW |apply fS |apply fX |apply fT |apply fU |apply fV |apply fY |apply fZ)<;>intro _
   ·clear hl
    refine aB (N:=54) Tryz.func44 rfl rfl fun z hP hO hro hN hQ=>?_
    repeat' first |simp(maxSteps:=2000000) (disch:=first |omega |assumption |exact Kept.refl _) only[go_sem, *,Tryz.results44,cY,oI,qI,cR,eo,rC,oT,zb,Gi,Gj,AA,implies_true] | (first |apply fW |apply fS |apply fX |apply fT |apply fU |apply fV |apply fY |apply fZ)<;>intro _
  ·simp at hm
noncomputable def gi:List Value→Option (AP Value)
 | [.pointer none]=>some (.pure (.agg ⟨[.int .i64 0,.int .i64 0,.int .i64 0,.int .i64 0,.int .i64 0,.int .i64 0,.int .i64 0,.int .i64 0,.int .i64 0,.int .i64 0]⟩))
 | [.pointer (some p)]=>some ((rB (.pointer (some p))).bind fun l => .pure (.agg ⟨l.P.map (.int .i64)⟩))
 | _=>none
set_option maxRecDepth 100000 in
set_option maxHeartbeats 4000000 in
theorem Gk:bR Tryz.prog 39 gi:=by
 refine cW (bt .nil) cO ?_ ?_ ?_
 ·intro args m hm
  unfold gi at hm
  split at hm
  ·obtain rfl:=Option.some.inj hm;exact .pure _
  ·obtain rfl:=Option.some.inj hm;exact(fA _).bind fun l => .pure _
  ·simp at hm
 ·intro args m h v hm e
  unfold gi at hm
  split at hm
  ·obtain rfl:=Option.some.inj hm;rw[aO] at e;obtain rfl:=Option.some.inj e;exact .agg _ (by simp;exact .int _ _)
  ·obtain rfl:=Option.some.inj hm
   obtain⟨l,hl,e⟩:=bg e
   rw[aO] at e;obtain rfl:=Option.some.inj e
   exact .agg _ (by intro u hu;simp only[List.mem_map] at hu;obtain⟨x,_,rfl⟩:=hu;exact .int _ _)
  ·simp at hm
 ·intro args m h N v hm hR hlt e
  unfold gi at hm
  split at hm
  ·obtain rfl:=Option.some.inj hm;rw[aO] at e;obtain rfl:=Option.some.inj e
   refine aB (N:=10) Tryz.func39 rfl rfl ?_
   intro z hP hO hro hN hQ
   repeat' first |simp(maxSteps:=2000000) (disch:=first |omega |assumption |exact Kept.refl _) only[go_sem, *,Tryz.results39,implies_true] | (first |apply fW |apply fS |apply fX |apply fT |apply fU |apply fV |apply fY |apply fZ)<;>intro _
   all_goals first | (intro i hi;simp(disch:=omega) only[bf];done) | (refine⟨?_,fun i hi=>by simp(disch:=omega) only[bf]⟩;rfl)
  ·rename_i p
   obtain rfl:=Option.some.inj hm
   obtain⟨l,hl,e⟩:=bg e
   rw[aO] at e;obtain rfl:=Option.some.inj e
   have hW:=bX.of_lt hlt
   have hrl:=fun h' hk z f d ops r K m n=>@dg _ _ _ _ h' hl z f d ops r K m n hk
   obtain⟨lb,ro,hv,tv,hp,hb,Az,Dw,hH,hT,HY,HZ,Gd,yt,J3,Ge⟩:=gR hR hl
   cases hp
   have Es:=hlt _ _ hb
   clear hm
   clear hl
   have OH:l.P.length=10:=by have:=congrArg List.length yt;simp at this;omega
   obtain⟨p0,p1,p2,p3,p4,p5,p6,p7,p8,p9,OG⟩:∃ p0 p1 p2 p3 p4 p5 p6 p7 p8 p9,l.P=[p0,p1,p2,p3,p4,p5,p6,p7,p8,p9]:=by
    match hq:l.P,OH with
    | [p0,p1,p2,p3,p4,p5,p6,p7,p8,p9],_=>exact⟨p0,p1,p2,p3,p4,p5,p6,p7,p8,p9,rfl⟩
   rw[OG] at yt
   have aeY:Nat.ble 26 l.S.length=true:=by rw[Gd];rfl
   clear OH
   refine aB (N:=10) Tryz.func39 rfl rfl fun z hP hO hro hN hQ=>?_
   repeat' first |simp(maxSteps:=2000000) (disch:=first |omega |assumption |exact Kept.refl _) only[go_sem, *,Tryz.results39,implies_true] | (first |apply fW |apply fS |apply fX |apply fT |apply fU |apply fV |apply fY |apply fZ)<;>intro _
   all_goals first | (intro i hi;simp(disch:=omega) only[bf];done) | (refine⟨?_,fun i hi=>by simp(disch:=omega) only[bf]⟩;rfl)
  ·simp at hm
end Go.Proofs.YtfhmopghjoeamaaGreat
