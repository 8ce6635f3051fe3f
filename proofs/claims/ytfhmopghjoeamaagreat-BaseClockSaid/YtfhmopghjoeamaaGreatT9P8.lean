/-
  A part of the proof: contracts of inner functions.
-/
import Derived.Test.YtfhmopghjoeamaaGreatT9P4
import Derived.Test.YtfhmopghjoeamaaGreatAmY4
set_option linter.unusedVariables false
set_option linter.unusedSimpArgs false
namespace Go.Proofs.YtfhmopghjoeamaaGreat
open Go.Am
structure fG where
 S:List Value
 H:List Int
 T:List Int
 P:List Int
 V:Int
noncomputable def tC:Value→AP fG
 | .pointer (some ⟨lb,0,none⟩)=>AP.row lb fun (S:List Value) _=>match (S[27]? : Option Value),(S[28]? : Option Value) with
  |some hv,some tv=>(cV .i64 hv).bind fun H=>(cV .i64 tv).bind fun T=>match cX .i64 ((S.drop 16).take 10),(S[29]? : Option Value) with
   |some P,some (.int .i64 V)=>cond (Nat.blt H.length 100000&&Nat.beq T.length H.length&&Nat.beq S.length 30) (.pure ⟨S,H,T,P,V⟩) (.fail "")
   | _,_ => .fail ""
  | _,_ => .fail ""
 | _ => .fail ""
theorem eH (v:Value):Reads (tC v):=by
 unfold tC
 split
 ·refine lQ fun S ro=>?_
  split
  ·refine kZ.bind fun H=>kZ.bind fun T=>?_
   split
   ·exact .cond (.pure _) (.fail _)
   ·exact .fail _
  ·exact .fail _
 ·exact .fail _
theorem gi {v:Value} {h:PT ak} {l:fG} (hR:Am.Rows h) (e:(tC v).look h=some l):∃ lb ro hv tv,v = .pointer (some ⟨lb,0,none⟩)∧h.get lb=some (.cells (PT.ofList .leaf 0 l.S) ro)∧l.S[27]? = some hv∧l.S[28]? = some tv∧
  aZ .i64 h hv l.H∧aZ .i64 h tv l.T∧l.H.length<100000∧l.T.length=l.H.length∧l.S.length=30∧(l.S.drop 16).take 10=l.P.map (.int .i64)∧l.S[29]? = some (.int .i64 l.V)∧l.S[23]? = some (.int .i64 (l.P.getD 7 0)):=by
 unfold tC at e
 split at e
 ·rename_i lb
  obtain⟨S,ro,hb,e⟩:=jA e
  split at e
  ·rename_i hv tv xW AI
   obtain⟨H,e1,e⟩:=aX e
   obtain⟨T,e2,e⟩:=aX e
   split at e
   ·rename_i P V hP hV
    obtain⟨hc,e⟩:=xL e
    rw[aN] at e
    obtain rfl:=Option.some.inj e
    simp only[Bool.and_eq_true] at hc
    have YA:=Nat.eq_of_beq_eq_true hc.2
    have J7:=kA hP
    refine⟨lb,ro,hv,tv,rfl,hb,xW,AI,mK e1 hR,mK e2 hR,Nat.le_of_ble_eq_true hc.1.1,Nat.eq_of_beq_eq_true hc.1.2,YA,J7,hV,?_⟩
    have J8:P.length=10:=by have:=congrArg List.length J7;simp at this;omega
    have h7:((S.drop 16).take 10)[7]? = (P.map (Value.int .i64))[7]? := by rw[J7]
    rw[List.getElem?_take,if_pos (by omega),List.getElem?_drop] at h7
    rw[show 16+7=23 from rfl] at h7
    simp only
    rw[h7,List.getElem?_map,List.getElem?_eq_getElem (by omega)]
    simp[List.getD,List.getElem?_eq_getElem (show 7<P.length by omega)]
   ·simp[AP.look] at e
  ·simp[AP.look] at e
 ·simp[AP.look] at e
def qW (H:List Int) (t:Int):Int:=if 1≤t∧t≤H.length then H.getD (t-1).toNat 0 else 0
def qX (H:List Int) (t:Int):Int:=if 1≤t∧t≤H.length then 0 else 3
def fH (H:List Int) (t:Int):Value := .tuple ⟨[.int .i64 (qW H t),.int .i64 (qX H t)]⟩
noncomputable def cY:List Value→Option (AP Value)
 | [.pointer none,.int .i64 t]=>some (.pure (.tuple ⟨[.int .i64 0,.int .i64 1]⟩))
 | [.pointer (some a),.int .i64 t]=>some ((tC (.pointer (some a))).bind fun l => .pure (fH l.H t))
 | _=>none
abbrev Ow:Over:=iV [(79,cG)]
theorem Qs:bW Tryz.prog Ow:=bn (.cons nr .nil)
theorem qY:bL Tryz.prog 80 cY:=by
 refine cE Qs ct ?_ ?_ ?_
 ·intro args m hm
  unfold cY at hm
  split at hm
  ·obtain rfl:=Option.some.inj hm;exact .pure _
  ·obtain rfl:=Option.some.inj hm;exact(eH _).bind fun l => .pure _
  ·simp at hm
 ·intro args m h v hm e
  unfold cY at hm
  split at hm
  ·obtain rfl:=Option.some.inj hm;rw[aN] at e;obtain rfl:=Option.some.inj e;exact .tuple _ (by simp;exact⟨.int _ _,.int _ _⟩)
  ·obtain rfl:=Option.some.inj hm
   obtain⟨l,_,e⟩:=aX e
   rw[aN] at e;obtain rfl:=Option.some.inj e
   exact .tuple _ (by simp;exact⟨.int _ _,.int _ _⟩)
  ·simp at hm
 ·intro args m h N v hm hR hlt e
  unfold cY at hm
  split at hm
  ·obtain rfl:=Option.some.inj hm;rw[aN] at e;obtain rfl:=Option.some.inj e
   refine aD (N:=24) Tryz.func80 rfl rfl ?_
   intro z hP hO hro hN hQ
   repeat' first |simp(maxSteps:=2000000) (disch:=first |omega |assumption |exact Kept.refl _) only[go_sem, *,Tryz.results80,implies_true] | (first |apply fA |apply fc |apply fB |apply fk |apply fm |apply fq |apply fC |apply fD)<;>intro _ | (first |apply ig |apply ij |apply iq |apply iu)<;>intro _ |refine aG (by cbv) (by first |rfl |cbv) ?_
  ·rename_i pa t
   ·obtain rfl:=Option.some.inj hm
    obtain⟨l,hl,e⟩:=aX e
    rw[aN] at e;obtain rfl:=Option.some.inj e
    obtain⟨lb,ro,hv,tv,hp,hb,xW,AI,hH,hT,Eg,Eh,CU,vB,FT,CV⟩:=gi hR hl
    cases hp
    obtain⟨a,c,rfl,hA⟩:=hH.len
    clear hl
    by_cases hin:1≤t∧t≤l.H.length
    ·obtain⟨b,off,sp,L,HQ,rfl,hb',hL⟩:=hA (t-1).toNat (by omega)
     have J9:=hin.1
     have J_:=hin.2
     refine aD (N:=24) Tryz.func80 rfl rfl ?_
     intro z hP hO hro hN hQ
     repeat' first |simp(maxSteps:=2000000) (disch:=first |omega |assumption |exact Kept.refl _) only[go_sem, *,Tryz.results80,cG,fH,qW,qX,implies_true] | (first |apply fA |apply fc |apply fB |apply fk |apply fm |apply fq |apply fC |apply fD)<;>intro _ | (first |apply ig |apply ij |apply iq |apply iu)<;>intro _ |refine aG (by cbv) (by first |rfl |cbv) ?_
    ·refine aD (N:=24) Tryz.func80 rfl rfl ?_
     intro z hP hO hro hN hQ
     repeat' first |simp(maxSteps:=2000000) (disch:=first |omega |assumption |exact Kept.refl _) only[go_sem, *,Tryz.results80,cG,fH,qW,qX,implies_true] | (first |apply fA |apply fc |apply fB |apply fk |apply fm |apply fq |apply fC |apply fD)<;>intro _ | (first |apply ig |apply ij |apply iq |apply iu)<;>intro _ |refine aG (by cbv) (by first |rfl |cbv) ?_
  ·simp at hm
def CW (l:fG) (t w:Int):Int:=if (1≤t∧t≤l.H.length)∧(0≤w∧w≤4) then IntKind.i64.wrap (l.T.getD (t-1).toNat 0+w) else 0
def CX (l:fG) (t w:Int):Int:=if (1≤t∧t≤l.H.length)∧(0≤w∧w≤4) then 0 else 3
def wq (l:fG) (t w:Int):Value := .tuple ⟨[.int .i64 (CW l t w),.int .i64 (CX l t w)]⟩
noncomputable abbrev YB:Over:=iV [(79,cG),(80,cY)]
theorem Ka:bW Tryz.prog YB:=bn (.cons nr (.cons qY .nil))
noncomputable def jS:List Value→Option (AP Value)
 | [.pointer none]=>some (.pure (.int .i64 0))
 | [.pointer (some p)]=>some ((tC (.pointer (some p))).bind fun l => .pure (.int .i64 l.H.length))
 | _=>none
set_option maxRecDepth 100000 in
set_option maxHeartbeats 4000000 in
theorem CY:bL Tryz.prog 27 jS:=by
 refine cE (bn .nil) ct ?_ ?_ ?_
 ·intro args m hm
  unfold jS at hm
  split at hm
  ·obtain rfl:=Option.some.inj hm;exact .pure _
  ·obtain rfl:=Option.some.inj hm;exact(eH _).bind fun l => .pure _
  ·simp at hm
 ·intro args m h v hm e
  unfold jS at hm
  split at hm
  ·obtain rfl:=Option.some.inj hm;rw[aN] at e;obtain rfl:=Option.some.inj e;exact .int _ _
  ·obtain rfl:=Option.some.inj hm
   obtain⟨l,hl,e⟩:=aX e
   rw[aN] at e;obtain rfl:=Option.some.inj e
   exact .int _ _
  ·simp at hm
 ·intro args m h N v hm hR hlt e
  unfold jS at hm
  split at hm
  ·obtain rfl:=Option.some.inj hm;rw[aN] at e;obtain rfl:=Option.some.inj e
   refine aD (N:=10) Tryz.func27 rfl rfl ?_
   intro z hP hO hro hN hQ
   repeat' first |simp(maxSteps:=2000000) (disch:=first |omega |assumption |exact Kept.refl _) only[go_sem, *,Tryz.results27,implies_true] | (first |apply fA |apply fc |apply fB |apply fk |apply fm |apply fq |apply fC |apply fD)<;>intro _
   all_goals first | (intro i hi;simp(disch:=omega) only[aY];done) | (refine⟨?_,fun i hi=>by simp(disch:=omega) only[aY]⟩;rfl)
  ·rename_i p
   obtain rfl:=Option.some.inj hm
   obtain⟨l,hl,e⟩:=aX e
   rw[aN] at e;obtain rfl:=Option.some.inj e
   have hW:=cW.of_lt hlt
   have hrl:=fun h' hk z f d ops r K m n=>@eo _ _ _ _ h' hl z f d ops r K m n hk
   obtain⟨lb,ro,hv,tv,hp,hb,xW,AI,hH,hT,Eg,Eh,CU,vB,FT,CV⟩:=gi hR hl
   cases hp
   have Bt:=hlt _ _ hb
   clear hm
   ·obtain⟨a,c,rfl,-⟩:=hH.len
    refine aD (N:=10) Tryz.func27 rfl rfl fun z hP hO hro hN hQ=>?_
    repeat' first |simp(maxSteps:=2000000) (disch:=first |omega |assumption |exact Kept.refl _) only[go_sem, *,Tryz.results27,implies_true] | (first |apply fA |apply fc |apply fB |apply fk |apply fm |apply fq |apply fC |apply fD)<;>intro _
  ·simp at hm
noncomputable def tD:List Value→Option (AP Value)
 | [.pointer none,.int .i64 t,.int .i64 w]=>some (.pure (.tuple ⟨[.int .i64 0,.int .i64 1]⟩))
 | [.pointer (some p),.int .i64 t,.int .i64 w]=>some ((tC (.pointer (some p))).bind fun l => .pure (wq l t w))
 | _=>none
set_option maxRecDepth 100000 in
set_option maxHeartbeats 4000000 in
theorem Kc:bL Tryz.prog 85 tD:=by
 refine cE Ka ct ?_ ?_ ?_
 ·intro args m hm
  unfold tD at hm
  split at hm
  ·obtain rfl:=Option.some.inj hm;exact .pure _
  ·obtain rfl:=Option.some.inj hm;exact(eH _).bind fun l => .pure _
  ·simp at hm
 ·intro args m h v hm e
  unfold tD at hm
  split at hm
  ·obtain rfl:=Option.some.inj hm;rw[aN] at e;obtain rfl:=Option.some.inj e;exact .tuple _ (by simp;exact⟨.int _ _,.int _ _⟩)
  ·obtain rfl:=Option.some.inj hm
   obtain⟨l,hl,e⟩:=aX e
   rw[aN] at e;obtain rfl:=Option.some.inj e
   exact .tuple _ (by simp;exact⟨.int _ _,.int _ _⟩)
  ·simp at hm
 ·intro args m h N v hm hR hlt e
  unfold tD at hm
  split at hm
  ·obtain rfl:=Option.some.inj hm;rw[aN] at e;obtain rfl:=Option.some.inj e
   refine aD (N:=32) Tryz.func85 rfl rfl ?_
   intro z hP hO hro hN hQ
   repeat' first |simp(maxSteps:=2000000) (disch:=first |omega |assumption |exact Kept.refl _) only[go_sem, *,Tryz.results85,cG,cY,fH,qW,qX,wq,CW,CX,implies_true] | (first |apply fA |apply fc |apply fB |apply fk |apply fm |apply fq |apply fC |apply fD)<;>intro _
   all_goals first | (intro i hi;simp(disch:=omega) only[aY];done) | (refine⟨?_,fun i hi=>by simp(disch:=omega) only[aY]⟩;rfl)
  ·rename_i p t w
   obtain rfl:=Option.some.inj hm
   obtain⟨l,hl,e⟩:=aX e
   rw[aN] at e;obtain rfl:=Option.some.inj e
   have hW:=cW.of_lt hlt
   have hrl:=fun h' hk z f d ops r K m n=>@eo _ _ _ _ h' hl z f d ops r K m n hk
   obtain⟨lb,ro,hv,tv,hp,hb,xW,AI,hH,hT,Eg,Eh,CU,vB,FT,CV⟩:=gi hR hl
   cases hp
   have Bt:=hlt _ _ hb
   clear hm
   by_cases hin:1≤t∧t≤l.H.length
   ·obtain⟨a,c,rfl,hA⟩:=hT.len
    obtain⟨b,off,sp,L,HQ,rfl,hb',hL⟩:=hA (t-1).toNat (by omega)
    have J9:=hin.1
    have J_:=hin.2
    clear hl hA
    refine aD (N:=32) Tryz.func85 rfl rfl fun z hP hO hro hN hQ=>?_
    repeat' first |simp(maxSteps:=2000000) (disch:=first |omega |assumption |exact Kept.refl _) only[go_sem, *,Tryz.results85,cG,cY,fH,qW,qX,wq,CW,CX,implies_true] | (first |apply fA |apply fc |apply fB |apply fk |apply fm |apply fq |apply fC |apply fD)<;>intro _
   ·clear hl
    refine aD (N:=32) Tryz.func85 rfl rfl fun z hP hO hro hN hQ=>?_
    repeat' first |simp(maxSteps:=2000000) (disch:=first |omega |assumption |exact Kept.refl _) only[go_sem, *,Tryz.results85,cG,cY,fH,qW,qX,wq,CW,CX,implies_true] | (first |apply fA |apply fc |apply fB |apply fk |apply fm |apply fq |apply fC |apply fD)<;>intro _
  ·simp at hm
def jB (l:fG) (r:Int):Prop:=r<0∧IntKind.i64.wrap (-1-r)<l.V
instance (l:fG) (r:Int):Decidable (jB l r):=inferInstanceAs (Decidable (_∧_))
def tE (l:fG) (r:Int):Int:=IntKind.i64.wrap (l.P.getD 7 0+IntKind.i64.wrap (IntKind.i64.wrap (-1-r)*7))
def oT (l:fG) (r:Int):Value := .tuple ⟨[.int .i64 (tE l r),.bool (decide (jB l r))]⟩
def xX (l:fG) (r lv:Int):Prop:=(1≤r∧r≤l.H.length)∧(0≤lv∧lv≤IntKind.i64.wrap (l.H.getD (r-1).toNat 0-1))
instance (l:fG) (r lv:Int):Decidable (xX l r lv):=inferInstanceAs (Decidable ((_∧_)∧(_∧_)))
def CZ (l:fG) (r lv:Int):Int:=if jB l r∧(0≤lv∧lv≤5) then IntKind.i64.wrap (IntKind.i64.wrap (tE l r+1)+lv) else if xX l r lv then IntKind.i64.wrap (IntKind.i64.wrap (l.T.getD (r-1).toNat 0+5)+lv) else 0
def C0 (l:fG) (r lv:Int):Int:=if jB l r∧(0≤lv∧lv≤5) then 0 else if xX l r lv then 0 else 3
def wu (l:fG) (r lv:Int):Value := .tuple ⟨[.int .i64 (CZ l r lv),.int .i64 (C0 l r lv)]⟩
noncomputable def mM:List Value→Option (AP Value)
 | [.pointer (some p),.int .i64 r]=>some ((tC (.pointer (some p))).bind fun l => .pure (oT l r))
 | _=>none
set_option maxRecDepth 100000 in
set_option maxHeartbeats 4000000 in
theorem Ke:bL Tryz.prog 78 mM:=by
 refine cE (bn .nil) ct ?_ ?_ ?_
 ·intro args m hm
  unfold mM at hm
  split at hm
  ·obtain rfl:=Option.some.inj hm;exact(eH _).bind fun l => .pure _
  ·simp at hm
 ·intro args m h v hm e
  unfold mM at hm
  split at hm
  ·obtain rfl:=Option.some.inj hm
   obtain⟨l,hl,e⟩:=aX e
   rw[aN] at e;obtain rfl:=Option.some.inj e
   exact .tuple _ (by simp;exact⟨.int _ _,.bool _⟩)
  ·simp at hm
 ·intro args m h N v hm hR hlt e
  unfold mM at hm
  split at hm
  ·rename_i p r
   obtain rfl:=Option.some.inj hm
   obtain⟨l,hl,e⟩:=aX e
   rw[aN] at e;obtain rfl:=Option.some.inj e
   have hW:=cW.of_lt hlt
   have hrl:=fun h' hk z f d ops r K m n=>@eo _ _ _ _ h' hl z f d ops r K m n hk
   obtain⟨lb,ro,hv,tv,hp,hb,xW,AI,hH,hT,Eg,Eh,CU,vB,FT,CV⟩:=gi hR hl
   cases hp
   have Bt:=hlt _ _ hb
   clear hm
   clear hl
   by_cases h0:r<0
   ·by_cases h1:IntKind.i64.wrap (-1-r)<l.V
    ·refine aD (N:=27) Tryz.func78 rfl rfl fun z hP hO hro hN hQ=>?_
     repeat' first |simp(maxSteps:=2000000) (disch:=first |omega |assumption |exact Kept.refl _) only[go_sem, *,Tryz.results78,oT,tE,jB,implies_true] | (first |apply fA |apply fc |apply fB |apply fk |apply fm |apply fq |apply fC |apply fD)<;>intro _ | (first |apply ig |apply ij |apply iq |apply iu)<;>intro _ |refine aG (id:=2) (L:=AB) (by kernel_rfl) (by kernel_rfl) ?_
    ·refine aD (N:=27) Tryz.func78 rfl rfl fun z hP hO hro hN hQ=>?_
     repeat' first |simp(maxSteps:=2000000) (disch:=first |omega |assumption |exact Kept.refl _) only[go_sem, *,Tryz.results78,oT,tE,jB,implies_true] | (first |apply fA |apply fc |apply fB |apply fk |apply fm |apply fq |apply fC |apply fD)<;>intro _ | (first |apply ig |apply ij |apply iq |apply iu)<;>intro _ |refine aG (id:=2) (L:=AB) (by kernel_rfl) (by kernel_rfl) ?_
   ·refine aD (N:=27) Tryz.func78 rfl rfl fun z hP hO hro hN hQ=>?_
    repeat' first |simp(maxSteps:=2000000) (disch:=first |omega |assumption |exact Kept.refl _) only[go_sem, *,Tryz.results78,oT,tE,jB,implies_true] | (first |apply fA |apply fc |apply fB |apply fk |apply fm |apply fq |apply fC |apply fD)<;>intro _ | (first |apply ig |apply ij |apply iq |apply iu)<;>intro _ |refine aG (id:=2) (L:=AB) (by kernel_rfl) (by kernel_rfl) ?_
  ·simp at hm
noncomputable abbrev YC:Over:=iV [(79,cG),(78,mM),(80,cY)]
theorem Kf:bW Tryz.prog YC:=bn (.cons nr (.cons Ke (.cons qY .nil)))
noncomputable def tF:List Value→Option (AP Value)
 | [.pointer none,.int .i64 r,.int .i64 lv]=>some (.pure (.tuple ⟨[.int .i64 0,.int .i64 1]⟩))
 | [.pointer (some p),.int .i64 r,.int .i64 lv]=>some ((tC (.pointer (some p))).bind fun l => .pure (wu l r lv))
 | _=>none
set_option maxRecDepth 100000 in
set_option maxHeartbeats 4000000 in
theorem Kg:bL Tryz.prog 44 tF:=by
 refine cE Kf ct ?_ ?_ ?_
 ·intro args m hm
  unfold tF at hm
  split at hm
  ·obtain rfl:=Option.some.inj hm;exact .pure _
  ·obtain rfl:=Option.some.inj hm;exact(eH _).bind fun l => .pure _
  ·simp at hm
 ·intro args m h v hm e
  unfold tF at hm
  split at hm
  ·obtain rfl:=Option.some.inj hm;rw[aN] at e;obtain rfl:=Option.some.inj e;exact .tuple _ (by simp;exact⟨.int _ _,.int _ _⟩)
  ·obtain rfl:=Option.some.inj hm
   obtain⟨l,hl,e⟩:=aX e
   rw[aN] at e;obtain rfl:=Option.some.inj e
   exact .tuple _ (by simp;exact⟨.int _ _,.int _ _⟩)
  ·simp at hm
 ·intro args m h N v hm hR hlt e
  unfold tF at hm
  split at hm
  ·obtain rfl:=Option.some.inj hm;rw[aN] at e;obtain rfl:=Option.some.inj e
   refine aD (N:=54) Tryz.func44 rfl rfl ?_
   intro z hP hO hro hN hQ
   repeat' first |simp(maxSteps:=2000000) (disch:=first |omega |assumption |exact Kept.refl _) only[go_sem, *,Tryz.results44,cG,mM,oT,cY,fH,qW,qX,wu,CZ,C0,xX,implies_true] | (first |apply fA |apply fc |apply fB |apply fk |apply fm |apply fq |apply fC |apply fD)<;>intro _
   all_goals first | (intro i hi;simp(disch:=omega) only[aY];done) | (refine⟨?_,fun i hi=>by simp(disch:=omega) only[aY]⟩;rfl)
  ·rename_i p r lv
   obtain rfl:=Option.some.inj hm
   obtain⟨l,hl,e⟩:=aX e
   rw[aN] at e;obtain rfl:=Option.some.inj e
   have hW:=cW.of_lt hlt
   have hrl:=fun h' hk z f d ops r K m n=>@eo _ _ _ _ h' hl z f d ops r K m n hk
   obtain⟨lb,ro,hv,tv,hp,hb,xW,AI,hH,hT,Eg,Eh,CU,vB,FT,CV⟩:=gi hR hl
   cases hp
   have Bt:=hlt _ _ hb
   clear hm
   by_cases hin:1≤r∧r≤l.H.length
   ·obtain⟨a,c,rfl,hA⟩:=hT.len
    obtain⟨b,off,sp,L,HQ,rfl,hb',hL⟩:=hA (r-1).toNat (by omega)
    have J9:=hin.1
    have J_:=hin.2
    have YD: ¬ jB l r:=fun hh=>absurd hh.1 (by omega)
    clear hl hA
    refine aD (N:=54) Tryz.func44 rfl rfl fun z hP hO hro hN hQ=>?_
    repeat' first |simp(maxSteps:=2000000) (disch:=first |omega |assumption |exact Kept.refl _) only[go_sem, *,Tryz.results44,cG,mM,oT,cY,fH,qW,qX,wu,CZ,C0,xX,implies_true] | (first |apply fA |apply fc |apply fB |apply fk |apply fm |apply fq |apply fC |apply fD)<;>intro _
   ·clear hl
    refine aD (N:=54) Tryz.func44 rfl rfl fun z hP hO hro hN hQ=>?_
    repeat' first |simp(maxSteps:=2000000) (disch:=first |omega |assumption |exact Kept.refl _) only[go_sem, *,Tryz.results44,cG,mM,oT,cY,fH,qW,qX,wu,CZ,C0,xX,implies_true] | (first |apply fA |apply fc |apply fB |apply fk |apply fm |apply fq |apply fC |apply fD)<;>intro _
  ·simp at hm
noncomputable def fI:List Value→Option (AP Value)
 | [.pointer none]=>some (.pure (.agg ⟨[.int .i64 0,.int .i64 0,.int .i64 0,.int .i64 0,.int .i64 0,.int .i64 0,.int .i64 0,.int .i64 0,.int .i64 0,.int .i64 0]⟩))
 | [.pointer (some p)]=>some ((tC (.pointer (some p))).bind fun l => .pure (.agg ⟨l.P.map (.int .i64)⟩))
 | _=>none
set_option maxRecDepth 100000 in
set_option maxHeartbeats 4000000 in
theorem C2:bL Tryz.prog 39 fI:=by
 refine cE (bn .nil) ct ?_ ?_ ?_
 ·intro args m hm
  unfold fI at hm
  split at hm
  ·obtain rfl:=Option.some.inj hm;exact .pure _
  ·obtain rfl:=Option.some.inj hm;exact(eH _).bind fun l => .pure _
  ·simp at hm
 ·intro args m h v hm e
  unfold fI at hm
  split at hm
  ·obtain rfl:=Option.some.inj hm;rw[aN] at e;obtain rfl:=Option.some.inj e;exact .agg _ (by simp;exact .int _ _)
  ·obtain rfl:=Option.some.inj hm
   obtain⟨l,hl,e⟩:=aX e
   rw[aN] at e;obtain rfl:=Option.some.inj e
   exact .agg _ (by intro u hu;simp only[List.mem_map] at hu;obtain⟨x,_,rfl⟩:=hu;exact .int _ _)
  ·simp at hm
 ·intro args m h N v hm hR hlt e
  unfold fI at hm
  split at hm
  ·obtain rfl:=Option.some.inj hm;rw[aN] at e;obtain rfl:=Option.some.inj e
   refine aD (N:=10) Tryz.func39 rfl rfl ?_
   intro z hP hO hro hN hQ
   repeat' first |simp(maxSteps:=2000000) (disch:=first |omega |assumption |exact Kept.refl _) only[go_sem, *,Tryz.results39,implies_true] | (first |apply fA |apply fc |apply fB |apply fk |apply fm |apply fq |apply fC |apply fD)<;>intro _
   all_goals first | (intro i hi;simp(disch:=omega) only[aY];done) | (refine⟨?_,fun i hi=>by simp(disch:=omega) only[aY]⟩;rfl)
  ·rename_i p
   obtain rfl:=Option.some.inj hm
   obtain⟨l,hl,e⟩:=aX e
   rw[aN] at e;obtain rfl:=Option.some.inj e
   have hW:=cW.of_lt hlt
   have hrl:=fun h' hk z f d ops r K m n=>@eo _ _ _ _ h' hl z f d ops r K m n hk
   obtain⟨lb,ro,hv,tv,hp,hb,xW,AI,hH,hT,Eg,Eh,CU,vB,FT,CV⟩:=gi hR hl
   cases hp
   have Bt:=hlt _ _ hb
   clear hm
   clear hl
   have J8:l.P.length=10:=by have:=congrArg List.length vB;simp at this;omega
   obtain⟨p0,p1,p2,p3,p4,p5,p6,p7,p8,p9,J7⟩:∃ p0 p1 p2 p3 p4 p5 p6 p7 p8 p9,l.P=[p0,p1,p2,p3,p4,p5,p6,p7,p8,p9]:=by
    match hq:l.P,J8 with
    | [p0,p1,p2,p3,p4,p5,p6,p7,p8,p9],_=>exact⟨p0,p1,p2,p3,p4,p5,p6,p7,p8,p9,rfl⟩
   rw[J7] at vB
   have YE:Nat.ble 26 l.S.length=true:=by rw[CU];rfl
   clear J8
   refine aD (N:=10) Tryz.func39 rfl rfl fun z hP hO hro hN hQ=>?_
   repeat' first |simp(maxSteps:=2000000) (disch:=first |omega |assumption |exact Kept.refl _) only[go_sem, *,Tryz.results39,implies_true] | (first |apply fA |apply fc |apply fB |apply fk |apply fm |apply fq |apply fC |apply fD)<;>intro _
   all_goals first | (intro i hi;simp(disch:=omega) only[aY];done) | (refine⟨?_,fun i hi=>by simp(disch:=omega) only[aY]⟩;rfl)
  ·simp at hm
end Go.Proofs.YtfhmopghjoeamaaGreat
