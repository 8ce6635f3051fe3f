/-
A part.
-/
import Derived.Test.YtofmbmclopgldaaGreatT9P7
set_option linter.all false
set_option maxRecDepth 100000
set_option maxHeartbeats 4000000
namespace Go.Proofs.YtofmbmclopgldaaGreat
open Go.Am Tryz
structure dg where
 S:List Value
 H:List Int
 T:List Int
 P:List Int
 V:Int
noncomputable def zK:Value→AP dg
 | .pointer (some ⟨lb,0,none⟩)=>AP.row lb fun (S:List Value) _=>match (S[27]? : Option Value),(S[28]? : Option Value) with
  |some hv,some tv=>(eM .i64 hv).bind fun H=>(eM .i64 tv).bind fun T=>match fC .i64 ((S.drop 16).take 10),(S[29]? : Option Value) with
   |some P,some (.int .i64 V)=>cond (Nat.blt H.length 100000&&Nat.beq T.length H.length&&Nat.beq S.length 30) (.pure ⟨S,H,T,P,V⟩) (.fail "")
   | _,_ => .fail ""
  | _,_ => .fail ""
 | _ => .fail ""
theorem jD(v:Value):Reads (zK v):=by
 unfold zK;split
 ·refine dW fun S ro=>?_;split
  ·refine nI.bind fun H=>nI.bind fun T=>?_;split
   ·exact .cond (.pure _) (.fail _)
   ·exact .fail _
  ·exact .fail _
 ·exact .fail _
theorem kS{v:Value}{h:PT aj}{l:dg}(hR:Am.Rows h)(e:(zK v).look h=some l):∃ lb ro hv tv,v = .pointer (some ⟨lb,0,none⟩)∧h.get lb=some (.cells (PT.ofList .leaf 0 l.S) ro)∧l.S[27]? = some hv∧l.S[28]? = some tv∧
  aN .i64 h hv l.H∧aN .i64 h tv l.T∧l.H.length<100000∧l.T.length=l.H.length∧l.S.length=30∧(l.S.drop 16).take 10=l.P.map (.int .i64)∧l.S[29]? = some (.int .i64 l.V)∧l.S[23]? = some (.int .i64 (l.P.getD 7 0)):=by
 unfold zK at e;split at e
 ·rename_i lb;obtain⟨S,ro,hb,e⟩:=cA e;split at e
  ·rename_i hv tv qm Pw;obtain⟨H,e1,e⟩:=aJ e;obtain⟨T,e2,e⟩:=aJ e;split at e
   ·rename_i P V hP hV;obtain⟨hc,e⟩:=f_ e;rw[aF] at e;obtain rfl:=Option.some.inj e;simp only[Bool.and_eq_true] at hc;have h30:=Nat.eq_of_beq_eq_true hc.2;have hPe:=nH hP;refine⟨lb,ro,hv,tv,rfl,hb,qm,Pw,oW e1 hR,oW e2 hR,Nat.le_of_ble_eq_true hc.1.1,Nat.eq_of_beq_eq_true hc.1.2,h30,hPe,hV,?_⟩;have hPl:P.length=10:=by have:=congrArg List.length hPe;simp at this;omega
    have h7:((S.drop 16).take 10)[7]? = (P.map (Value.int .i64))[7]? := by rw[hPe]
    rw[List.getElem?_take,if_pos qJ,List.getElem?_drop] at h7;rw[show 16+7=23 from rfl] at h7;simp only;rw[h7,List.getElem?_map,List.getElem?_eq_getElem qJ];simp[List.getD,List.getElem?_eq_getElem (show 7<P.length by omega)]
   ·simp[AP.look] at e
  ·simp[AP.look] at e
 ·simp[AP.look] at e
def qx(H:List Int)(t:Int):Int:=if 1≤t∧t≤H.length then H.getD (t-1).toNat 0 else 0
def yC(H:List Int)(t:Int):Int:=if 1≤t∧t≤H.length then 0 else 3
def cT(H:List Int)(t:Int):Value := .tuple ⟨[.int .i64 (qx H t),.int .i64 (yC H t)]⟩
noncomputable def cu:List Value→Option (AP Value)
 | [.pointer none,.int .i64 t]=>some (.pure (.tuple ⟨[.int .i64 0,.int .i64 1]⟩))
 | [.pointer (some a),.int .i64 t]=>some ((zK (.pointer (some a))).bind fun l => .pure (cT l.H t))
 | _=>none
abbrev Ow:Over:=gG [(106,fP)]
theorem aqD:cU prog Ow:=aV (.cons wo .nil)
theorem Cf:bG prog 102 cu:=by
 refine bM aqD bU ?_ ?_ ?_
 ·intro args m hm;unfold cu at hm;split at hm
  ·obtain rfl:=Option.some.inj hm;exact .pure _
  ·obtain rfl:=Option.some.inj hm;exact(jD _).bind fun l => .pure _
  ·simp at hm
 ·intro args m h v hm e;unfold cu at hm;split at hm
  ·obtain rfl:=Option.some.inj hm;rw[aF] at e;obtain rfl:=Option.some.inj e;exact .tuple _ (by simp;exact⟨.int _ _,.int _ _⟩)
  ·obtain rfl:=Option.some.inj hm;obtain⟨l,_,e⟩:=aJ e;rw[aF] at e;obtain rfl:=Option.some.inj e;exact .tuple _ (by simp;exact⟨.int _ _,.int _ _⟩)
  ·simp at hm
 ·intro args m h N v hm hR hlt e;unfold cu at hm;split at hm
  ·obtain rfl:=Option.some.inj hm;rw[aF] at e;obtain rfl:=Option.some.inj e;refine ay (N:=24) func102 rfl rfl ?_;intro z hP hO hro hN hQ
   repeat' first|simp(disch:=first|omega|assumption|exact Kept.refl _) only[go_sem, *,results102,implies_true] | (first|apply dI|apply dD|apply dJ|apply dF|apply dG|apply dH|apply dK|apply dL)<;>intro _ | (first|apply ez|apply eA|apply eB|apply eC)<;>intro _ |refine aB (by cbv) (by first|rfl |cbv) ?_
  ·rename_i pa t
   ·obtain rfl:=Option.some.inj hm;obtain⟨l,hl,e⟩:=aJ e;rw[aF] at e;obtain rfl:=Option.some.inj e;obtain⟨lb,ro,hv,tv,hp,hb,qm,Pw,hH,hT,IZ,WS,Ej,Hs,ZA,Ld⟩:=kS hR hl;cases hp;obtain⟨a,c,rfl,hA⟩:=hH.len;clear hl;by_cases hin:1≤t∧t≤l.H.length
    ·obtain⟨b,off,sp,L,JJ,rfl,hb',hL⟩:=hA (t-1).toNat qJ;have aeL:=hin.1;have aeM:=hin.2;refine ay (N:=24) func102 rfl rfl ?_;intro z hP hO hro hN hQ
     repeat' first|simp(disch:=first|omega|assumption|exact Kept.refl _) only[go_sem, *,results102,fP,cT,qx,yC,implies_true] | (first|apply dI|apply dD|apply dJ|apply dF|apply dG|apply dH|apply dK|apply dL)<;>intro _ | (first|apply ez|apply eA|apply eB|apply eC)<;>intro _ |refine aB (by cbv) (by first|rfl |cbv) ?_
    ·refine ay (N:=24) func102 rfl rfl ?_;intro z hP hO hro hN hQ
     repeat' first|simp(disch:=first|omega|assumption|exact Kept.refl _) only[go_sem, *,results102,fP,cT,qx,yC,implies_true] | (first|apply dI|apply dD|apply dJ|apply dF|apply dG|apply dH|apply dK|apply dL)<;>intro _ | (first|apply ez|apply eA|apply eB|apply eC)<;>intro _ |refine aB (by cbv) (by first|rfl |cbv) ?_
  ·simp at hm
def Ht(l:dg)(t w:Int):Int:=if (1≤t∧t≤l.H.length)∧(0≤w∧w≤4) then IntKind.i64.wrap (l.T.getD (t-1).toNat 0+w) else 0
def Hu(l:dg)(t w:Int):Int:=if (1≤t∧t≤l.H.length)∧(0≤w∧w≤4) then 0 else 3
def og(l:dg)(t w:Int):Value := .tuple ⟨[.int .i64 (Ht l t w),.int .i64 (Hu l t w)]⟩
noncomputable abbrev Owh:Over:=gG [(106,fP),(102,cu)]
theorem aeN:cU prog Owh:=aV (.cons wo (.cons Cf .nil))
noncomputable def dR:List Value→Option (AP Value)
 | [.pointer none]=>some (.pure (.int .i64 0))
 | [.pointer (some p)]=>some ((zK (.pointer (some p))).bind fun l => .pure (.int .i64 l.H.length))
 | _=>none
theorem Uw:bG prog 115 dR:=by
 refine bM (aV .nil) bU ?_ ?_ ?_
 ·intro args m hm;unfold dR at hm;split at hm
  ·obtain rfl:=Option.some.inj hm;exact .pure _
  ·obtain rfl:=Option.some.inj hm;exact(jD _).bind fun l => .pure _
  ·simp at hm
 ·intro args m h v hm e;unfold dR at hm;split at hm
  ·obtain rfl:=Option.some.inj hm;rw[aF] at e;obtain rfl:=Option.some.inj e;exact .int _ _
  ·obtain rfl:=Option.some.inj hm;obtain⟨l,hl,e⟩:=aJ e;rw[aF] at e;obtain rfl:=Option.some.inj e;exact .int _ _
  ·simp at hm
 ·intro args m h N v hm hR hlt e;unfold dR at hm;split at hm
  ·obtain rfl:=Option.some.inj hm;rw[aF] at e;obtain rfl:=Option.some.inj e;refine ay (N:=10) func115 rfl rfl ?_;intro z hP hO hro hN hQ
   repeat' first|simp(disch:=first|omega|assumption|exact Kept.refl _) only[go_sem, *,results115,implies_true] | (first|apply dI|apply dD|apply dJ|apply dF|apply dG|apply dH|apply dK|apply dL)<;>intro _
   all_goals first | (intro i hi;simp(disch:=omega) only[az];done) | (refine⟨?_,fun i hi=>by simp(disch:=omega) only[az]⟩;rfl)
  ·rename_i p;obtain rfl:=Option.some.inj hm;obtain⟨l,hl,e⟩:=aJ e;rw[aF] at e;obtain rfl:=Option.some.inj e;have hW:=bQ.of_lt hlt;have hrl:=fun h' hk z f d ops r K m n=>@cw _ _ _ _ h' hl z f d ops r K m n hk;obtain⟨lb,ro,hv,tv,hp,hb,qm,Pw,hH,hT,IZ,WS,Ej,Hs,ZA,Ld⟩:=kS hR hl;cases hp;have zG:=hlt _ _ hb;clear hm
   ·obtain⟨a,c,rfl,-⟩:=hH.len;refine ay (N:=10) func115 rfl rfl fun z hP hO hro hN hQ=>?_
    repeat' first|simp(disch:=first|omega|assumption|exact Kept.refl _) only[go_sem, *,results115,implies_true] | (first|apply dI|apply dD|apply dJ|apply dF|apply dG|apply dH|apply dK|apply dL)<;>intro _
  ·simp at hm
noncomputable def yD:List Value→Option (AP Value)
 | [.pointer none,.int .i64 t,.int .i64 w]=>some (.pure (.tuple ⟨[.int .i64 0,.int .i64 1]⟩))
 | [.pointer (some p),.int .i64 t,.int .i64 w]=>some ((zK (.pointer (some p))).bind fun l => .pure (og l t w))
 | _=>none
theorem aeO:bG prog 105 yD:=by
 refine bM aeN bU ?_ ?_ ?_
 ·intro args m hm;unfold yD at hm;split at hm
  ·obtain rfl:=Option.some.inj hm;exact .pure _
  ·obtain rfl:=Option.some.inj hm;exact(jD _).bind fun l => .pure _
  ·simp at hm
 ·intro args m h v hm e;unfold yD at hm;split at hm
  ·obtain rfl:=Option.some.inj hm;rw[aF] at e;obtain rfl:=Option.some.inj e;exact .tuple _ (by simp;exact⟨.int _ _,.int _ _⟩)
  ·obtain rfl:=Option.some.inj hm;obtain⟨l,hl,e⟩:=aJ e;rw[aF] at e;obtain rfl:=Option.some.inj e;exact .tuple _ (by simp;exact⟨.int _ _,.int _ _⟩)
  ·simp at hm
 ·intro args m h N v hm hR hlt e;unfold yD at hm;split at hm
  ·obtain rfl:=Option.some.inj hm;rw[aF] at e;obtain rfl:=Option.some.inj e;refine ay (N:=32) func105 rfl rfl ?_;intro z hP hO hro hN hQ
   repeat' first|simp(disch:=first|omega|assumption|exact Kept.refl _) only[go_sem, *,results105,fP,cu,cT,qx,yC,og,Ht,Hu,implies_true] | (first|apply dI|apply dD|apply dJ|apply dF|apply dG|apply dH|apply dK|apply dL)<;>intro _
   all_goals first | (intro i hi;simp(disch:=omega) only[az];done) | (refine⟨?_,fun i hi=>by simp(disch:=omega) only[az]⟩;rfl)
  ·rename_i p t w;obtain rfl:=Option.some.inj hm;obtain⟨l,hl,e⟩:=aJ e;rw[aF] at e;obtain rfl:=Option.some.inj e;have hW:=bQ.of_lt hlt;have hrl:=fun h' hk z f d ops r K m n=>@cw _ _ _ _ h' hl z f d ops r K m n hk;obtain⟨lb,ro,hv,tv,hp,hb,qm,Pw,hH,hT,IZ,WS,Ej,Hs,ZA,Ld⟩:=kS hR hl;cases hp;have zG:=hlt _ _ hb;clear hm;by_cases hin:1≤t∧t≤l.H.length
   ·obtain⟨a,c,rfl,hA⟩:=hT.len;obtain⟨b,off,sp,L,JJ,rfl,hb',hL⟩:=hA (t-1).toNat qJ;have aeL:=hin.1;have aeM:=hin.2;clear hl hA;refine ay (N:=32) func105 rfl rfl fun z hP hO hro hN hQ=>?_
    repeat' first|simp(disch:=first|omega|assumption|exact Kept.refl _) only[go_sem, *,results105,fP,cu,cT,qx,yC,og,Ht,Hu,implies_true] | (first|apply dI|apply dD|apply dJ|apply dF|apply dG|apply dH|apply dK|apply dL)<;>intro _
   ·clear hl;refine ay (N:=32) func105 rfl rfl fun z hP hO hro hN hQ=>?_
    repeat' first|simp(disch:=first|omega|assumption|exact Kept.refl _) only[go_sem, *,results105,fP,cu,cT,qx,yC,og,Ht,Hu,implies_true] | (first|apply dI|apply dD|apply dJ|apply dF|apply dG|apply dH|apply dK|apply dL)<;>intro _
  ·simp at hm
def gi(l:dg)(r:Int):Prop:=r<0∧IntKind.i64.wrap (-1-r)<l.V
instance (l:dg) (r:Int):Decidable (gi l r):=inferInstanceAs (Decidable (_∧_))
def yE(l:dg)(r:Int):Int:=IntKind.i64.wrap (l.P.getD 7 0+IntKind.i64.wrap (IntKind.i64.wrap (-1-r)*7))
def yF(l:dg)(r:Int):Value := .tuple ⟨[.int .i64 (yE l r),.bool (decide (gi l r))]⟩
def pI(l:dg)(r lv:Int):Prop:=(1≤r∧r≤l.H.length)∧(0≤lv∧lv≤IntKind.i64.wrap (l.H.getD (r-1).toNat 0-1))
instance (l:dg) (r lv:Int):Decidable (pI l r lv):=inferInstanceAs (Decidable ((_∧_)∧(_∧_)))
def rE(l:dg)(r lv:Int):Int:=if gi l r∧(0≤lv∧lv≤5) then IntKind.i64.wrap (IntKind.i64.wrap (yE l r+1)+lv) else if pI l r lv then IntKind.i64.wrap (IntKind.i64.wrap (l.T.getD (r-1).toNat 0+5)+lv) else 0
def sS(l:dg)(r lv:Int):Int:=if gi l r∧(0≤lv∧lv≤5) then 0 else if pI l r lv then 0 else 3
def j5(l:dg)(r lv:Int):Value := .tuple ⟨[.int .i64 (rE l r lv),.int .i64 (sS l r lv)]⟩
noncomputable def vf:List Value→Option (AP Value)
 | [.pointer (some p),.int .i64 r]=>some ((zK (.pointer (some p))).bind fun l => .pure (yF l r))
 | _=>none
theorem aeP:bG prog 128 vf:=by
 refine bM (aV .nil) bU ?_ ?_ ?_
 ·intro args m hm;unfold vf at hm;split at hm
  ·obtain rfl:=Option.some.inj hm;exact(jD _).bind fun l => .pure _
  ·simp at hm
 ·intro args m h v hm e;unfold vf at hm;split at hm
  ·obtain rfl:=Option.some.inj hm;obtain⟨l,hl,e⟩:=aJ e;rw[aF] at e;obtain rfl:=Option.some.inj e;exact .tuple _ (by simp;exact⟨.int _ _,.bool _⟩)
  ·simp at hm
 ·intro args m h N v hm hR hlt e;unfold vf at hm;split at hm
  ·rename_i p r;obtain rfl:=Option.some.inj hm;obtain⟨l,hl,e⟩:=aJ e;rw[aF] at e;obtain rfl:=Option.some.inj e;have hW:=bQ.of_lt hlt;have hrl:=fun h' hk z f d ops r K m n=>@cw _ _ _ _ h' hl z f d ops r K m n hk;obtain⟨lb,ro,hv,tv,hp,hb,qm,Pw,hH,hT,IZ,WS,Ej,Hs,ZA,Ld⟩:=kS hR hl;cases hp;have zG:=hlt _ _ hb;clear hm;clear hl;by_cases h0:r<0
   ·by_cases h1:IntKind.i64.wrap (-1-r)<l.V
    ·refine ay (N:=27) func128 rfl rfl fun z hP hO hro hN hQ=>?_
     repeat' first|simp(disch:=first|omega|assumption|exact Kept.refl _) only[go_sem, *,results128,yF,yE,gi,implies_true] | (first|apply dI|apply dD|apply dJ|apply dF|apply dG|apply dH|apply dK|apply dL)<;>intro _ | (first|apply ez|apply eA|apply eB|apply eC)<;>intro _ |refine aB (id:=2) (L:=Ho) (by kernel_rfl) (by kernel_rfl) ?_
    ·refine ay (N:=27) func128 rfl rfl fun z hP hO hro hN hQ=>?_
     repeat' first|simp(disch:=first|omega|assumption|exact Kept.refl _) only[go_sem, *,results128,yF,yE,gi,implies_true] | (first|apply dI|apply dD|apply dJ|apply dF|apply dG|apply dH|apply dK|apply dL)<;>intro _ | (first|apply ez|apply eA|apply eB|apply eC)<;>intro _ |refine aB (id:=2) (L:=Ho) (by kernel_rfl) (by kernel_rfl) ?_
   ·refine ay (N:=27) func128 rfl rfl fun z hP hO hro hN hQ=>?_
    repeat' first|simp(disch:=first|omega|assumption|exact Kept.refl _) only[go_sem, *,results128,yF,yE,gi,implies_true] | (first|apply dI|apply dD|apply dJ|apply dF|apply dG|apply dH|apply dK|apply dL)<;>intro _ | (first|apply ez|apply eA|apply eB|apply eC)<;>intro _ |refine aB (id:=2) (L:=Ho) (by kernel_rfl) (by kernel_rfl) ?_
  ·simp at hm
noncomputable abbrev Ohh:Over:=gG [(106,fP),(128,vf),(102,cu)]
theorem aeQ:cU prog Ohh:=aV (.cons wo (.cons aeP (.cons Cf .nil)))
noncomputable def AH:List Value→Option (AP Value)
 | [.pointer none,.int .i64 r,.int .i64 lv]=>some (.pure (.tuple ⟨[.int .i64 0,.int .i64 1]⟩))
 | [.pointer (some p),.int .i64 r,.int .i64 lv]=>some ((zK (.pointer (some p))).bind fun l => .pure (j5 l r lv))
 | _=>none
theorem aeR:bG prog 57 AH:=by
 refine bM aeQ bU ?_ ?_ ?_
 ·intro args m hm;unfold AH at hm;split at hm
  ·obtain rfl:=Option.some.inj hm;exact .pure _
  ·obtain rfl:=Option.some.inj hm;exact(jD _).bind fun l => .pure _
  ·simp at hm
 ·intro args m h v hm e;unfold AH at hm;split at hm
  ·obtain rfl:=Option.some.inj hm;rw[aF] at e;obtain rfl:=Option.some.inj e;exact .tuple _ (by simp;exact⟨.int _ _,.int _ _⟩)
  ·obtain rfl:=Option.some.inj hm;obtain⟨l,hl,e⟩:=aJ e;rw[aF] at e;obtain rfl:=Option.some.inj e;exact .tuple _ (by simp;exact⟨.int _ _,.int _ _⟩)
  ·simp at hm
 ·intro args m h N v hm hR hlt e;unfold AH at hm;split at hm
  ·obtain rfl:=Option.some.inj hm;rw[aF] at e;obtain rfl:=Option.some.inj e;refine ay (N:=54) func57 rfl rfl ?_;intro z hP hO hro hN hQ
   repeat' first|simp(disch:=first|omega|assumption|exact Kept.refl _) only[go_sem, *,results57,fP,vf,yF,cu,cT,qx,yC,j5,rE,sS,pI,implies_true] | (first|apply dI|apply dD|apply dJ|apply dF|apply dG|apply dH|apply dK|apply dL)<;>intro _
   all_goals first | (intro i hi;simp(disch:=omega) only[az];done) | (refine⟨?_,fun i hi=>by simp(disch:=omega) only[az]⟩;rfl)
  ·rename_i p r lv;obtain rfl:=Option.some.inj hm;obtain⟨l,hl,e⟩:=aJ e;rw[aF] at e;obtain rfl:=Option.some.inj e;have hW:=bQ.of_lt hlt;have hrl:=fun h' hk z f d ops r K m n=>@cw _ _ _ _ h' hl z f d ops r K m n hk;obtain⟨lb,ro,hv,tv,hp,hb,qm,Pw,hH,hT,IZ,WS,Ej,Hs,ZA,Ld⟩:=kS hR hl;cases hp;have zG:=hlt _ _ hb;clear hm;by_cases hin:1≤r∧r≤l.H.length
   ·obtain⟨a,c,rfl,hA⟩:=hT.len;obtain⟨b,off,sp,L,JJ,rfl,hb',hL⟩:=hA (r-1).toNat qJ;have aeL:=hin.1;have aeM:=hin.2;have aFn: ¬ gi l r:=fun hh=>absurd hh.1 qJ;clear hl hA;refine ay (N:=54) func57 rfl rfl fun z hP hO hro hN hQ=>?_
    repeat' first|simp(disch:=first|omega|assumption|exact Kept.refl _) only[go_sem, *,results57,fP,vf,yF,cu,cT,qx,yC,j5,rE,sS,pI,implies_true] | (first|apply dI|apply dD|apply dJ|apply dF|apply dG|apply dH|apply dK|apply dL)<;>intro _
   ·clear hl;refine ay (N:=54) func57 rfl rfl fun z hP hO hro hN hQ=>?_
    repeat' first|simp(disch:=first|omega|assumption|exact Kept.refl _) only[go_sem, *,results57,fP,vf,yF,cu,cT,qx,yC,j5,rE,sS,pI,implies_true] | (first|apply dI|apply dD|apply dJ|apply dF|apply dG|apply dH|apply dK|apply dL)<;>intro _
  ·simp at hm
noncomputable def kg:List Value→Option (AP Value)
 | [.pointer none]=>some (.pure (.agg ⟨[.int .i64 0,.int .i64 0,.int .i64 0,.int .i64 0,.int .i64 0,.int .i64 0,.int .i64 0,.int .i64 0,.int .i64 0,.int .i64 0]⟩))
 | [.pointer (some p)]=>some ((zK (.pointer (some p))).bind fun l => .pure (.agg ⟨l.P.map (.int .i64)⟩))
 | _=>none
theorem Ux:bG prog 50 kg:=by
 refine bM (aV .nil) bU ?_ ?_ ?_
 ·intro args m hm;unfold kg at hm;split at hm
  ·obtain rfl:=Option.some.inj hm;exact .pure _
  ·obtain rfl:=Option.some.inj hm;exact(jD _).bind fun l => .pure _
  ·simp at hm
 ·intro args m h v hm e;unfold kg at hm;split at hm
  ·obtain rfl:=Option.some.inj hm;rw[aF] at e;obtain rfl:=Option.some.inj e;exact .agg _ (by simp;exact .int _ _)
  ·obtain rfl:=Option.some.inj hm;obtain⟨l,hl,e⟩:=aJ e;rw[aF] at e;obtain rfl:=Option.some.inj e;exact .agg _ (by intro u hu;simp only[List.mem_map] at hu;obtain⟨x,_,rfl⟩:=hu;exact .int _ _)
  ·simp at hm
 ·intro args m h N v hm hR hlt e;unfold kg at hm;split at hm
  ·obtain rfl:=Option.some.inj hm;rw[aF] at e;obtain rfl:=Option.some.inj e;refine ay (N:=10) func50 rfl rfl ?_;intro z hP hO hro hN hQ
   repeat' first|simp(disch:=first|omega|assumption|exact Kept.refl _) only[go_sem, *,results50,implies_true] | (first|apply dI|apply dD|apply dJ|apply dF|apply dG|apply dH|apply dK|apply dL)<;>intro _
   all_goals first | (intro i hi;simp(disch:=omega) only[az];done) | (refine⟨?_,fun i hi=>by simp(disch:=omega) only[az]⟩;rfl)
  ·rename_i p;obtain rfl:=Option.some.inj hm;obtain⟨l,hl,e⟩:=aJ e;rw[aF] at e;obtain rfl:=Option.some.inj e;have hW:=bQ.of_lt hlt;have hrl:=fun h' hk z f d ops r K m n=>@cw _ _ _ _ h' hl z f d ops r K m n hk;obtain⟨lb,ro,hv,tv,hp,hb,qm,Pw,hH,hT,IZ,WS,Ej,Hs,ZA,Ld⟩:=kS hR hl;cases hp;have zG:=hlt _ _ hb;clear hm;clear hl;have hPl:l.P.length=10:=by have:=congrArg List.length Hs;simp at this;omega
   obtain⟨p0,p1,p2,p3,p4,p5,p6,p7,p8,p9,hPe⟩:∃ p0 p1 p2 p3 p4 p5 p6 p7 p8 p9,l.P=[p0,p1,p2,p3,p4,p5,p6,p7,p8,p9]:=by
    match hq:l.P,hPl with
    | [p0,p1,p2,p3,p4,p5,p6,p7,p8,p9],_=>exact⟨p0,p1,p2,p3,p4,p5,p6,p7,p8,p9,rfl⟩
   rw[hPe] at Hs;have aFo:Nat.ble 26 l.S.length=true:=by rw[Ej];rfl
   clear hPl;refine ay (N:=10) func50 rfl rfl fun z hP hO hro hN hQ=>?_
   repeat' first|simp(disch:=first|omega|assumption|exact Kept.refl _) only[go_sem, *,results50,implies_true] | (first|apply dI|apply dD|apply dJ|apply dF|apply dG|apply dH|apply dK|apply dL)<;>intro _
   all_goals first | (intro i hi;simp(disch:=omega) only[az];done) | (refine⟨?_,fun i hi=>by simp(disch:=omega) only[az]⟩;rfl)
  ·simp at hm
theorem ZB{h:PT aj}{lb:Nat}{S:List Value}{ro:Bool}{hv tv:Value}{H T P:List Int}{V:Int}(hb:h.get lb=some (.cells (PT.ofList .leaf 0 S) ro))(qm:S[27]? = some hv)(Pw:S[28]? = some tv)(h29:S[29]? = some (.int .i64 V))
  (hH:aN .i64 h hv H) (hT:aN .i64 h tv T) (hP:fC .i64 ((S.drop 16).take 10)=some P) (h1:H.length<100000) (h2:T.length=H.length) (h3:S.length=30):(zK (.pointer (some ⟨lb,0,none⟩))).look h=some ⟨S,H,T,P,V⟩:=by
 unfold zK;simp only[AP.row,oX,hb,kN,qm,Pw];rw[mG,hH.look,Option.bind_some,mG,hT.look,Option.bind_some,hP,h29];have e1:Nat.blt H.length 100000=true:=Nat.ble_eq_true_of_le h1;simp only[e1,h2,h3,show ∀ n,Nat.beq n n=true from Nat.beq_refl,Bool.and_self,cond_true,aF]
def cL(sl en bu lo:Int)(H:List Int):Int:=0+sl*1+1*bH en sl bu+1+lo*3+lo*1+6+(H.length:Int)*1
def placesOf(sl en bu lo V:Int)(H:List Int):List Int:=
 [0,0+sl*1,0+sl*1+1*bH en sl bu,0+sl*1+1*bH en sl bu+1,0+sl*1+1*bH en sl bu+1+lo*3,0+sl*1+1*bH en sl bu+1+lo*3+lo*1,0+sl*1+1*bH en sl bu+1+lo*3+lo*1+6,
  cL sl en bu lo H,cL sl en bu lo H+V*7,cS (cL sl en bu lo H+V*7) H]
theorem jQ{t0 t1 t2 t3 t4 t5:Int}(h:(0≤t0∧0≤t1∧0≤t2∧0≤t3∧0≤t4∧0≤t5)∧t0+t1+t2+t3+t4+t5≤1024):(hts 1 [t0,t1,t2,t3,t4,t5]).length≤1024:=by
 simp[hts];omega
theorem yG{th sl en bu kd dn t0 t1 t2 t3 t4 t5 lo tr ba:Int}{xs:List Int}(h:gq th sl en bu kd dn t0 t1 t2 t3 t4 t5 lo tr ba xs=true):12≤cL sl en bu lo (hts 1 [t0,t1,t2,t3,t4,t5])∧cL sl en bu lo (hts 1 [t0,t1,t2,t3,t4,t5])≤2000:=by
 obtain⟨c1,⟨c2,c2'⟩,⟨c3,c3'⟩,⟨c4,c4'⟩,⟨c5,c5'⟩,c6,IX,Pn⟩:=cr h;have:=jQ ⟨c6,IX⟩;obtain⟨d5,d6⟩:=gJ (en:=en) c3 c3' c4 c4';unfold cL;omega
structure OfR(h:PT aj)(lb:Nat)(l:dg)(V:Int):Prop where
 r:∃ S tv gb c sl ew lo f1 f2 f3 f4 f5 f6 f7 H,h.get lb=row S∧S.length=30∧S[24]? = some (I6 (l.P.getD 8 0))∧S[25]? = some (I6 (l.P.getD 9 0))∧S[26]? = some (.slice (some ⟨gb,0,none⟩) 8 c)∧S[28]? = some tv∧aN .i64 h tv l.T∧
  h.get gb=row [U8 1,I6 f1,I6 sl,I6 1,U8 2,I6 f2,I6 1,I6 ew,U8 3,I6 f3,I6 1,I6 1,U8 4,I6 f4,I6 lo,I6 3,U8 5,I6 f5,I6 lo,I6 1,U8 6,I6 f6,I6 6,I6 1,U8 7,I6 f7,I6 H,I6 1,U8 8,I6 (l.P.getD 7 0),I6 V,I6 7]∧
  (0≤sl∧sl≤1000)∧(0≤ew∧ew≤1000)∧(0≤lo∧lo≤1000)∧(f1=0∧f2=sl∧f3=sl+ew∧f4=sl+ew+1∧f5=sl+ew+1+lo*3∧f6=sl+ew+1+lo*3+lo∧f7=sl+ew+1+lo*3+lo+6∧H=l.H.length∧l.P.getD 7 0=sl+ew+1+lo*3+lo+6+H)
theorem OfR.keep{h h':PT aj}{lb:Nat}{l:dg}{V:Int}(R:OfR h lb l V)(k:Kept h h'):OfR h' lb l V:=by
 obtain⟨S,tv,gb,c,sl,ew,lo,f1,f2,f3,f4,f5,f6,f7,H,r1,rl,r2,r3,r4,r5,r6,r7,r8⟩:=R.r;exact⟨S,tv,gb,c,sl,ew,lo,f1,f2,f3,f4,f5,f6,f7,H,k _ _ r1,rl,r2,r3,r4,r5,r6.keep k,k _ _ r7,r8⟩
structure Hv(th sl en bu kd dn t0 t1 t2 t3 t4 t5 lo tr ba:Int)(xs:List Int)(h:PT aj)(lb:Nat)(l:dg)(gb:Nat)(cv:Value):Prop where
 ok:gq th sl en bu kd dn t0 t1 t2 t3 t4 t5 lo tr ba xs=true
 look:(zK (.pointer (some ⟨lb,0,none⟩))).look h=some l
 V:l.V=aC kd dn xs
 H:l.H=hts 1 [t0,t1,t2,t3,t4,t5]
 P:l.P=placesOf sl en bu lo (aC kd dn xs) (hts 1 [t0,t1,t2,t3,t4,t5])
 T:l.T=tN (cL sl en bu lo (hts 1 [t0,t1,t2,t3,t4,t5])+aC kd dn xs*7) (hts 1 [t0,t1,t2,t3,t4,t5])
 Cg:aN .u64 h cv xs
 ofr:OfR h lb l (aC kd dn xs)
 cells:∃ rest,l.S=[Value.int .i64 th,.int .i64 sl,.int .u8 en,.int .i64 bu,.int .u8 kd,.int .i64 dn,cv,.int .i64 t0,.int .i64 t1,.int .i64 t2,.int .i64 t3,.int .i64 t4,.int .i64 t5,.int .i64 lo,.int .i64 tr,.int .i64 ba]++rest
theorem Uy{O:Over}(o16:O 108=kF)(o46:O 111=qj)(o44:O 78=lG)(o45:O 110=uo)(o43:∀ a,O 109 a=none)(th sl en bu kd dn t0 t1 t2 t3 t4 t5 lo tr ba:Int)(s:Value)(xs:List Int)(h:PT aj)(N:Nat)(hW:bQ h N)(hs:aN .u64 h s xs)(hl:xs.length<1000000000000000):
  cE prog O 45 [.agg ⟨[.int .i64 th,.int .i64 sl,.int .u8 en,.int .i64 bu,.int .u8 kd,.int .i64 dn,s,.int .i64 t0,.int .i64 t1,.int .i64 t2,.int .i64 t3,.int .i64 t4,.int .i64 t5,.int .i64 lo,.int .i64 tr,.int .i64 ba]⟩] h N
   fun v h' n'=>(gq th sl en bu kd dn t0 t1 t2 t3 t4 t5 lo tr ba xs=false∧v = .tuple ⟨[.pointer none,.int .i64 2]⟩∧Kept h h')∨
    ∃ lb l gb cv,v = .tuple ⟨[.pointer (some ⟨lb,0,none⟩),.int .i64 0]⟩∧Kept h h'∧N≤lb∧Hv th sl en bu kd dn t0 t1 t2 t3 t4 t5 lo tr ba xs h' lb l gb cv:=by
 refine(Zu o16 o46 o44 o45 o43 th sl en bu kd dn t0 t1 t2 t3 t4 t5 lo tr ba s xs h N hW hs hl).mono ?_;rintro v h' n' (⟨e1,e2,e3⟩ | ⟨e1,lb,cv,hv,tv,gb,rfl,hk,hN,hb,hg,AF,hH,hT⟩)
 ·exact .inl ⟨e1,e2,e3⟩
 ·have hf:=cr e1;have hsl:=hf.2.2.1;have hlo:=hf.2.2.2.2.1;have hlen:=jQ ⟨hf.2.2.2.2.2.1,hf.2.2.2.2.2.2.1⟩;refine .inr ⟨lb,_,gb,cv,rfl,hk,hN,e1,ZB hb rfl rfl rfl hH hT (jO (xs:=placesOf sl en bu lo (aC kd dn xs) (hts 1 [t0,t1,t2,t3,t4,t5]))) qJ (yw _ _) rfl,rfl,rfl,rfl,rfl,AF,⟨_,tv,gb,_,sl,bH en sl bu,lo,_,_,_,_,_,_,_,_,hb,rfl,rfl,rfl,rfl,rfl,hT,hg,?_,?_,?_,?_⟩,⟨_,rfl⟩⟩
  ·omega
  ·have:=gJ (en:=en) hf.2.2.1.1 hf.2.2.1.2 hf.2.2.2.1.1 hf.2.2.2.1.2;omega
  ·omega
  ·refine⟨rfl,by omega,by omega,by omega,by omega,by omega,by omega,rfl,?_⟩
   show cL sl en bu lo (hts 1 [t0,t1,t2,t3,t4,t5])=_
   unfold cL;omega
end Go.Proofs.YtofmbmclopgldaaGreat
