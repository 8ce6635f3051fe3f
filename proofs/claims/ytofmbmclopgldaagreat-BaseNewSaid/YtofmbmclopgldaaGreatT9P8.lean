/-
  A part of the proof: contracts of inner functions.
-/
import Derived.Test.YtofmbmclopgldaaGreatT9P4
import Derived.Test.YtofmbmclopgldaaGreatAmY4
set_option linter.unusedVariables false
set_option linter.unusedSimpArgs false
namespace Go.Proofs.YtofmbmclopgldaaGreat
open Go.Am
structure cK where
 S:List Value
 H:List Int
 T:List Int
 P:List Int
 V:Int
noncomputable def tI:Value→AP cK
 | .pointer (some ⟨lb,0,none⟩)=>AP.row lb fun (S:List Value) _=>match (S[27]? : Option Value),(S[28]? : Option Value) with
  |some hv,some tv=>(dh .i64 hv).bind fun H=>(dh .i64 tv).bind fun T=>match dV .i64 ((S.drop 16).take 10),(S[29]? : Option Value) with
   |some P,some (.int .i64 V)=>cond (Nat.blt H.length 100000&&Nat.beq T.length H.length&&Nat.beq S.length 30) (.pure ⟨S,H,T,P,V⟩) (.fail "")
   | _,_ => .fail ""
  | _,_ => .fail ""
 | _ => .fail ""
theorem gQ (v:Value):Reads (tI v):=by
 unfold tI
 split
 ·refine cQ fun S ro=>?_
  split
  ·refine kC.bind fun H=>kC.bind fun T=>?_
   split
   ·exact .cond (.pure _) (.fail _)
   ·exact .fail _
  ·exact .fail _
 ·exact .fail _
theorem jg {v:Value} {h:PT ak} {l:cK} (hR:Am.Rows h) (e:(tI v).look h=some l):∃ lb ro hv tv,v = .pointer (some ⟨lb,0,none⟩)∧h.get lb=some (.cells (PT.ofList .leaf 0 l.S) ro)∧l.S[27]? = some hv∧l.S[28]? = some tv∧
  aW .i64 h hv l.H∧aW .i64 h tv l.T∧l.H.length<100000∧l.T.length=l.H.length∧l.S.length=30∧(l.S.drop 16).take 10=l.P.map (.int .i64)∧l.S[29]? = some (.int .i64 l.V)∧l.S[23]? = some (.int .i64 (l.P.getD 7 0)):=by
 unfold tI at e
 split at e
 ·rename_i lb
  obtain⟨S,ro,hb,e⟩:=bV e
  split at e
  ·rename_i hv tv qI Hv
   obtain⟨H,e1,e⟩:=aG e
   obtain⟨T,e2,e⟩:=aG e
   split at e
   ·rename_i P V hP hV
    obtain⟨hc,e⟩:=eR e
    rw[aC] at e
    obtain rfl:=Option.some.inj e
    simp only[Bool.and_eq_true] at hc
    have h30:=Nat.eq_of_beq_eq_true hc.2
    have Up:=kB hP
    refine⟨lb,ro,hv,tv,rfl,hb,qI,Hv,lU e1 hR,lU e2 hR,Nat.le_of_ble_eq_true hc.1.1,Nat.eq_of_beq_eq_true hc.1.2,h30,Up,hV,?_⟩
    have Uq:P.length=10:=by have:=congrArg List.length Up;simp at this;omega
    have h7:((S.drop 16).take 10)[7]? = (P.map (Value.int .i64))[7]? := by rw[Up]
    rw[List.getElem?_take,if_pos (by omega),List.getElem?_drop] at h7
    rw[show 16+7=23 from rfl] at h7
    simp only
    rw[h7,List.getElem?_map,List.getElem?_eq_getElem (by omega)]
    simp[List.getD,List.getElem?_eq_getElem (show 7<P.length by omega)]
   ·simp[AP.look] at e
  ·simp[AP.look] at e
 ·simp[AP.look] at e
def uy (H:List Int) (t:Int):Int:=if 1≤t∧t≤H.length then H.getD (t-1).toNat 0 else 0
def qX (H:List Int) (t:Int):Int:=if 1≤t∧t≤H.length then 0 else 3
def fK (H:List Int) (t:Int):Value := .tuple ⟨[.int .i64 (uy H t),.int .i64 (qX H t)]⟩
noncomputable def dP:List Value→Option (AP Value)
 | [.pointer none,.int .i64 t]=>some (.pure (.tuple ⟨[.int .i64 0,.int .i64 1]⟩))
 | [.pointer (some a),.int .i64 t]=>some ((tI (.pointer (some a))).bind fun l => .pure (fK l.H t))
 | _=>none
abbrev Ow:Over:=eN [(106,dW)]
theorem ace:cr Tryz.prog Ow:=aN (.cons rE .nil)
theorem wS:bf Tryz.prog 102 dP:=by
 refine bp ace bA ?_ ?_ ?_
 ·intro args m hm
  unfold dP at hm
  split at hm
  ·obtain rfl:=Option.some.inj hm;exact .pure _
  ·obtain rfl:=Option.some.inj hm;exact(gQ _).bind fun l => .pure _
  ·simp at hm
 ·intro args m h v hm e
  unfold dP at hm
  split at hm
  ·obtain rfl:=Option.some.inj hm;rw[aC] at e;obtain rfl:=Option.some.inj e;exact .tuple _ (by simp;exact⟨.int _ _,.int _ _⟩)
  ·obtain rfl:=Option.some.inj hm
   obtain⟨l,_,e⟩:=aG e
   rw[aC] at e;obtain rfl:=Option.some.inj e
   exact .tuple _ (by simp;exact⟨.int _ _,.int _ _⟩)
  ·simp at hm
 ·intro args m h N v hm hR hlt e
  unfold dP at hm
  split at hm
  ·obtain rfl:=Option.some.inj hm;rw[aC] at e;obtain rfl:=Option.some.inj e
   refine ay (N:=24) Tryz.func102 rfl rfl ?_
   intro z hP hO hro hN hQ
   repeat' first |simp(maxSteps:=2000000) (disch:=first |omega |assumption |exact Kept.refl _) only[go_sem, *,Tryz.results102,implies_true] | (first |apply fZ |apply fV |apply f_ |apply fW |apply fX |apply fY |apply ga |apply gd)<;>intro _ | (first |apply iz |apply iA |apply iB |apply iC)<;>intro _ |refine aK (by cbv) (by first |rfl |cbv) ?_
  ·rename_i pa t
   ·obtain rfl:=Option.some.inj hm
    obtain⟨l,hl,e⟩:=aG e
    rw[aC] at e;obtain rfl:=Option.some.inj e
    obtain⟨lb,ro,hv,tv,hp,hb,qI,Hv,hH,hT,MB,MC,IZ,Bm,Pg,KG⟩:=jg hR hl
    cases hp
    obtain⟨a,c,rfl,hA⟩:=hH.len
    clear hl
    by_cases hin:1≤t∧t≤l.H.length
    ·obtain⟨b,off,sp,L,Ik,rfl,hb',hL⟩:=hA (t-1).toNat (by omega)
     have Ur:=hin.1
     have Us:=hin.2
     refine ay (N:=24) Tryz.func102 rfl rfl ?_
     intro z hP hO hro hN hQ
     repeat' first |simp(maxSteps:=2000000) (disch:=first |omega |assumption |exact Kept.refl _) only[go_sem, *,Tryz.results102,dW,fK,uy,qX,implies_true] | (first |apply fZ |apply fV |apply f_ |apply fW |apply fX |apply fY |apply ga |apply gd)<;>intro _ | (first |apply iz |apply iA |apply iB |apply iC)<;>intro _ |refine aK (by cbv) (by first |rfl |cbv) ?_
    ·refine ay (N:=24) Tryz.func102 rfl rfl ?_
     intro z hP hO hro hN hQ
     repeat' first |simp(maxSteps:=2000000) (disch:=first |omega |assumption |exact Kept.refl _) only[go_sem, *,Tryz.results102,dW,fK,uy,qX,implies_true] | (first |apply fZ |apply fV |apply f_ |apply fW |apply fX |apply fY |apply ga |apply gd)<;>intro _ | (first |apply iz |apply iA |apply iB |apply iC)<;>intro _ |refine aK (by cbv) (by first |rfl |cbv) ?_
  ·simp at hm
def KH (l:cK) (t w:Int):Int:=if (1≤t∧t≤l.H.length)∧(0≤w∧w≤4) then IntKind.i64.wrap (l.T.getD (t-1).toNat 0+w) else 0
def KI (l:cK) (t w:Int):Int:=if (1≤t∧t≤l.H.length)∧(0≤w∧w≤4) then 0 else 3
def Cq (l:cK) (t w:Int):Value := .tuple ⟨[.int .i64 (KH l t w),.int .i64 (KI l t w)]⟩
noncomputable abbrev Owh:Over:=eN [(106,dW),(102,dP)]
theorem Ut:cr Tryz.prog Owh:=aN (.cons rE (.cons wS .nil))
noncomputable def kN:List Value→Option (AP Value)
 | [.pointer none]=>some (.pure (.int .i64 0))
 | [.pointer (some p)]=>some ((tI (.pointer (some p))).bind fun l => .pure (.int .i64 l.H.length))
 | _=>none
set_option maxRecDepth 100000 in
set_option maxHeartbeats 4000000 in
theorem KJ:bf Tryz.prog 115 kN:=by
 refine bp (aN .nil) bA ?_ ?_ ?_
 ·intro args m hm
  unfold kN at hm
  split at hm
  ·obtain rfl:=Option.some.inj hm;exact .pure _
  ·obtain rfl:=Option.some.inj hm;exact(gQ _).bind fun l => .pure _
  ·simp at hm
 ·intro args m h v hm e
  unfold kN at hm
  split at hm
  ·obtain rfl:=Option.some.inj hm;rw[aC] at e;obtain rfl:=Option.some.inj e;exact .int _ _
  ·obtain rfl:=Option.some.inj hm
   obtain⟨l,hl,e⟩:=aG e
   rw[aC] at e;obtain rfl:=Option.some.inj e
   exact .int _ _
  ·simp at hm
 ·intro args m h N v hm hR hlt e
  unfold kN at hm
  split at hm
  ·obtain rfl:=Option.some.inj hm;rw[aC] at e;obtain rfl:=Option.some.inj e
   refine ay (N:=10) Tryz.func115 rfl rfl ?_
   intro z hP hO hro hN hQ
   repeat' first |simp(maxSteps:=2000000) (disch:=first |omega |assumption |exact Kept.refl _) only[go_sem, *,Tryz.results115,implies_true] | (first |apply fZ |apply fV |apply f_ |apply fW |apply fX |apply fY |apply ga |apply gd)<;>intro _
   all_goals first | (intro i hi;simp(disch:=omega) only[aE];done) | (refine⟨?_,fun i hi=>by simp(disch:=omega) only[aE]⟩;rfl)
  ·rename_i p
   obtain rfl:=Option.some.inj hm
   obtain⟨l,hl,e⟩:=aG e
   rw[aC] at e;obtain rfl:=Option.some.inj e
   have hW:=bL.of_lt hlt
   have hrl:=fun h' hk z f d ops r K m n=>@cE _ _ _ _ h' hl z f d ops r K m n hk
   obtain⟨lb,ro,hv,tv,hp,hb,qI,Hv,hH,hT,MB,MC,IZ,Bm,Pg,KG⟩:=jg hR hl
   cases hp
   have wQ:=hlt _ _ hb
   clear hm
   ·obtain⟨a,c,rfl,-⟩:=hH.len
    refine ay (N:=10) Tryz.func115 rfl rfl fun z hP hO hro hN hQ=>?_
    repeat' first |simp(maxSteps:=2000000) (disch:=first |omega |assumption |exact Kept.refl _) only[go_sem, *,Tryz.results115,implies_true] | (first |apply fZ |apply fV |apply f_ |apply fW |apply fX |apply fY |apply ga |apply gd)<;>intro _
  ·simp at hm
noncomputable def yW:List Value→Option (AP Value)
 | [.pointer none,.int .i64 t,.int .i64 w]=>some (.pure (.tuple ⟨[.int .i64 0,.int .i64 1]⟩))
 | [.pointer (some p),.int .i64 t,.int .i64 w]=>some ((tI (.pointer (some p))).bind fun l => .pure (Cq l t w))
 | _=>none
set_option maxRecDepth 100000 in
set_option maxHeartbeats 4000000 in
theorem Uu:bf Tryz.prog 105 yW:=by
 refine bp Ut bA ?_ ?_ ?_
 ·intro args m hm
  unfold yW at hm
  split at hm
  ·obtain rfl:=Option.some.inj hm;exact .pure _
  ·obtain rfl:=Option.some.inj hm;exact(gQ _).bind fun l => .pure _
  ·simp at hm
 ·intro args m h v hm e
  unfold yW at hm
  split at hm
  ·obtain rfl:=Option.some.inj hm;rw[aC] at e;obtain rfl:=Option.some.inj e;exact .tuple _ (by simp;exact⟨.int _ _,.int _ _⟩)
  ·obtain rfl:=Option.some.inj hm
   obtain⟨l,hl,e⟩:=aG e
   rw[aC] at e;obtain rfl:=Option.some.inj e
   exact .tuple _ (by simp;exact⟨.int _ _,.int _ _⟩)
  ·simp at hm
 ·intro args m h N v hm hR hlt e
  unfold yW at hm
  split at hm
  ·obtain rfl:=Option.some.inj hm;rw[aC] at e;obtain rfl:=Option.some.inj e
   refine ay (N:=32) Tryz.func105 rfl rfl ?_
   intro z hP hO hro hN hQ
   repeat' first |simp(maxSteps:=2000000) (disch:=first |omega |assumption |exact Kept.refl _) only[go_sem, *,Tryz.results105,dW,dP,fK,uy,qX,Cq,KH,KI,implies_true] | (first |apply fZ |apply fV |apply f_ |apply fW |apply fX |apply fY |apply ga |apply gd)<;>intro _
   all_goals first | (intro i hi;simp(disch:=omega) only[aE];done) | (refine⟨?_,fun i hi=>by simp(disch:=omega) only[aE]⟩;rfl)
  ·rename_i p t w
   obtain rfl:=Option.some.inj hm
   obtain⟨l,hl,e⟩:=aG e
   rw[aC] at e;obtain rfl:=Option.some.inj e
   have hW:=bL.of_lt hlt
   have hrl:=fun h' hk z f d ops r K m n=>@cE _ _ _ _ h' hl z f d ops r K m n hk
   obtain⟨lb,ro,hv,tv,hp,hb,qI,Hv,hH,hT,MB,MC,IZ,Bm,Pg,KG⟩:=jg hR hl
   cases hp
   have wQ:=hlt _ _ hb
   clear hm
   by_cases hin:1≤t∧t≤l.H.length
   ·obtain⟨a,c,rfl,hA⟩:=hT.len
    obtain⟨b,off,sp,L,Ik,rfl,hb',hL⟩:=hA (t-1).toNat (by omega)
    have Ur:=hin.1
    have Us:=hin.2
    clear hl hA
    refine ay (N:=32) Tryz.func105 rfl rfl fun z hP hO hro hN hQ=>?_
    repeat' first |simp(maxSteps:=2000000) (disch:=first |omega |assumption |exact Kept.refl _) only[go_sem, *,Tryz.results105,dW,dP,fK,uy,qX,Cq,KH,KI,implies_true] | (first |apply fZ |apply fV |apply f_ |apply fW |apply fX |apply fY |apply ga |apply gd)<;>intro _
   ·clear hl
    refine ay (N:=32) Tryz.func105 rfl rfl fun z hP hO hro hN hQ=>?_
    repeat' first |simp(maxSteps:=2000000) (disch:=first |omega |assumption |exact Kept.refl _) only[go_sem, *,Tryz.results105,dW,dP,fK,uy,qX,Cq,KH,KI,implies_true] | (first |apply fZ |apply fV |apply f_ |apply fW |apply fX |apply fY |apply ga |apply gd)<;>intro _
  ·simp at hm
def jG (l:cK) (r:Int):Prop:=r<0∧IntKind.i64.wrap (-1-r)<l.V
instance (l:cK) (r:Int):Decidable (jG l r):=inferInstanceAs (Decidable (_∧_))
def vg (l:cK) (r:Int):Int:=IntKind.i64.wrap (l.P.getD 7 0+IntKind.i64.wrap (IntKind.i64.wrap (-1-r)*7))
def tJ (l:cK) (r:Int):Value := .tuple ⟨[.int .i64 (vg l r),.bool (decide (jG l r))]⟩
def Bn (l:cK) (r lv:Int):Prop:=(1≤r∧r≤l.H.length)∧(0≤lv∧lv≤IntKind.i64.wrap (l.H.getD (r-1).toNat 0-1))
instance (l:cK) (r lv:Int):Decidable (Bn l r lv):=inferInstanceAs (Decidable ((_∧_)∧(_∧_)))
def Bo (l:cK) (r lv:Int):Int:=if jG l r∧(0≤lv∧lv≤5) then IntKind.i64.wrap (IntKind.i64.wrap (vg l r+1)+lv) else if Bn l r lv then IntKind.i64.wrap (IntKind.i64.wrap (l.T.getD (r-1).toNat 0+5)+lv) else 0
def wT (l:cK) (r lv:Int):Int:=if jG l r∧(0≤lv∧lv≤5) then 0 else if Bn l r lv then 0 else 3
def tK (l:cK) (r lv:Int):Value := .tuple ⟨[.int .i64 (Bo l r lv),.int .i64 (wT l r lv)]⟩
noncomputable def qJ:List Value→Option (AP Value)
 | [.pointer (some p),.int .i64 r]=>some ((tI (.pointer (some p))).bind fun l => .pure (tJ l r))
 | _=>none
set_option maxRecDepth 100000 in
set_option maxHeartbeats 4000000 in
theorem Uv:bf Tryz.prog 128 qJ:=by
 refine bp (aN .nil) bA ?_ ?_ ?_
 ·intro args m hm
  unfold qJ at hm
  split at hm
  ·obtain rfl:=Option.some.inj hm;exact(gQ _).bind fun l => .pure _
  ·simp at hm
 ·intro args m h v hm e
  unfold qJ at hm
  split at hm
  ·obtain rfl:=Option.some.inj hm
   obtain⟨l,hl,e⟩:=aG e
   rw[aC] at e;obtain rfl:=Option.some.inj e
   exact .tuple _ (by simp;exact⟨.int _ _,.bool _⟩)
  ·simp at hm
 ·intro args m h N v hm hR hlt e
  unfold qJ at hm
  split at hm
  ·rename_i p r
   obtain rfl:=Option.some.inj hm
   obtain⟨l,hl,e⟩:=aG e
   rw[aC] at e;obtain rfl:=Option.some.inj e
   have hW:=bL.of_lt hlt
   have hrl:=fun h' hk z f d ops r K m n=>@cE _ _ _ _ h' hl z f d ops r K m n hk
   obtain⟨lb,ro,hv,tv,hp,hb,qI,Hv,hH,hT,MB,MC,IZ,Bm,Pg,KG⟩:=jg hR hl
   cases hp
   have wQ:=hlt _ _ hb
   clear hm
   clear hl
   by_cases h0:r<0
   ·by_cases h1:IntKind.i64.wrap (-1-r)<l.V
    ·refine ay (N:=27) Tryz.func128 rfl rfl fun z hP hO hro hN hQ=>?_
     repeat' first |simp(maxSteps:=2000000) (disch:=first |omega |assumption |exact Kept.refl _) only[go_sem, *,Tryz.results128,tJ,vg,jG,implies_true] | (first |apply fZ |apply fV |apply f_ |apply fW |apply fX |apply fY |apply ga |apply gd)<;>intro _ | (first |apply iz |apply iA |apply iB |apply iC)<;>intro _ |refine aK (id:=2) (L:=Bj) (by kernel_rfl) (by kernel_rfl) ?_
    ·refine ay (N:=27) Tryz.func128 rfl rfl fun z hP hO hro hN hQ=>?_
     repeat' first |simp(maxSteps:=2000000) (disch:=first |omega |assumption |exact Kept.refl _) only[go_sem, *,Tryz.results128,tJ,vg,jG,implies_true] | (first |apply fZ |apply fV |apply f_ |apply fW |apply fX |apply fY |apply ga |apply gd)<;>intro _ | (first |apply iz |apply iA |apply iB |apply iC)<;>intro _ |refine aK (id:=2) (L:=Bj) (by kernel_rfl) (by kernel_rfl) ?_
   ·refine ay (N:=27) Tryz.func128 rfl rfl fun z hP hO hro hN hQ=>?_
    repeat' first |simp(maxSteps:=2000000) (disch:=first |omega |assumption |exact Kept.refl _) only[go_sem, *,Tryz.results128,tJ,vg,jG,implies_true] | (first |apply fZ |apply fV |apply f_ |apply fW |apply fX |apply fY |apply ga |apply gd)<;>intro _ | (first |apply iz |apply iA |apply iB |apply iC)<;>intro _ |refine aK (id:=2) (L:=Bj) (by kernel_rfl) (by kernel_rfl) ?_
  ·simp at hm
noncomputable abbrev Ohh:Over:=eN [(106,dW),(128,qJ),(102,dP)]
theorem Uw:cr Tryz.prog Ohh:=aN (.cons rE (.cons Uv (.cons wS .nil)))
noncomputable def qK:List Value→Option (AP Value)
 | [.pointer none,.int .i64 r,.int .i64 lv]=>some (.pure (.tuple ⟨[.int .i64 0,.int .i64 1]⟩))
 | [.pointer (some p),.int .i64 r,.int .i64 lv]=>some ((tI (.pointer (some p))).bind fun l => .pure (tK l r lv))
 | _=>none
set_option maxRecDepth 100000 in
set_option maxHeartbeats 4000000 in
theorem Ux:bf Tryz.prog 57 qK:=by
 refine bp Uw bA ?_ ?_ ?_
 ·intro args m hm
  unfold qK at hm
  split at hm
  ·obtain rfl:=Option.some.inj hm;exact .pure _
  ·obtain rfl:=Option.some.inj hm;exact(gQ _).bind fun l => .pure _
  ·simp at hm
 ·intro args m h v hm e
  unfold qK at hm
  split at hm
  ·obtain rfl:=Option.some.inj hm;rw[aC] at e;obtain rfl:=Option.some.inj e;exact .tuple _ (by simp;exact⟨.int _ _,.int _ _⟩)
  ·obtain rfl:=Option.some.inj hm
   obtain⟨l,hl,e⟩:=aG e
   rw[aC] at e;obtain rfl:=Option.some.inj e
   exact .tuple _ (by simp;exact⟨.int _ _,.int _ _⟩)
  ·simp at hm
 ·intro args m h N v hm hR hlt e
  unfold qK at hm
  split at hm
  ·obtain rfl:=Option.some.inj hm;rw[aC] at e;obtain rfl:=Option.some.inj e
   refine ay (N:=54) Tryz.func57 rfl rfl ?_
   intro z hP hO hro hN hQ
   repeat' first |simp(maxSteps:=2000000) (disch:=first |omega |assumption |exact Kept.refl _) only[go_sem, *,Tryz.results57,dW,qJ,tJ,dP,fK,uy,qX,tK,Bo,wT,Bn,implies_true] | (first |apply fZ |apply fV |apply f_ |apply fW |apply fX |apply fY |apply ga |apply gd)<;>intro _
   all_goals first | (intro i hi;simp(disch:=omega) only[aE];done) | (refine⟨?_,fun i hi=>by simp(disch:=omega) only[aE]⟩;rfl)
  ·rename_i p r lv
   obtain rfl:=Option.some.inj hm
   obtain⟨l,hl,e⟩:=aG e
   rw[aC] at e;obtain rfl:=Option.some.inj e
   have hW:=bL.of_lt hlt
   have hrl:=fun h' hk z f d ops r K m n=>@cE _ _ _ _ h' hl z f d ops r K m n hk
   obtain⟨lb,ro,hv,tv,hp,hb,qI,Hv,hH,hT,MB,MC,IZ,Bm,Pg,KG⟩:=jg hR hl
   cases hp
   have wQ:=hlt _ _ hb
   clear hm
   by_cases hin:1≤r∧r≤l.H.length
   ·obtain⟨a,c,rfl,hA⟩:=hT.len
    obtain⟨b,off,sp,L,Ik,rfl,hb',hL⟩:=hA (r-1).toNat (by omega)
    have Ur:=hin.1
    have Us:=hin.2
    have amn: ¬ jG l r:=fun hh=>absurd hh.1 (by omega)
    clear hl hA
    refine ay (N:=54) Tryz.func57 rfl rfl fun z hP hO hro hN hQ=>?_
    repeat' first |simp(maxSteps:=2000000) (disch:=first |omega |assumption |exact Kept.refl _) only[go_sem, *,Tryz.results57,dW,qJ,tJ,dP,fK,uy,qX,tK,Bo,wT,Bn,implies_true] | (first |apply fZ |apply fV |apply f_ |apply fW |apply fX |apply fY |apply ga |apply gd)<;>intro _
   ·clear hl
    refine ay (N:=54) Tryz.func57 rfl rfl fun z hP hO hro hN hQ=>?_
    repeat' first |simp(maxSteps:=2000000) (disch:=first |omega |assumption |exact Kept.refl _) only[go_sem, *,Tryz.results57,dW,qJ,tJ,dP,fK,uy,qX,tK,Bo,wT,Bn,implies_true] | (first |apply fZ |apply fV |apply f_ |apply fW |apply fX |apply fY |apply ga |apply gd)<;>intro _
  ·simp at hm
noncomputable def iL:List Value→Option (AP Value)
 | [.pointer none]=>some (.pure (.agg ⟨[.int .i64 0,.int .i64 0,.int .i64 0,.int .i64 0,.int .i64 0,.int .i64 0,.int .i64 0,.int .i64 0,.int .i64 0,.int .i64 0]⟩))
 | [.pointer (some p)]=>some ((tI (.pointer (some p))).bind fun l => .pure (.agg ⟨l.P.map (.int .i64)⟩))
 | _=>none
set_option maxRecDepth 100000 in
set_option maxHeartbeats 4000000 in
theorem KK:bf Tryz.prog 50 iL:=by
 refine bp (aN .nil) bA ?_ ?_ ?_
 ·intro args m hm
  unfold iL at hm
  split at hm
  ·obtain rfl:=Option.some.inj hm;exact .pure _
  ·obtain rfl:=Option.some.inj hm;exact(gQ _).bind fun l => .pure _
  ·simp at hm
 ·intro args m h v hm e
  unfold iL at hm
  split at hm
  ·obtain rfl:=Option.some.inj hm;rw[aC] at e;obtain rfl:=Option.some.inj e;exact .agg _ (by simp;exact .int _ _)
  ·obtain rfl:=Option.some.inj hm
   obtain⟨l,hl,e⟩:=aG e
   rw[aC] at e;obtain rfl:=Option.some.inj e
   exact .agg _ (by intro u hu;simp only[List.mem_map] at hu;obtain⟨x,_,rfl⟩:=hu;exact .int _ _)
  ·simp at hm
 ·intro args m h N v hm hR hlt e
  unfold iL at hm
  split at hm
  ·obtain rfl:=Option.some.inj hm;rw[aC] at e;obtain rfl:=Option.some.inj e
   refine ay (N:=10) Tryz.func50 rfl rfl ?_
   intro z hP hO hro hN hQ
   repeat' first |simp(maxSteps:=2000000) (disch:=first |omega |assumption |exact Kept.refl _) only[go_sem, *,Tryz.results50,implies_true] | (first |apply fZ |apply fV |apply f_ |apply fW |apply fX |apply fY |apply ga |apply gd)<;>intro _
   all_goals first | (intro i hi;simp(disch:=omega) only[aE];done) | (refine⟨?_,fun i hi=>by simp(disch:=omega) only[aE]⟩;rfl)
  ·rename_i p
   obtain rfl:=Option.some.inj hm
   obtain⟨l,hl,e⟩:=aG e
   rw[aC] at e;obtain rfl:=Option.some.inj e
   have hW:=bL.of_lt hlt
   have hrl:=fun h' hk z f d ops r K m n=>@cE _ _ _ _ h' hl z f d ops r K m n hk
   obtain⟨lb,ro,hv,tv,hp,hb,qI,Hv,hH,hT,MB,MC,IZ,Bm,Pg,KG⟩:=jg hR hl
   cases hp
   have wQ:=hlt _ _ hb
   clear hm
   clear hl
   have Uq:l.P.length=10:=by have:=congrArg List.length Bm;simp at this;omega
   obtain⟨p0,p1,p2,p3,p4,p5,p6,p7,p8,p9,Up⟩:∃ p0 p1 p2 p3 p4 p5 p6 p7 p8 p9,l.P=[p0,p1,p2,p3,p4,p5,p6,p7,p8,p9]:=by
    match hq:l.P,Uq with
    | [p0,p1,p2,p3,p4,p5,p6,p7,p8,p9],_=>exact⟨p0,p1,p2,p3,p4,p5,p6,p7,p8,p9,rfl⟩
   rw[Up] at Bm
   have amo:Nat.ble 26 l.S.length=true:=by rw[IZ];rfl
   clear Uq
   refine ay (N:=10) Tryz.func50 rfl rfl fun z hP hO hro hN hQ=>?_
   repeat' first |simp(maxSteps:=2000000) (disch:=first |omega |assumption |exact Kept.refl _) only[go_sem, *,Tryz.results50,implies_true] | (first |apply fZ |apply fV |apply f_ |apply fW |apply fX |apply fY |apply ga |apply gd)<;>intro _
   all_goals first | (intro i hi;simp(disch:=omega) only[aE];done) | (refine⟨?_,fun i hi=>by simp(disch:=omega) only[aE]⟩;rfl)
  ·simp at hm
end Go.Proofs.YtofmbmclopgldaaGreat
