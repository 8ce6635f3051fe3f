/-
A part.
-/
import Derived.Test.YtofmbmclopgldaaGreatPT
set_option linter.all false
set_option maxRecDepth 100000
set_option maxHeartbeats 4000000
namespace Go.Am
theorem yj{p:Prop}(h:p:=by first|omega|((repeat first|assumption|exact Kept.refl _|refine Kept.set' (by assumption) ?_ ?_|refine Kept.set (by assumption) ?_ ?_|omega)<;>fail)):p:=h
end Go.Am
namespace Go.Am
section
variable {P:Program}
def Un(a o m:Nat)(l:List Value):aj→AP Value
 | .cells d false=>match bN d o l with
  |some d' => .set a (.cells d' false) (.pure (.int .i64 (m:Nat)))
  |none => .fail "copy"
 | _ => .fail "copy"
def Uo(b bo a o s m:Nat):aj→AP Value
 | .cells c _=>match aW c bo (m*s) with
  |some l => .get a (Un a o m l)
  |none => .fail "copy"
 | _ => .fail "copy"
def cpQ(k:Option (Option Nat×Nat))(a o b bo len n:Nat)(fb:AP aG):AP aG:=match k with
 |some (none,s)=>cond (Nat.beq (min n len) 0) (.pure (.value (.int .i64 0))) ((AP.get b (Uo b bo a o s (min n len))).bind fun v => .pure (.value v))
 | _=>fb
@[go_sem] theorem abY{t u:TypeId}{a o b bo len n c c':Nat}{p q:Option Nat}:Kx P .copy [t,u] [.slice (some ⟨a,o,p⟩) len c,.slice (some ⟨b,bo,q⟩) n c']=cpQ (vV P t) a o b bo len n ((zO P [t,u] [.slice (some ⟨a,o,p⟩) len c,.slice (some ⟨b,bo,q⟩) n c']).bind fun v => .pure (.value v)):=by
 show (zO P [t,u] [.slice (some ⟨a,o,p⟩) len c,.slice (some ⟨b,bo,q⟩) n c']).bind (fun v=>AP.pure (aG.value v))=_
 unfold cpQ vV;cases hu:P.underlying t with
 |none=>rfl
 |some w=>
  cases w with
  |slice e=>
   dsimp only;cases hi:P.info? e with
   |none=>rfl
   |some i=>
    simp only[Option.map_some,zO,hu,hi];cases Nat.beq (min n len) 0<;>rfl
  |array l e=>dsimp only;cases P.info? e<;>rfl
  | _=>rfl
@[go_sem] theorem aeA{s a o b bo len n:Nat}{fb:AP aG}:cpQ (some (none,s)) a o b bo len n fb=cond (Nat.beq (min n len) 0) (.pure (.value (.int .i64 0))) ((AP.get b (Uo b bo a o s (min n len))).bind fun v => .pure (.value v)):=rfl
@[go_sem] theorem aeB{b bo a o s m:Nat}{L:List Value}{ro:Bool}:Uo b bo a o s m (.cells (PT.ofList .leaf 0 L) ro)=cond (Nat.ble (bo+m*s) L.length||Nat.beq (m*s) 0) (.get a (Un a o m ((L.drop bo).take (m*s)))) (.fail "copy"):=by
 simp only[Uo,dU];cases (Nat.ble (bo+m*s) L.length||Nat.beq (m*s) 0)<;>rfl
@[go_sem] theorem aeC{a o m:Nat}{l L:List Value}:Un a o m l (.cells (PT.ofList .leaf 0 L) false)=cond ((Nat.ble (o+l.length) L.length||l.isEmpty)&&l.all bw) (.set a (.cells (PT.ofList .leaf 0 (rj L o l)) false) (.pure (.int .i64 (m:Nat)))) (.fail "copy"):=by
 simp only[Un,je];cases ((Nat.ble (o+l.length) L.length||l.isEmpty)&&l.all bw)<;>rfl
end
end Go.Am
namespace Go.Proofs.YtofmbmclopgldaaGreat
open Go.Am Tryz
noncomputable def uo:List Value→Option (AP Value)
 | [.int .u8 k,.int .i64 many,.int .i64 words,.pointer (some ⟨ab,0,none⟩),.pointer (some ⟨cb,0,none⟩)]=>some <|
  AP.row ab fun (A:List Value) aro=>AP.row cb fun (C:List Value) _=>match A,C with
  | [.int .i64 at_],[.pointer (some ⟨lb,0,none⟩)]=>AP.row lb fun (S:List Value) ro=>
   let fin (g len:Nat):AP Value := .setRow lb (S.set 26 (.slice (some ⟨g,0,none⟩) (len+1) (aA+4))) (.setRow ab [.int .i64 (IntKind.i64.wrap (at_+IntKind.i64.wrap (many*words)))] (.pure (.int .i64 at_)))
   cond (!aro && !ro&&Nat.ble 27 S.length) (match (S[26]? : Option Value) with
   |some (.slice none 0 0) => .newRow [.int .u8 k,.int .i64 at_,.int .i64 many,.int .i64 words] fun g=>fin g 0
   |some (.slice (some ⟨g0,0,none⟩) len cap)=>AP.row g0 fun (G:List Value) gro=>
    cond (!gro&&Nat.beq cap (aA+4)&&Nat.ble len 100&&Nat.blt 0 len&&Nat.beq G.length (len*4) && !Nat.beq g0 ab && !Nat.beq g0 cb && !Nat.beq g0 lb)
     (.kill g0 (.newRow (G++[.int .u8 k,.int .i64 at_,.int .i64 many,.int .i64 words]) fun g=>fin g len)) (.fail "")
   | _ => .fail "") (.fail "")
  | _,_ => .fail ""
 | _=>none
theorem bU:prog.follows .mixedOrders=true:=by kernel_rfl
theorem Zr:bG prog 110 uo:=by
 refine xE (aV .nil) bU ?_;intro args m hm h n N Old eS v h1 n1 hr hold hid hN;unfold uo at hm;split at hm
 ·rename_i k many words ab cb;simp only[Option.some.injEq] at hm;subst hm;replace hr:=nJ hr;obtain⟨A,aro,hA,hr⟩:=hr;replace hr:=nJ hr;obtain⟨C,cro,hC,hr⟩:=hr;split at hr
  ·rename_i at_ lb;replace hr:=nJ hr;obtain⟨S,ro,hS,hr⟩:=hr;replace hr:=ec hr;obtain⟨hc,hr⟩:=hr;simp only[Bool.and_eq_true,Bool.not_eq_true'] at hc;obtain⟨⟨rfl,rfl⟩,hlen⟩:=hc;have hlen:=Nat.le_of_ble_eq_true hlen;have hlt:∀ i B,h.get i=some B→i<N∧ ¬(n≤i∧i<n1):=fun i B e=>hid i (hold.id i B e);have ha:=hlt _ _ hA;have hcb:=hlt _ _ hC;have hlb:=hlt _ _ hS;have n1':ab≠cb:=fun e=>by
    rw[e,hC] at hA;have:=ofList_inj (aj.cells.inj (Option.some.inj hA)).1;simp at this
   have Up:ab≠lb:=fun e=>by
    rw[e,hS] at hA;have:=ofList_inj (aj.cells.inj (Option.some.inj hA)).1;rw[this] at hlen;simp at hlen
   have n3':cb≠lb:=fun e=>by
    rw[e,hS] at hC;have:=ofList_inj (aj.cells.inj (Option.some.inj hC)).1;rw[this] at hlen;simp at hlen
   split at hr
   ·rename_i h26;replace hr:=run_set (run_set (sK hr));obtain⟨hs,rfl⟩:=run_pure hr;clear hr;have e1:h1=_:=congrArg HS.heap hs;have e2:n1=_:=congrArg HS.next hs;simp only[S0] at e1 e2;subst e1 e2;clear hs;refine ay (N:=31) func110 rfl rfl ?_;intro z hP hO hro hNz hQ
    repeat' first|simp(disch:=omega) only[go_sem, *,results110] | (first|apply dI|apply dD|apply dJ|apply dF|apply dG|apply dH|apply dK|apply dL)<;>intro _ | (first|apply ez|apply eA|apply eB|apply eC)<;>intro _ |refine aB (by cbv) (by first|rfl |cbv) ?_
    refine⟨fun _=>N+1,fun i _ _=>Nat.le_succ N,fun i j q1 q2 q3 q4 _=>by omega,.int _ _,fun i B e=>?_⟩;have Zs:cC (Ij eS n (n+1) fun _=>N+1) Old S S:=cC.refl _ fun u hu=>by
     obtain⟨j,hj⟩:=List.mem_iff_getElem?.1 hu;exact .old _ (hold.cells lb _ _ j u hS (by rw[PT.aQ];exact hj))
    have hnew:Ij eS n (n+1) (fun _=>N+1) n (N+1) := .inr ⟨Nat.le_refl _,Nat.lt_succ_self _,rfl⟩;rw[PT.bC] at e;split at e
    ·rename_i hi;subst hi;obtain rfl:=Option.some.inj e;refine .inr ⟨_,?_,.cells _ _ _ (.cons _ _ _ _ (.int _ _) .nil)⟩;rw[uc qJ];simp(disch:=omega) only[go_sem]
    ·rw[PT.bC] at e;split at e
     ·rename_i hi;subst hi;obtain rfl:=Option.some.inj e;refine .inr ⟨_,?_,.cells _ _ _ (Zs.set 26 (.slice n 0 1 (aA+4) (N+1) hnew))⟩;rw[uc qJ];simp(disch:=omega) only[go_sem]
     ·rw[PT.bC] at e;split at e
      ·rename_i hi;subst hi;obtain rfl:=Option.some.inj e;refine .inr ⟨_,?_,.cells _ _ _ (.cons _ _ _ _ (.int _ _) (.cons _ _ _ _ (.int _ _) (.cons _ _ _ _ (.int _ _) (.cons _ _ _ _ (.int _ _) .nil))))⟩;rw[xO qJ];simp(disch:=omega) only[go_sem]
      ·have:=(hlt i B e).1;refine .inl ⟨e,?_⟩;simp(disch:=omega) only[go_sem,e]
   ·rename_i g0 len cap h26;replace hr:=nJ hr;obtain⟨G,gro,hG,hr⟩:=hr;replace hr:=ec hr;obtain⟨hc,hr⟩:=hr;simp only[Bool.and_eq_true,Bool.not_eq_true'] at hc;obtain⟨⟨⟨⟨⟨⟨⟨rfl,hcap⟩,hl1⟩,zo⟩,hGl⟩,d1⟩,d2⟩,d3⟩:=hc;obtain rfl:=Nat.eq_of_beq_eq_true hcap;have hl1:=Nat.le_of_ble_eq_true hl1;have zo:=Nat.le_of_ble_eq_true zo;have hGl:=Nat.eq_of_beq_eq_true hGl;have d1:g0≠ab:=fun e=>by rw[e,oU] at d1;simp at d1
    have d2:g0≠cb:=fun e=>by rw[e,oU] at d2;simp at d2
    have d3:g0≠lb:=fun e=>by rw[e,oU] at d3;simp at d3
    replace hr:=run_set (run_set (sK (DX hr)));obtain⟨hs,rfl⟩:=run_pure hr;clear hr;have e1:h1=_:=congrArg HS.heap hs;have e2:n1=_:=congrArg HS.next hs;simp only[S0] at e1 e2;subst e1 e2;clear hs;have hg:=hlt _ _ hG;have hGt:List.take (len*4) G=G:=List.take_of_length_le qJ;refine ay (N:=31) func110 rfl rfl ?_;intro z hP hO hro hNz hQ
    repeat' first|simp(disch:=omega) only[go_sem, *,results110] | (first|apply dI|apply dD|apply dJ|apply dF|apply dG|apply dH|apply dK|apply dL)<;>intro _ | (first|apply ez|apply eA|apply eB|apply eC)<;>intro _ |refine aB (by cbv) (by first|rfl |cbv) ?_
    refine⟨fun _=>N+1,fun i _ _=>Nat.le_succ N,fun i j q1 q2 q3 q4 _=>by omega,.int _ _,fun i B e=>?_⟩;have Zs:cC (Ij eS n (n+1) fun _=>N+1) Old S S:=cC.refl _ fun u hu=>by
     obtain⟨j,hj⟩:=List.mem_iff_getElem?.1 hu;exact .old _ (hold.cells lb _ _ j u hS (by rw[PT.aQ];exact hj))
    have hGr:cC (Ij eS n (n+1) fun _=>N+1) Old G G:=cC.refl _ fun u hu=>by
     obtain⟨j,hj⟩:=List.mem_iff_getElem?.1 hu;exact .old _ (hold.cells g0 _ _ j u hG (by rw[PT.aQ];exact hj))
    have hnew:Ij eS n (n+1) (fun _=>N+1) n (N+1) := .inr ⟨Nat.le_refl _,Nat.lt_succ_self _,rfl⟩;rw[PT.bC] at e;split at e
    ·rename_i hi;subst hi;obtain rfl:=Option.some.inj e;refine .inr ⟨_,?_,.cells _ _ _ (.cons _ _ _ _ (.int _ _) .nil)⟩;rw[uc qJ];simp(disch:=omega) only[go_sem]
    ·rw[PT.bC] at e;split at e
     ·rename_i hi;subst hi;obtain rfl:=Option.some.inj e;refine .inr ⟨_,?_,.cells _ _ _ (Zs.set 26 (.slice n 0 (len+1) (aA+4) (N+1) hnew))⟩;rw[uc qJ];simp(disch:=omega) only[go_sem]
     ·rw[PT.bC] at e;split at e
      ·rename_i hi;subst hi;obtain rfl:=Option.some.inj e;refine .inr ⟨_,?_,.cells _ _ _ (hGr.append (.cons _ _ _ _ (.int _ _) (.cons _ _ _ _ (.int _ _) (.cons _ _ _ _ (.int _ _) (.cons _ _ _ _ (.int _ _) .nil)))))⟩;rw[xO qJ];simp(disch:=omega) only[go_sem]
      ·rw[PT.bC] at e;split at e
       ·simp at e
       rename_i hg0;have:=(hlt i B e).1;refine .inl ⟨e,?_⟩;simp(disch:=omega) only[go_sem,e]
   ·exact(xP hr).elim
  ·exact(xP hr).elim
 ·simp at hm
variable {O:Over}
theorem within(a b c:Int)(h:PT aj)(n:Nat):cE prog O 106 [.int .i64 a,.int .i64 b,.int .i64 c] h n fun v h' n'=>v = .bool (decide (b≤a)&&decide (a≤c))∧h'=h∧n'=n:=by
 refine ay (N:=15) func106 rfl rfl ?_;intro z hP hO hro hN hQ
 repeat' first|simp(disch:=omega) only[go_sem, *,results106] | (first|apply dI|apply dD|apply dJ|apply dF|apply dG|apply dH|apply dK|apply dL)<;>intro _ | (first|apply ez|apply eA|apply eB|apply eC)<;>intro _ |refine aB (by cbv) (by first|rfl |cbv) ?_
end Go.Proofs.YtofmbmclopgldaaGreat
namespace Go.Proofs.YtofmbmclopgldaaGreat
open Go.Am Tryz
variable {O:Over}
def yt:Int→List Int→Bool
 | _,[]=>true
 |b,x::xs=>if x≤b then false else yt x xs
theorem yu{b:Int}{xs:List Int}{i:Nat}(hi:i<xs.length):yt b (xs.drop i)=if xs.getD i 0≤b then false else yt (xs.getD i 0) (xs.drop (i+1)):=by
 rw[List.drop_eq_getElem_cons hi];simp[yt,List.getD,hi]
theorem ascending(xs:List Int)(s:Value)(h:PT aj)(n:Nat)(hs:aN .u64 h s xs)(hl:xs.length<1000000000000000):cE prog O 225 [s] h n fun v h' n'=>v = .bool (yt 0 xs)∧h'=h∧n'=n:=by
 obtain⟨a,cap,rfl,hA⟩:=hs.len;clear hs;refine ay (N:=17) func225 rfl rfl ?_;intro z hP hO hro hN hQ
 repeat' first|simp(disch:=omega) only[go_sem, *,results225] | (first|apply dI|apply dD|apply dJ|apply dF|apply dG|apply dH|apply dK|apply dL)<;>intro _ | (first|apply ez|apply eA|apply eB|apply eC)<;>intro _ |refine aB (by cbv) (by first|rfl |cbv) ?_
 refine a_ (fun t m h' n'=>h'=h∧n'=n∧∃ (i:Nat) (b:Int),i≤xs.length∧t=xs.length-i∧yt 0 xs=yt b (xs.drop i)∧m.n=17∧m.fF=[]∧m.get 6 = .slice a xs.length cap∧m.get 7 = .int .i64 xs.length∧m.get 8 = .int .i64 i∧m.get 3 = .int .u64 b) xs.length ?_ ?_
 ·refine⟨rfl,rfl,0,0,by omega,by omega,by simp,?_⟩;simp(disch:=omega) only[go_sem, *]
 ·rintro t m h n ih ⟨rfl,rfl,i,b,hi,rfl,uq,m1,m2,m3,m4,m5,m6⟩
  rcases Nat.lt_or_ge i xs.length with hlt |hge
  ·obtain⟨bk,off,sp,L,ro,rfl,hb,hL⟩:=hA i hlt;have e1:(i:Int)<xs.length:=by omega
   rw[yu hlt] at uq;clear hA
   repeat' first|simp(disch:=omega) only[go_sem, *,results225] | (first|apply dI|apply dD|apply dJ|apply dF|apply dG|apply dH|apply dK|apply dL)<;>intro _ | (first|apply ez|apply eA|apply eB|apply eC)<;>intro _ |refine aB (by cbv) (by first|rfl |cbv) ?_
   refine ih (xs.length-(i+1)) _ _ _ qJ ⟨rfl,rfl,i+1,xs.getD i 0,by omega,by omega,?_⟩;simp(disch:=omega) only[go_sem, *];simp
  ·have e1: ¬ (i:Int)<xs.length:=by omega
   rw[List.drop_eq_nil_of_le hge] at uq
   repeat' first|simp(disch:=omega) only[go_sem, *,results225,yt] | (first|apply dI|apply dD|apply dJ|apply dF|apply dG|apply dH|apply dK|apply dL)<;>intro _ | (first|apply ez|apply eA|apply eB|apply eC)<;>intro _ |refine aB (by cbv) (by first|rfl |cbv) ?_
end Go.Proofs.YtofmbmclopgldaaGreat
namespace Go.Proofs.YtofmbmclopgldaaGreat
open Go.Am Tryz
def fP:List Value→Option (AP Value)
 | [.int .i64 a,.int .i64 b,.int .i64 c]=>some (.pure (.bool (decide (b≤a)&&decide (a≤c))))
 | _=>none
theorem wo:bG prog 106 fP:=by
 refine ct (aV .nil) bU ?_;intro args m hm;unfold fP at hm;split at hm
 ·rename_i a b c;simp only[Option.some.injEq] at hm;subst hm;refine⟨fun h v=>v = .bool (decide (b≤a)&&decide (a≤c)),fun h n v s' _ e=>?_,fun h N v _ hv=>?_⟩
  ·obtain⟨h1,rfl⟩:=run_pure e;exact⟨h1,.bool _,rfl⟩
  ·subst hv;exact(within a b c h N).mono fun v h' n' ⟨e1,e2,e3⟩=>⟨e1,fun i _=>by rw[e2]⟩
 ·simp at hm
def K9:List Value→Option (AP Value)
 | [s]=>some ((eM .u64 s).bind fun xs=>cond (decide (xs.length<1000000000000000)) (.pure (.bool (yt 0 xs))) (.fail ""))
 | _=>none
theorem aqq:bG prog 225 K9:=by
 refine ct (aV .nil) bU ?_;intro args m hm;unfold K9 at hm;split at hm
 ·rename_i s;simp only[Option.some.injEq] at hm;subst hm;refine⟨fun h v=>∃ xs,aN .u64 h s xs∧xs.length<1000000000000000∧v = .bool (yt 0 xs),fun h n v s' hR e=>?_,fun h N v _ hv=>?_⟩
  ·obtain⟨xs,hx,e⟩:=jf hR e;obtain⟨hl,e⟩:=ec e;obtain⟨h1,rfl⟩:=run_pure e;exact⟨h1,.bool _,xs,hx,of_decide_eq_true hl,rfl⟩
  ·obtain⟨xs,hx,hl,rfl⟩:=hv;exact(ascending xs s h N hx hl).mono fun v h' n' ⟨e1,e2,e3⟩=>⟨e1,fun i _=>by rw[e2]⟩
 ·simp at hm
def cq(kind n:Int)(xs:List Int):Bool:=
 if kind=1 then decide (n=0)&&decide ((xs.length:Int)=0)
 else if kind=2 then decide (1≤n)&&decide (n≤64)&&decide ((xs.length:Int)=0)
 else if kind=3 then decide (n=0)&&decide (1≤(xs.length:Int))&&decide ((xs.length:Int)<64)&&yt 0 xs
 else false
def dO(b:Bool):Int:=if b then 0 else 2
abbrev O1:Over:=gG [(225,K9)]
theorem aqr:cU prog O1:=aV (.cons aqq .nil)
theorem Ph(kind n:Int)(s:Value)(xs:List Int)(h:PT aj)(N:Nat)(hN:∀ i B,h.get i=some B→i<N)(hs:aN .u64 h s xs)(hl:xs.length<1000000000000000):cE prog O1 161 [.agg ⟨[.int .u8 kind,.int .i64 n,s]⟩] h N fun v h' n'=>v = .int .i64 (dO (cq kind n xs))∧∀ i,i<N→h'.get i=h.get i:=by
 rcases hs.BL with ⟨rfl,rfl⟩ | ⟨b,off,sp,cap,L,ro,rfl,rfl,hb⟩ | ⟨b,off,sp,cap,L,ro,rfl,hb,hB,hT⟩
 ·refine ay (N:=57) func161 rfl rfl ?_;intro z hP hO hro hN hQ
  repeat' first|simp(disch:=omega) only[go_sem, *,results161,K9] | (first|apply dI|apply dD|apply dJ|apply dF|apply dG|apply dH|apply dK|apply dL)<;>intro _ | (first|apply ez|apply eA|apply eB|apply eC)<;>intro _ |refine aB (by cbv) (by first|rfl |cbv) ?_
  all_goals refine⟨?_,fun i hi=>by simp(disch:=omega) only[az]⟩
  all_goals simp(disch:=omega) only[go_sem, *,dO,cq,yt,Bool.false_eq_true,Int.natCast_zero,List.length_nil]
 ·have zG:=hN _ _ hb;refine ay (N:=57) func161 rfl rfl ?_;intro z hP hO hro hN hQ
  repeat' first|simp(disch:=omega) only[go_sem, *,results161,K9] | (first|apply dI|apply dD|apply dJ|apply dF|apply dG|apply dH|apply dK|apply dL)<;>intro _ | (first|apply ez|apply eA|apply eB|apply eC)<;>intro _ |refine aB (by cbv) (by first|rfl |cbv) ?_
  all_goals refine⟨?_,fun i hi=>by simp(disch:=omega) only[az]⟩
  all_goals simp(disch:=omega) only[go_sem, *,dO,cq,yt,Bool.false_eq_true,Int.natCast_zero,List.length_nil]
 ·have zG:=hN _ _ hb;refine ay (N:=57) func161 rfl rfl ?_;intro z hP hO hro hN hQ
  repeat' first|simp(disch:=omega) only[go_sem, *,results161,K9] | (first|apply dI|apply dD|apply dJ|apply dF|apply dG|apply dH|apply dK|apply dL)<;>intro _ | (first|apply ez|apply eA|apply eB|apply eC)<;>intro _ |refine aB (by cbv) (by first|rfl |cbv) ?_
  all_goals refine⟨?_,fun i hi=>by simp(disch:=omega) only[az]⟩
  all_goals simp(disch:=omega) only[go_sem, *,dO,cq,yt,Bool.false_eq_true,Int.natCast_zero,List.length_nil]
def kE:List Value→Option (AP Value)
 | [.agg ⟨[.int .u8 kind,.int .i64 n,s]⟩]=>some ((eM .u64 s).bind fun xs=>cond (decide (xs.length<1000000000000000)) (.pure (.int .i64 (dO (cq kind n xs)))) (.fail ""))
 | _=>none
theorem AE:bG prog 161 kE:=by
 refine ct aqr bU ?_;intro args m hm;unfold kE at hm;split at hm
 ·rename_i kind n s;simp only[Option.some.injEq] at hm;subst hm;refine⟨fun h v=>∃ xs,aN .u64 h s xs∧xs.length<1000000000000000∧v = .int .i64 (dO (cq kind n xs)),fun h n v s' hR e=>?_,fun h N v hlt hv=>?_⟩
  ·obtain⟨xs,hx,e⟩:=jf hR e;obtain⟨hl,e⟩:=ec e;obtain⟨h1,rfl⟩:=run_pure e;exact⟨h1,.int _ _,xs,hx,of_decide_eq_true hl,rfl⟩
  ·obtain⟨xs,hx,hl,rfl⟩:=hv;exact Ph kind n s xs h N hlt hx hl
 ·simp at hm
def gq(th sl en bu kd dn t0 t1 t2 t3 t4 t5 lo tr ba:Int)(xs:List Int):Bool:=
 !(decide (t0<0)||decide (1024<t0)) && !(decide (t1<0)||decide (1024-t0<t1)) && !(decide (t2<0)||decide (1024-t0-t1<t2)) && !(decide (t3<0)||decide (1024-t0-t1-t2<t3))&&
 !(decide (t4<0)||decide (1024-t0-t1-t2-t3<t4)) && !(decide (t5<0)||decide (1024-t0-t1-t2-t3-t4<t5))&&
 (decide (1≤th)&&decide (th≤64))&&(decide (1≤sl)&&decide (sl≤64)) && !decide (en<1) && !decide (3<en)&&(if en=3 then decide (1≤bu)&&decide (bu≤16) else decide (bu=0))&&
 cq kd dn xs&&(decide (1≤lo)&&decide (lo≤16))&&(decide (1≤tr)&&decide (tr≤255))&&(decide (0≤ba)&&decide (ba≤64))
abbrev O2:Over:=gG [(106,fP),(161,kE)]
theorem aqs:cU prog O2:=aV (.cons wo (.cons AE .nil))
theorem mK(b:Bool):(dO b≠0)=(b=false):=by cases b<;>simp[dO]
theorem Pj(th sl en bu kd dn t0 t1 t2 t3 t4 t5 lo tr ba:Int)(s:Value)(xs:List Int)(h:PT aj)(N:Nat)(hN:∀ i B,h.get i=some B→i<N)(hs:aN .u64 h s xs)(hl:xs.length<1000000000000000):
  cE prog O2 108 [.agg ⟨[.int .i64 th,.int .i64 sl,.int .u8 en,.int .i64 bu,.int .u8 kd,.int .i64 dn,s,.int .i64 t0,.int .i64 t1,.int .i64 t2,.int .i64 t3,.int .i64 t4,.int .i64 t5,.int .i64 lo,.int .i64 tr,.int .i64 ba]⟩] h N
   fun v h' n'=>v = .int .i64 (dO (gq th sl en bu kd dn t0 t1 t2 t3 t4 t5 lo tr ba xs))∧∀ i,i<N→h'.get i=h.get i:=by
 obtain⟨a,cap,rfl,-⟩:=hs.len;have hrd:=fun h' hk z f d ops r K m n=>@gI _ _ h' _ _ hs z f d ops r K m n hk;refine ay (N:=80) func108 rfl rfl ?_;intro z hP hO hro hN hQ
 repeat' first|simp(disch:=try exact yj) only[go_sem, *,results108,fP,kE,eR,mK] | (first|apply dI|apply dD|apply dJ|apply dF|apply dG|apply dH|apply dK|apply dL)<;>intro _ | (first|apply ez|apply eA|apply eB|apply eC)<;>intro _ |refine aB (by cbv) (by first|rfl |cbv) ?_
 all_goals refine⟨?_,fun i hi=>by simp(disch:=omega) only[az]⟩
 all_goals (try simp only[Bool.not_eq_false] at *)
 all_goals simp(disch:=try exact yj) only[go_sem, *,dO,gq,Bool.false_eq_true]
def fQ(k:IntKind)(h:PT aj)(lo hi:Nat)(s:Value)(xs:List Int):Prop:=
 (s = .slice none 0 0∧xs=[])∨∃ b cap,s = .slice (some ⟨b,0,none⟩) xs.length cap∧lo≤b∧b<hi∧h.get b=some (.cells (PT.ofList .leaf 0 (xs.map (.int k))) false)
theorem fQ.cR{k:IntKind}{h:PT aj}{lo hi:Nat}{s:Value}{xs:List Int}(hs:fQ k h lo hi s xs):aN k h s xs:=by
 rcases hs with hs | ⟨b,cap,e,_,_,hb⟩
 ·exact .inl hs
 ·refine .inr ⟨b,0,none,cap,_,_,e,hb,?_,?_⟩
  ·simp[jd]
  ·rw[List.drop_zero];exact jH
theorem fQ.low{k:IntKind}{h:PT aj}{lo hi j:Nat}{s:Value}{xs:List Int}{B:Option aj}(hs:fQ k h lo hi s xs)(hj:j<lo):fQ k (h.set j B) lo hi s xs:=by
 rcases hs with hs | ⟨b,cap,e,hl,hh,hb⟩
 ·exact .inl hs
 ·exact .inr ⟨b,cap,e,hl,hh,by rw[PT.cB _ _ qJ];exact hb⟩
theorem clone{O:Over}(s:Value)(xs:List Int)(h:PT aj)(N:Nat)(hW:bQ h N)(hs:aN .u64 h s xs)(hl:xs.length<1000000):
  cE prog O 109 [s] h N fun v h' n'=>Kept h h'∧fQ .u64 h' N n' v xs:=by
 rcases hs.BL with ⟨rfl,rfl⟩ | ⟨b,off,sp,cap,L,ro,rfl,rfl,hb⟩ | ⟨b,off,sp,cap,L,ro,rfl,hb,hB,hT⟩
 ·refine ay (N:=8) func109 rfl rfl ?_;intro z hP hO hro hN hQ
  repeat' first|simp(disch:=try exact yj) only[go_sem, *,results109] | (first|apply dI|apply dD|apply dJ|apply dF|apply dG|apply dH|apply dK|apply dL)<;>intro _ | (first|apply ez|apply eA|apply eB|apply eC)<;>intro _ |refine aB (by cbv) (by first|rfl |cbv) ?_
  exact⟨Kept.refl _,.inl ⟨rfl,rfl⟩⟩
 ·have zG:=hW.lt hb;refine ay (N:=8) func109 rfl rfl ?_;intro z hP hO hro hN hQ
  repeat' first|simp(disch:=try exact yj) only[go_sem, *,results109] | (first|apply dI|apply dD|apply dJ|apply dF|apply dG|apply dH|apply dK|apply dL)<;>intro _ | (first|apply ez|apply eA|apply eB|apply eC)<;>intro _ |refine aB (by cbv) (by first|rfl |cbv) ?_
  all_goals refine⟨hW.kept (Nat.le_refl _),.inr ⟨N,0,rfl,Nat.le_refl _,by omega,?_⟩⟩
  all_goals simp(disch:=omega) only[go_sem]
 ·have zG:=hW.lt hb;by_cases hx:xs.length=0
  ·obtain rfl:xs=[]:=List.eq_nil_of_length_eq_zero hx;refine ay (N:=8) func109 rfl rfl ?_;intro z hP hO hro hN hQ
   repeat' first|simp(disch:=try exact yj) only[go_sem, *,results109] | (first|apply dI|apply dD|apply dJ|apply dF|apply dG|apply dH|apply dK|apply dL)<;>intro _ | (first|apply ez|apply eA|apply eB|apply eC)<;>intro _ |refine aB (by cbv) (by first|rfl |cbv) ?_
   all_goals refine⟨hW.kept (Nat.le_refl _),.inr ⟨N,0,rfl,Nat.le_refl _,by omega,?_⟩⟩
   all_goals simp(disch:=omega) only[go_sem]
  ·refine ay (N:=8) func109 rfl rfl ?_;intro z hP hO hro hN hQ
   repeat' first|simp(disch:=try exact yj) only[go_sem, *,results109] | (first|apply dI|apply dD|apply dJ|apply dF|apply dG|apply dH|apply dK|apply dL)<;>intro _ | (first|apply ez|apply eA|apply eB|apply eC)<;>intro _ |refine aB (by cbv) (by first|rfl |cbv) ?_
   all_goals refine⟨(hW.kept (Nat.le_refl _)).set' hW qJ,.inr ⟨N+1,aA+1,rfl,by omega,by omega,?_⟩⟩
   all_goals simp(disch:=omega) only[go_sem]
def bH(en sl bu:Int):Int:=if en=1 then sl else if en=2 then 2*sl else if en=3 then 4*bu else 0
def qj:List Value→Option (AP Value)
 | [.agg ⟨[.int .i64 th,.int .i64 sl,.int .u8 en,.int .i64 bu,.int .u8 kd,.int .i64 dn,.slice a ln cp,.int .i64 t0,.int .i64 t1,.int .i64 t2,.int .i64 t3,.int .i64 t4,.int .i64 t5,.int .i64 lo,.int .i64 tr,.int .i64 ba]⟩]=>
  if 1≤en∧en≤3 ∧ -1000≤sl∧sl≤1000 ∧ -1000≤bu∧bu≤1000 then some (.pure (.int .i64 (bH en sl bu))) else none
 | _=>none
theorem Uq:bG prog 111 qj:=by
 refine ct (aV .nil) bU ?_;intro args m hm;unfold qj at hm;split at hm
 ·rename_i th sl en bu kd dn a ln cp t0 t1 t2 t3 t4 t5 lo tr ba;split at hm
  ·rename_i hc;obtain⟨c1,c2,c3,c4,c5,c6⟩:=hc;simp only[Option.some.injEq] at hm;subst hm;refine⟨fun h v=>v = .int .i64 (bH en sl bu),fun h n v s' _ e=>?_,fun h N v hlt hv=>?_⟩
   ·obtain⟨h1,rfl⟩:=run_pure e;exact⟨h1,.int _ _,rfl⟩
   ·subst hv;have LN:en=1∨en=2∨en=3:=by omega
    rcases LN with rfl|rfl|rfl
    all_goals
     refine ay (N:=17) func111 rfl rfl ?_;intro z hP hO hro hN hQ
     repeat' first|simp(disch:=try exact yj) only[go_sem, *,results111] | (first|apply dI|apply dD|apply dJ|apply dF|apply dG|apply dH|apply dK|apply dL)<;>intro _ | (first|apply ez|apply eA|apply eB|apply eC)<;>intro _ |refine aB (by cbv) (by first|rfl |cbv) ?_
     refine⟨rfl,fun i hi=>by simp(disch:=omega) only[az]⟩
  ·simp at hm
 ·simp at hm
def aC(kd dn:Int)(xs:List Int):Int:=if kd=2 then dn else if kd=3 then xs.length+1 else 1
def Ce:List Value→Option (AP Value)
 | [.agg ⟨[.int .u8 kd,.int .i64 dn,s]⟩]=>some ((eM .u64 s).bind fun xs=>cond (decide (xs.length<1000000000000000)) (.pure (.int .i64 (aC kd dn xs))) (.fail ""))
 | _=>none
theorem Zt:bG prog 162 Ce:=by
 refine ct (aV .nil) bU ?_;intro args m hm;unfold Ce at hm;split at hm
 ·rename_i kd dn s;simp only[Option.some.injEq] at hm;subst hm;refine⟨fun h v=>∃ xs,aN .u64 h s xs∧xs.length<1000000000000000∧v = .int .i64 (aC kd dn xs),fun h n v s' hR e=>?_,fun h N v hlt hv=>?_⟩
  ·obtain⟨xs,hx,e⟩:=jf hR e;obtain⟨hl,e⟩:=ec e;obtain⟨h1,rfl⟩:=run_pure e;exact⟨h1,.int _ _,xs,hx,of_decide_eq_true hl,rfl⟩
  ·obtain⟨xs,hx,hl,rfl⟩:=hv;obtain⟨a,cap,rfl,-⟩:=hx.len;refine ay (N:=15) func162 rfl rfl ?_;intro z hP hO hro hN hQ
   repeat' first|simp(disch:=try exact yj) only[go_sem, *,results162] | (first|apply dI|apply dD|apply dJ|apply dF|apply dG|apply dH|apply dK|apply dL)<;>intro _ | (first|apply ez|apply eA|apply eB|apply eC)<;>intro _ |refine aB (by cbv) (by first|rfl |cbv) ?_
   all_goals refine⟨?_,fun i hi=>by simp(disch:=omega) only[az]⟩
   all_goals simp(disch:=try exact yj) only[go_sem, *,aC,Bool.false_eq_true]
 ·simp at hm
abbrev O3:Over:=gG [(161,kE),(162,Ce)]
theorem aqt:cU prog O3:=aV (.cons AE (.cons Zt .nil))
def lG:List Value→Option (AP Value)
 | [.agg ⟨[.int .u8 kd,.int .i64 dn,s]⟩]=>some ((eM .u64 s).bind fun xs=>cond (decide (xs.length<1000000000000000)) (.pure (if cq kd dn xs then .tuple ⟨[.int .i64 (aC kd dn xs),.int .i64 0]⟩ else .tuple ⟨[.int .i64 0,.int .i64 2]⟩)) (.fail ""))
 | _=>none
theorem Ur:bG prog 78 lG:=by
 refine ct aqt bU ?_;intro args m hm;unfold lG at hm;split at hm
 ·rename_i kd dn s;simp only[Option.some.injEq] at hm;subst hm;refine⟨fun h v=>∃ xs,aN .u64 h s xs∧xs.length<1000000000000000∧v=if cq kd dn xs then .tuple ⟨[.int .i64 (aC kd dn xs),.int .i64 0]⟩ else .tuple ⟨[.int .i64 0,.int .i64 2]⟩,fun h n v s' hR e=>?_,fun h N v hlt hv=>?_⟩
  ·obtain⟨xs,hx,e⟩:=jf hR e;obtain⟨hl,e⟩:=ec e;obtain⟨h1,rfl⟩:=run_pure e;refine⟨h1,?_,xs,hx,of_decide_eq_true hl,rfl⟩;split
   ·exact .tuple _ (by simp;exact⟨.int _ _,.int _ _⟩)
   ·exact .tuple _ (by simp;exact⟨.int _ _,.int _ _⟩)
  ·obtain⟨xs,hx,hl,rfl⟩:=hv;have hrd:=fun h' hk z f d ops r K m n=>@gI _ _ h' _ _ hx z f d ops r K m n hk;obtain⟨a,cap,rfl,-⟩:=hx.len;refine ay (N:=12) func78 rfl rfl ?_;intro z hP hO hro hN hQ
   repeat' first|simp(disch:=try exact yj) only[go_sem, *,results78,kE,Ce,mK] | (first|apply dI|apply dD|apply dJ|apply dF|apply dG|apply dH|apply dK|apply dL)<;>intro _ | (first|apply ez|apply eA|apply eB|apply eC)<;>intro _ |refine aB (by cbv) (by first|rfl |cbv) ?_
   all_goals refine⟨?_,fun i hi=>by simp(disch:=omega) only[az]⟩
   all_goals (try simp only[Bool.not_eq_false] at *)
   all_goals simp(disch:=try exact yj) only[go_sem, *,dO,Bool.false_eq_true]
 ·simp at hm
end Go.Proofs.YtofmbmclopgldaaGreat
