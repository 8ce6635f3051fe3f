/-
  A part of the proof: contracts of inner functions.
-/
import Derived.Test.YtofmbmclopgldaaGreatPT
import Derived.Test.YtofmbmclopgldaaGreatAmY4
set_option linter.unusedVariables false
set_option linter.unusedSimpArgs false
namespace Go.Proofs.YtofmbmclopgldaaGreat
open Go.Am
noncomputable def pW:List Value→Option (AP Value)
 | [.int .u8 k,.int .i64 many,.int .i64 words,.pointer (some ⟨ab,0,none⟩),.pointer (some ⟨cb,0,none⟩)]=>some <|
  AP.row ab fun (A:List Value) aro=>AP.row cb fun (C:List Value) _=>match A,C with
  | [.int .i64 at_],[.pointer (some ⟨lb,0,none⟩)]=>AP.row lb fun (S:List Value) ro=>
   let fin (g len:Nat):AP Value := .setRow lb (S.set 26 (.slice (some ⟨g,0,none⟩) (len+1) (aB+4))) (.setRow ab [.int .i64 (IntKind.i64.wrap (at_+IntKind.i64.wrap (many*words)))] (.pure (.int .i64 at_)))
   cond (!aro && !ro&&Nat.ble 27 S.length) (match (S[26]? : Option Value) with
   |some (.slice none 0 0) => .newRow [.int .u8 k,.int .i64 at_,.int .i64 many,.int .i64 words] fun g=>fin g 0
   |some (.slice (some ⟨g0,0,none⟩) len cap)=>AP.row g0 fun (G:List Value) gro=>
    cond (!gro&&Nat.beq cap (aB+4)&&Nat.ble len 100&&Nat.blt 0 len&&Nat.beq G.length (len*4) && !Nat.beq g0 ab && !Nat.beq g0 cb && !Nat.beq g0 lb)
     (.kill g0 (.newRow (G++[.int .u8 k,.int .i64 at_,.int .i64 many,.int .i64 words]) fun g=>fin g len)) (.fail "")
   | _ => .fail "") (.fail "")
  | _,_ => .fail ""
 | _=>none
theorem bA:Tryz.prog.follows .mixedOrders=true:=by kernel_rfl
set_option maxRecDepth 100000 in
set_option maxHeartbeats 4000000 in
theorem O_:bf Tryz.prog 110 pW:=by
 refine sN (aN .nil) bA ?_
 intro args m hm h n N Old dB v h1 n1 hr hold hid hN
 unfold pW at hm
 split at hm
 ·rename_i k many words ab cb
  simp only[Option.some.injEq] at hm
  subst hm
  replace hr:=kE hr
  obtain⟨A,aro,hA,hr⟩:=hr
  replace hr:=kE hr
  obtain⟨C,cro,hC,hr⟩:=hr
  split at hr
  ·rename_i at_ lb
   replace hr:=kE hr
   obtain⟨S,ro,hS,hr⟩:=hr
   replace hr:=cU hr
   obtain⟨hc,hr⟩:=hr
   simp only[Bool.and_eq_true,Bool.not_eq_true'] at hc
   obtain⟨⟨rfl,rfl⟩,hlen⟩:=hc
   have hlen:=Nat.le_of_ble_eq_true hlen
   have hlt:∀ i B,h.get i=some B→i<N∧ ¬(n≤i∧i<n1):=fun i B e=>hid i (hold.id i B e)
   have ha:=hlt _ _ hA
   have hcb:=hlt _ _ hC
   have hlb:=hlt _ _ hS
   have n1':ab≠cb:=fun e=>by
    rw[e,hC] at hA
    have:=ofList_inj (ak.cells.inj (Option.some.inj hA)).1
    simp at this
   have vf:ab≠lb:=fun e=>by
    rw[e,hS] at hA
    have:=ofList_inj (ak.cells.inj (Option.some.inj hA)).1
    rw[this] at hlen;simp at hlen
   have n3':cb≠lb:=fun e=>by
    rw[e,hS] at hC
    have:=ofList_inj (ak.cells.inj (Option.some.inj hC)).1
    rw[this] at hlen;simp at hlen
   split at hr
   ·rename_i h26
    replace hr:=run_set (run_set (oL hr))
    obtain⟨hs,rfl⟩:=run_pure hr
    clear hr
    have e1:h1=_:=congrArg HS.heap hs
    have e2:n1=_:=congrArg HS.next hs
    simp only[S0] at e1 e2
    subst e1 e2
    clear hs
    refine ay (N:=31) Tryz.func110 rfl rfl ?_
    intro z hP hO hro hNz hQ
    repeat' first |simp(maxSteps:=2000000) (disch:=omega) only[go_sem, *,Tryz.results110] | (first |apply fZ |apply fV |apply f_ |apply fW |apply fX |apply fY |apply ga |apply gd)<;>intro _ | (first |apply iz |apply iA |apply iB |apply iC)<;>intro _ |refine aK (by cbv) (by first |rfl |cbv) ?_
    refine⟨fun _=>N+1,fun i _ _=>Nat.le_succ N,fun i j q1 q2 q3 q4 _=>by omega,.int _ _,fun i B e=>?_⟩
    have Pa:bQ (BV dB n (n+1) fun _=>N+1) Old S S:=bQ.refl _ fun u hu=>by
     obtain⟨j,hj⟩:=List.mem_iff_getElem?.1 hu
     exact .old _ (hold.cells lb _ _ j u hS (by rw[PT.aI];exact hj))
    have hnew:BV dB n (n+1) (fun _=>N+1) n (N+1) := .inr ⟨Nat.le_refl _,Nat.lt_succ_self _,rfl⟩
    rw[PT.aZ] at e
    split at e
    ·rename_i hi;subst hi
     obtain rfl:=Option.some.inj e
     refine .inr ⟨_,?_,.cells _ _ _ (.cons _ _ _ _ (.int _ _) .nil)⟩
     rw[pN (by omega)]
     simp(disch:=omega) only[go_sem]
    ·rw[PT.aZ] at e
     split at e
     ·rename_i hi;subst hi
      obtain rfl:=Option.some.inj e
      refine .inr ⟨_,?_,.cells _ _ _ (Pa.set 26 (.slice n 0 1 (aB+4) (N+1) hnew))⟩
      rw[pN (by omega)]
      simp(disch:=omega) only[go_sem]
     ·rw[PT.aZ] at e
      split at e
      ·rename_i hi;subst hi
       obtain rfl:=Option.some.inj e
       refine .inr ⟨_,?_,.cells _ _ _ (.cons _ _ _ _ (.int _ _) (.cons _ _ _ _ (.int _ _) (.cons _ _ _ _ (.int _ _) (.cons _ _ _ _ (.int _ _) .nil))))⟩
       rw[sV (by omega)]
       simp(disch:=omega) only[go_sem]
      ·have:=(hlt i B e).1
       refine .inl ⟨e,?_⟩
       simp(disch:=omega) only[go_sem,e]
   ·rename_i g0 len cap h26
    replace hr:=kE hr
    obtain⟨G,gro,hG,hr⟩:=hr
    replace hr:=cU hr
    obtain⟨hc,hr⟩:=hr
    simp only[Bool.and_eq_true,Bool.not_eq_true'] at hc
    obtain⟨⟨⟨⟨⟨⟨⟨rfl,hcap⟩,hl1⟩,Vy⟩,zK⟩,d1⟩,d2⟩,d3⟩:=hc
    obtain rfl:=Nat.eq_of_beq_eq_true hcap
    have hl1:=Nat.le_of_ble_eq_true hl1
    have Vy:=Nat.le_of_ble_eq_true Vy
    have zK:=Nat.eq_of_beq_eq_true zK
    have d1:g0≠ab:=fun e=>by rw[e,oJ] at d1;simp at d1
    have d2:g0≠cb:=fun e=>by rw[e,oJ] at d2;simp at d2
    have d3:g0≠lb:=fun e=>by rw[e,oJ] at d3;simp at d3
    replace hr:=run_set (run_set (oL (yB hr)))
    obtain⟨hs,rfl⟩:=run_pure hr
    clear hr
    have e1:h1=_:=congrArg HS.heap hs
    have e2:n1=_:=congrArg HS.next hs
    simp only[S0] at e1 e2
    subst e1 e2
    clear hs
    have hg:=hlt _ _ hG
    have hGt:List.take (len*4) G=G:=List.take_of_length_le (by omega)
    refine ay (N:=31) Tryz.func110 rfl rfl ?_
    intro z hP hO hro hNz hQ
    repeat' first |simp(maxSteps:=2000000) (disch:=omega) only[go_sem, *,Tryz.results110] | (first |apply fZ |apply fV |apply f_ |apply fW |apply fX |apply fY |apply ga |apply gd)<;>intro _ | (first |apply iz |apply iA |apply iB |apply iC)<;>intro _ |refine aK (by cbv) (by first |rfl |cbv) ?_
    refine⟨fun _=>N+1,fun i _ _=>Nat.le_succ N,fun i j q1 q2 q3 q4 _=>by omega,.int _ _,fun i B e=>?_⟩
    have Pa:bQ (BV dB n (n+1) fun _=>N+1) Old S S:=bQ.refl _ fun u hu=>by
     obtain⟨j,hj⟩:=List.mem_iff_getElem?.1 hu
     exact .old _ (hold.cells lb _ _ j u hS (by rw[PT.aI];exact hj))
    have hGr:bQ (BV dB n (n+1) fun _=>N+1) Old G G:=bQ.refl _ fun u hu=>by
     obtain⟨j,hj⟩:=List.mem_iff_getElem?.1 hu
     exact .old _ (hold.cells g0 _ _ j u hG (by rw[PT.aI];exact hj))
    have hnew:BV dB n (n+1) (fun _=>N+1) n (N+1) := .inr ⟨Nat.le_refl _,Nat.lt_succ_self _,rfl⟩
    rw[PT.aZ] at e
    split at e
    ·rename_i hi;subst hi
     obtain rfl:=Option.some.inj e
     refine .inr ⟨_,?_,.cells _ _ _ (.cons _ _ _ _ (.int _ _) .nil)⟩
     rw[pN (by omega)]
     simp(disch:=omega) only[go_sem]
    ·rw[PT.aZ] at e
     split at e
     ·rename_i hi;subst hi
      obtain rfl:=Option.some.inj e
      refine .inr ⟨_,?_,.cells _ _ _ (Pa.set 26 (.slice n 0 (len+1) (aB+4) (N+1) hnew))⟩
      rw[pN (by omega)]
      simp(disch:=omega) only[go_sem]
     ·rw[PT.aZ] at e
      split at e
      ·rename_i hi;subst hi
       obtain rfl:=Option.some.inj e
       refine .inr ⟨_,?_,.cells _ _ _ (hGr.append (.cons _ _ _ _ (.int _ _) (.cons _ _ _ _ (.int _ _) (.cons _ _ _ _ (.int _ _) (.cons _ _ _ _ (.int _ _) .nil)))))⟩
       rw[sV (by omega)]
       simp(disch:=omega) only[go_sem]
      ·rw[PT.aZ] at e
       split at e
       ·simp at e
       rename_i hg0
       have:=(hlt i B e).1
       refine .inl ⟨e,?_⟩
       simp(disch:=omega) only[go_sem,e]
   ·exact(sW hr).elim
  ·exact(sW hr).elim
 ·simp at hm
end Go.Proofs.YtofmbmclopgldaaGreat
