/-
A part.
-/
import Derived.Test.YtofmbmclopgldaaGreatAmX7
import Derived.Lib.SlKeysI
import Derived.Maps.Range
set_option linter.all false
namespace Go.Am
open Go.RowKit Go.Maps
def uY:List (Value×Value×Nat)→Option (List Int)
 | []=>some []
 |e::r=>match e.1,e.2.1 with
  | .int .i64 x,.bool _=>match uY r with
   |some l=>some (x::l)
   |none=>none
  | _,_=>none
def ndN:List Nat→Bool
 | []=>true
 |x::l => !(l.any (Nat.beq x))&&ndN l
def ndI:List Int→Bool
 | []=>true
 |x::l => !(l.any fun y=>decide (x=y))&&ndI l
theorem Aq:∀ {l:List Nat},ndN l=true→l.Nodup
 | [],_=>List.nodup_nil
 |x::l,h=>by
  simp only[ndN,Bool.and_eq_true,Bool.not_eq_true',List.any_eq_false] at h
  refine List.nodup_cons.2 ⟨fun hx=>h.1 x hx (Nat.beq_refl x),Aq h.2⟩
theorem Ar:∀ {l:List Int},ndI l=true→l.Nodup
 | [],_=>List.nodup_nil
 |x::l,h=>by
  simp only[ndI,Bool.and_eq_true,Bool.not_eq_true',List.any_eq_false,decide_eq_true_eq] at h
  refine List.nodup_cons.2 ⟨fun hx=>h.1 x hx rfl,Ar h.2⟩
def G3 (x:Int):List Int→List Int
 | []=>[x]
 |y::r=>cond (decide (x≤y)) (x::y::r) (y::G3 x r)
def kQ:List Int→List Int
 | []=>[]
 |x::r=>G3 x (kQ r)
theorem ud (x:Int):∀ l:List Int,(G3 x l).Perm (x::l)
 | [] => .refl _
 |y::r=>by
  unfold G3
  cases decide (x≤y) with
  |true=>exact .refl _
  |false=>exact((ud x r).cons y).trans (.swap _ _ _)
theorem kR:∀ l:List Int,(kQ l).Perm l
 | [] => .refl _
 |x::r=>(ud x _).trans ((kR r).cons x)
theorem u5 (x:Int):∀ {l:List Int},l.Pairwise (·≤·)→(G3 x l).Pairwise (·≤·)
 | [],_=>by simp[G3]
 |y::r,h=>by
  obtain⟨h1,h2⟩:=List.pairwise_cons.1 h
  unfold G3
  cases hd:decide (x≤y) with
  |true=>
   have hd:=of_decide_eq_true hd
   refine List.pairwise_cons.2 ⟨fun z hz=>?_,h⟩
   rcases List.mem_cons.1 hz with rfl |hz
   ·exact hd
   ·exact Int.le_trans hd (h1 z hz)
  |false=>
   have hd:=of_decide_eq_false hd
   refine List.pairwise_cons.2 ⟨fun z hz=>?_,u5 x h2⟩
   rcases List.mem_cons.1 ((ud x r).mem_iff.1 hz) with rfl |hz
   ·omega
   ·exact h1 z hz
theorem nN:∀ l:List Int,(kQ l).Pairwise (·≤·)
 | []=>by simp[kQ]
 |x::r=>u5 x (nN r)
theorem Ov {l ss:List Int} (h:ss.Perm l):ss.mergeSort leI=kQ l:=by
 have tr:∀ a b c:Int,leI a b=true→leI b c=true→leI a c=true:=fun a b c h1 h2=>by simp only[leI,decide_eq_true_eq] at *;exact Int.le_trans h1 h2
 have to:∀ a b:Int,(leI a b||leI b a)=true:=fun a b=>by simp only[leI,Bool.or_eq_true,decide_eq_true_eq];exact Int.le_total a b
 refine List.Perm.eq_of_pairwise (le:=fun a b=>leI a b=true) (fun a b _ _ h1 h2=>?_) (List.pairwise_mergeSort tr to ss) ((nN l).imp fun h=>by simpa [leI] using h) ((List.mergeSort_perm ss leI).trans (h.trans (kR l).symm))
 simp only[leI,decide_eq_true_eq] at h1 h2
 exact Int.le_antisymm h1 h2
def TR (es:List (Value×Value×Nat)) (clk:Nat) (ks:List Int):Bool:=
 ks.all (fun x=>(Lit.int .i64 x).wf)&&ndI ks&&es.all (fun e=>Nat.blt e.2.2 clk)&&ndN (es.map (·.2.2))&&Nat.ble es.length 1000000
def TS (l:List Int):AP Value:=
 match l with
 | [] => .pure (.slice none 0 0)
 |l => .new (.cells (PT.ofList .leaf 0 (l.map (.int .i64))) false) fun id => .pure (.slice (some ⟨id,0,none⟩) l.length (aA+1))
def KM (a:Addr):AP Value:=
 .get a.block fun
  | .cells c _=>match c.get (a.off+4) with
   |some (.map (some r)) => .get r fun
    | .map es clk=>match uY es with
     |some ks=>cond (TR es clk ks) (TS (kQ ks)) (.fail "out")
     |none => .fail "out"
    | _ => .fail "out"
   | _ => .fail "out"
  | _ => .fail "out"
def BN:List Value→Option (AP Value)
 | [.pointer (some a)]=>some (KM a)
 | _=>none
theorem TT {Γ:bL} {k:IntKind} {x:Int} {v:Value} (h:aD Γ (.int k x) v):v = .int k x:=by cases h;rfl
theorem Ox {Γ:bL} {x:Bool} {v:Value} (h:aD Γ (.bool x) v):v = .bool x:=by cases h;rfl
theorem As {Γ:bL}:∀ {es:List (Value×Value×Nat)} {L:List MapEntry} {ks:List Int},bZ Γ es L→uY es=some ks→L.map (·.key)=ks.map (Value.int .i64)∧(∀ e∈L,∃ b,e.val = .bool b)∧L.map (·.born)=es.map (·.2.2)∧ks.length=es.length
 | _,_,ks,.nil,h=>by
  simp only[uY,Option.some.injEq] at h
  subst h;simp
 | _,_,ks,.cons p e l l' hk hv hb t,h=>by
  obtain⟨pk,pv,pb⟩:=p
  simp only[uY] at h
  split at h
  ·rename_i x b
   split at h
   ·rename_i ks' hks
    simp only[Option.some.injEq] at h
    subst h
    obtain⟨h1,h2,h3,h4⟩:=As t hks
    have ek:e.key = .int .i64 x:=TT hk
    have ev:e.val = .bool b:=Ox hv
    refine⟨by simp[h1,ek],fun y hy=>?_,by simp[h3,←hb],by simp[h4]⟩
    rcases List.mem_cons.1 hy with rfl |hy
    ·exact⟨b,ev⟩
    ·exact h2 y hy
   ·simp at h
  ·simp at h
open Go.WideElems (Fit rd rg rg_of rd_mk) in
theorem apH {P:Program} {f:FuncId} {kT bT:TypeId} (hk:P.underlying kT=some (.int .i64)) (hb:P.underlying bT=some .bool)
  (aee:∀ (pb o r n:Nat) (D0:DataW Unit) (w:World),w.cell? ⟨pb,o+4,none⟩=some (.map (some r))→pb<w.heap.size→w.ownsMap P kT (plainElem P bT) r n D0→Maps.size D0≤1000000→
   CallsIn Fence.wide 0 P f #[.pointer (some ⟨pb,o,none⟩)] w fun e w'=>∃ (v:Value) (ss:List Int),e = .returned v∧(∃ left,CollectedI D0 left ss∧∀ kl,left kl=false)∧(ss=[]→v = .slice none 0 0)∧
    w'.ownsRow w.heap.size kT 1 v ss.length ((ss.mergeSort (fun x y=>decide (x≤y))).map (Value.int .i64))∧RowKit.Below w.heap.size w w'):bG P f BN:=by
 intro args m hm Γ W w h n lim rd' wr args' v s' ha hS hr hfree
 unfold BN at hm
 split at hm
 case h_2=>simp at hm
 case h_1 a=>
 simp only[Option.some.injEq] at hm
 subst hm
 have jk:=j9 lim _ h n rd' wr v s' hr
 clear hr
 have mS:∀ i,Nat.blt i 0=false:=fun i=>rfl
 have hhp:(S0 h n).heap=h:=rfl
 unfold KM at jk
 simp only[AP.run,mS,hhp,cond_false] at jk
 cases hB:h.get a.block with
 |none=>rw[hB] at jk;simp at jk
 |some B=>
 rw[hB] at jk
 simp only at jk
 cases B with
 |map es clk=>simp[AP.run] at jk
 |iter _ _ _ _=>simp[AP.run] at jk
 |loop _ _ _ _ _ _=>simp[AP.run] at jk
 |deferred=>simp[AP.run] at jk
 |cells c ro=>
 simp only at jk
 split at jk
 case h_2=>simp[AP.run] at jk
 case h_1 r hcell=>
 simp only[AP.run,mS,hhp,cond_false] at jk
 cases hC:h.get r with
 |none=>rw[hC] at jk;simp at jk
 |some C=>
 rw[hC] at jk
 simp only at jk
 cases C with
 |cells _ _=>simp[AP.run] at jk
 |iter _ _ _ _=>simp[AP.run] at jk
 |loop _ _ _ _ _ _=>simp[AP.run] at jk
 |deferred=>simp[AP.run] at jk
 |map es clk=>
 simp only at jk
 cases hks:uY es with
 |none=>rw[hks] at jk;simp[AP.run] at jk
 |some ks=>
 rw[hks] at jk
 simp only at jk
 cases hok:TR es clk ks with
 |false=>rw[hok] at jk;simp[AP.run] at jk
 |true=>
 rw[hok] at jk
 simp only[cond_true] at jk
 simp only[TR,Bool.and_eq_true,List.all_eq_true] at hok
 obtain⟨⟨⟨⟨k1,k2⟩,k3⟩,k4⟩,k5⟩:=hok
 have k2:=Ar k2
 have k4:=Aq k4
 have k5:es.length≤1000000:=Nat.le_of_ble_eq_true k5
 cases ha with
 |cons _ _ _ _ hp ht=>
 cases ht
 cases hp with
 |ptr _ a' TU=>
 obtain⟨s,eb,hoff,Ru,_⟩:=hS.block hB TU rfl
 obtain⟨cs,el,fz,g1,g2,g3⟩:=Ru
 obtain⟨v',q1,q2⟩:=g3 _ _ hcell
 cases q2 with
 |map _ r' hr'=>
 have hcw:w.cell? ⟨a'.block,a'.off+4,none⟩=some (.map (some r')):=by
  rw[lI (a:=⟨a'.block,a'.off+4,none⟩) rfl g1,show a'.off+4=s+(a.off+4) by omega];exact q1
 obtain⟨b,s1,e1,hBM,_⟩:=hS.live _ _ hC
 rw[hr'] at e1
 simp only[Option.some.injEq,Prod.mk.injEq] at e1
 obtain⟨rfl,rfl⟩:=e1
 obtain⟨-,aZ,m1,m2⟩:=hBM
 obtain⟨f1,f2,f3,f4⟩:=As m2 hks
 have hkey:∀ e∈aZ.toList,∃ x∈ks,e.key = .int .i64 x:=by
  intro e he
  have:e.key∈aZ.toList.map (·.key):=List.mem_map.2 ⟨e,he,rfl⟩
  rw[f1] at this
  obtain⟨x,hx,L5⟩:=List.mem_map.1 this
  exact⟨x,hx,L5.symm⟩
 have aef:∀ x∈ks,∃ e∈aZ.toList,e.key = .int .i64 x:=by
  intro x hx
  have:Value.int .i64 x∈ks.map (Value.int .i64):=List.mem_map.2 ⟨x,hx,rfl⟩
  rw[←f1] at this
  obtain⟨e,he,L5⟩:=List.mem_map.1 this
  exact⟨e,he,L5⟩
 have hrd:∀ e∈aZ.toList,∃ x b,x∈ks∧e.key = .int .i64 x∧rd (H:=Unit) P kT (plainElem P bT) e=some (.int .i64 x,.lit (.bool b)):=by
  intro e he
  obtain⟨x,hx,L5⟩:=hkey e he
  obtain⟨b,hbv⟩:=f2 e he
  refine⟨x,b,hx,L5,?_⟩
  obtain⟨ek,ev,eb⟩:=e
  simp only at L5 hbv
  subst L5 hbv
  exact rd_mk (keyOf_int_mk hk (k1 x hx)) (plainElem_bool hb b)
 have hsz:aZ.size≤1000000:=by
  have:=m2.length
  simp at this;omega
 have F:Fit (H:=Unit) P kT (plainElem P bT) aZ clk:=by
  refine⟨by unfold maxLen;omega,⟨fun x hx=>?_,?_,?_⟩,fun x hx=>?_⟩
  ·have:x.born∈aZ.toList.map (·.born):=List.mem_map.2 ⟨x,hx,rfl⟩
   rw[f3] at this
   obtain⟨e,he,L5⟩:=List.mem_map.1 this
   have:=Nat.blt_eq.mp (k3 e he)
   omega
  ·rw[f3];exact k4
  ·rw[f1]
   exact List.Pairwise.map _ (fun a b h e=>h (by simpa using e)) k2
  ·obtain⟨y,b,_,_,e⟩:=hrd x hx
   exact⟨_,e⟩
 have hown:w.ownsMap P kT (plainElem P bT) r' aZ.size (.map ((aZ.toList.map (rg (H:=Unit) P kT (plainElem P bT))).foldr DataW.insert [])):=⟨aZ,clk,m1,F,Nat.le_refl _,rfl⟩
 have hsize:Maps.size (DataW.map ((aZ.toList.map (rg (H:=Unit) P kT (plainElem P bT))).foldr DataW.insert []))≤1000000:=by
  rw[size_eq,length_sorted];simpa using hsz
 have apI:∀ x,has (DataW.map ((aZ.toList.map (rg (H:=Unit) P kT (plainElem P bT))).foldr DataW.insert [])) (.int .i64 x)=true↔x∈ks:=by
  intro x
  rw[has_eq,List.any_eq_true]
  constructor
  ·rintro ⟨p,hp,hs⟩
   obtain⟨e,he,rfl⟩:=List.mem_map.1 (Go.mem_sorted.1 hp)
   obtain⟨y,b,hy,_,Ia⟩:=hrd e he
   rw[rg_of Ia] at hs
   have:=WideAt.sameKey_eq hs
   simp only[Lit.int.injEq,true_and] at this
   rw[←this];exact hy
  ·intro hx
   obtain⟨e,he,L5⟩:=aef x hx
   refine⟨_,Go.mem_sorted.2 (List.mem_map.2 ⟨e,he,rfl⟩),?_⟩
   obtain⟨y,b,hy,hye,Ia⟩:=hrd e he
   rw[rg_of Ia]
   rw[L5] at hye
   simp only[Value.int.injEq,true_and] at hye
   subst hye
   exact WideAt.sameKey_self trivial
 have ha':a'=⟨a'.block,a'.off,none⟩:=by
  have:=TU.spot'
  cases a';simp only at this;rw[this]
 have hlt:a'.block<w.heap.size:=hS.dom _ _ _ eb
 rw[ha']
 refine(aee a'.block a'.off r' aZ.size _ w hcw hlt hown hsize).mono ?_
 rintro e w' ⟨v2,ss,rfl,⟨left,⟨c1,c2⟩,hl⟩,oK,hrow,xX⟩
 have aeg:ss.Perm ks:=by
  refine(List.perm_ext_iff_of_nodup c1 k2).2 fun x=>?_
  rw[c2 x,hl,apI x];simp
 have Ft:=Ov aeg
 have hlen:(kQ ks).length=ss.length:=by rw[←Ft];simp
 have hrow:w'.ownsRow w.heap.size kT 1 v2 ss.length ((kQ ks).map (Value.int .i64)):=by rw[←Ft];exact hrow
 have hsame:∀ i,i<w.heap.size→w'.heap[i]? = w.heap[i]? := xX.block
 have ku:bK Γ W h w':=by
  refine⟨⟨xX.os.trans hS.below.os,xX.tape.trans hS.below.tape,xX.output.trans hS.below.output,Nat.le_trans hS.below.size xX.size,fun i hi=>(hsame i (Nat.lt_of_lt_of_le hi hS.below.size)).trans (hS.below.block i hi)⟩,fun a ha=>?_,fun i B hi=>?_,hS.ng,fun i b s e=>Nat.lt_of_lt_of_le (hS.dom i b s e) xX.size,fun b n e=>?_,hS.fin,hS.rows⟩
  ·rw[←hS.fz a ha]
   exact World.frozen?_of_block (hsame _ (Nat.lt_of_lt_of_le ha hS.below.size))
  ·obtain⟨b,s,e,r,hw⟩:=hS.live i B hi
   exact⟨b,s,e,r.world (hsame b (hS.dom i b s e)),hw⟩
  ·obtain⟨c,el,fz,h1,h2⟩:=hS.jo b n e
   exact⟨c,el,fz,(hsame b (dZ h1)).trans h1,h2⟩
 unfold TS at jk
 split at jk
 ·rename_i FW
  simp only[AP.run,aO.ok.injEq,S0,HS.mk.injEq] at jk
  obtain⟨rfl,h5,h6,-⟩:=jk
  have:ss=[]:=by rw[FW] at hlen;exact List.length_eq_zero_iff.1 hlen.symm
  rw[oK this]
  exact⟨Γ,_,rfl,.refl _,by rw[←h5];exact ku,fun _ _=>rfl,.nilslice _ _⟩
 ·rename_i hne
  simp only[AP.run,aO.ok.injEq] at jk
  obtain⟨rfl,hs'⟩:=jk
  have h5:h.set n (some (.cells (PT.ofList .leaf 0 ((kQ ks).map (.int .i64))) false))=s'.heap:=congrArg HS.heap hs'
  have h6:Nat.succ n=s'.next:=congrArg HS.next hs'
  rcases hrow.2 with ⟨_,hz⟩ | ⟨g,cap,cur,rfl,hbase,H_,h1,h2,h3,h4⟩
  ·exact absurd (List.length_eq_zero_iff.1 (hlen.trans hz)) (by simpa using hne)
  ·have L6:g<w'.heap.size:=dZ H_
   let Γ1:bL:=⟨Γ.blk,fun b=>if b=g then some cur.size else Γ.jo b⟩
   have KN:Γ.le Γ1:=by
    refine⟨fun i x e=>e,fun b m e=>?_⟩
    show (if b=g then some cur.size else Γ.jo b)=some m
    have:b≠g:=by
     intro e2
     subst e2
     obtain⟨c,el,fz,q,_⟩:=hS.jo _ _ e
     have:=dZ q
     omega
    rw[if_neg this];exact e
   have hS1:bK Γ1 W h w':=by
    refine⟨ku.below,ku.fz,fun i B hi=>?_,ku.ng,ku.dom,fun b m e=>?_,ku.fin,ku.rows⟩
    ·obtain⟨b,s,e,r,hw⟩:=ku.live i B hi
     exact⟨b,s,e,r.mono KN,hw⟩
    ·simp only[Γ1] at e
     split at e
     ·rename_i hbg
      simp only[Option.some.injEq] at e
      subst hbg
      exact⟨cur,kT,(0,0),H_,e⟩
     ·exact ku.jo b m e
   have hn:Γ1.blk n=none:=hfree n (Nat.le_refl _) (by omega)
   obtain⟨LU,hst,mT,vH⟩:=hS1.view hn ((kQ ks).map (Value.int .i64)) (b:=g) (s:=0) (cs:=cur) (el:=kT) H_ (Nat.le_trans hS.below.size hbase) (fun j B b' s' hj e hbg=>by
    have:b'<w.heap.size:=hS.dom _ _ _ e
    omega) (fun i v hv=>by
    have hi:i<ss.length:=by
     have:=(List.getElem?_eq_some_iff.1 hv).1
     simp at this;omega
    have h4':(cur.toList.take (ss.length*1))[i]? = ((kQ ks).map (Value.int .i64))[i]? := by rw[h4]
    rw[List.getElem?_take_of_lt (by omega),Array.getElem?_toList] at h4'
    refine⟨v,by rw[Nat.zero_add,h4',hv],?_⟩
    rw[List.getElem?_map] at hv
    cases hx:(kQ ks)[i]? with
    |none=>rw[hx] at hv;simp at hv
    |some x=>rw[hx] at hv;simp only[Option.map_some,Option.some.injEq] at hv;subst hv;exact .int _ _)
   have hle2:Γ.le LU:=KN.trans hst.le
   refine⟨LU,_,rfl,hle2,by rw[←h5];exact vH,fun i hi=>?_,?_⟩
   ·exact hst.2 i (by omega)
   ·rw[hlen]
    refine .slice _ _ _ _ _ (.inl ⟨rfl,rfl,0,mT,rfl⟩) ?_
    unfold bL.cap
    rw[if_pos (by unfold aA;omega)]
    refine⟨h1,cur.size,hst.le.jo _ _ (by simp[Γ1]),?_⟩
    show 0+cap*(aA+1-aA)≤cur.size
    rw[h3,Nat.add_sub_cancel_left];omega
end Go.Am
