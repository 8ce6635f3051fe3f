/-
  The abstract machine: a function that collects the keys of a map, in whatever order, and sorts them: what it gives is told of the map alone.
-/
import Derived.Test.YtofmbmclopgldaaGreatAmX7
import Derived.Lib.SlKeysI
import Derived.Maps.Range
set_option linter.unusedVariables false
set_option linter.unusedSimpArgs false
namespace Go.Am
open Go.RowKit Go.Maps
def qD:List (Value×Value×Nat)→Option (List Int)
 | []=>some []
 |e::r=>match e.1,e.2.1 with
  | .int .i64 x,.bool _=>match qD r with
   |some l=>some (x::l)
   |none=>none
  | _,_=>none
def Rv:List Nat→Bool
 | []=>true
 |x::l => !(l.any (Nat.beq x))&&Rv l
def Rw:List Int→Bool
 | []=>true
 |x::l => !(l.any fun y=>decide (x=y))&&Rw l
theorem uW:∀ {l:List Nat},Rv l=true→l.Nodup
 | [],_=>List.nodup_nil
 |x::l,h=>by
  simp only[Rv,Bool.and_eq_true,Bool.not_eq_true',List.any_eq_false] at h
  refine List.nodup_cons.2 ⟨fun hx=>h.1 x hx (Nat.beq_refl x),uW h.2⟩
theorem uX:∀ {l:List Int},Rw l=true→l.Nodup
 | [],_=>List.nodup_nil
 |x::l,h=>by
  simp only[Rw,Bool.and_eq_true,Bool.not_eq_true',List.any_eq_false,decide_eq_true_eq] at h
  refine List.nodup_cons.2 ⟨fun hx=>h.1 x hx rfl,uX h.2⟩
def A6 (x:Int):List Int→List Int
 | []=>[x]
 |y::r=>cond (decide (x≤y)) (x::y::r) (y::A6 x r)
def jx:List Int→List Int
 | []=>[]
 |x::r=>A6 x (jx r)
theorem pP (x:Int):∀ l:List Int,(A6 x l).Perm (x::l)
 | [] => .refl _
 |y::r=>by
  unfold A6
  cases decide (x≤y) with
  |true=>exact .refl _
  |false=>exact((pP x r).cons y).trans (.swap _ _ _)
theorem jf:∀ l:List Int,(jx l).Perm l
 | [] => .refl _
 |x::r=>(pP x _).trans ((jf r).cons x)
theorem qE (x:Int):∀ {l:List Int},l.Pairwise (·≤·)→(A6 x l).Pairwise (·≤·)
 | [],_=>by simp[A6]
 |y::r,h=>by
  obtain⟨h1,h2⟩:=List.pairwise_cons.1 h
  unfold A6
  cases hd:decide (x≤y) with
  |true=>
   have hd:=of_decide_eq_true hd
   refine List.pairwise_cons.2 ⟨fun z hz=>?_,h⟩
   rcases List.mem_cons.1 hz with rfl |hz
   ·exact hd
   ·exact Int.le_trans hd (h1 z hz)
  |false=>
   have hd:=of_decide_eq_false hd
   refine List.pairwise_cons.2 ⟨fun z hz=>?_,qE x h2⟩
   rcases List.mem_cons.1 ((pP x r).mem_iff.1 hz) with rfl |hz
   ·omega
   ·exact h1 z hz
theorem kG:∀ l:List Int,(jx l).Pairwise (·≤·)
 | []=>by simp[jx]
 |x::r=>qE x (kG r)
theorem Gs {l ss:List Int} (h:ss.Perm l):ss.mergeSort leI=jx l:=by
 have tr:∀ a b c:Int,leI a b=true→leI b c=true→leI a c=true:=fun a b c h1 h2=>by simp only[leI,decide_eq_true_eq] at *;exact Int.le_trans h1 h2
 have to:∀ a b:Int,(leI a b||leI b a)=true:=fun a b=>by simp only[leI,Bool.or_eq_true,decide_eq_true_eq];exact Int.le_total a b
 refine List.Perm.eq_of_pairwise (le:=fun a b=>leI a b=true) (fun a b _ _ h1 h2=>?_) (List.pairwise_mergeSort tr to ss) ((kG l).imp fun h=>by simpa [leI] using h) ((List.mergeSort_perm ss leI).trans (h.trans (jf l).symm))
 simp only[leI,decide_eq_true_eq] at h1 h2
 exact Int.le_antisymm h1 h2
def T7 (es:List (Value×Value×Nat)) (clk:Nat) (ks:List Int):Bool:=
 ks.all (fun x=>(Lit.int .i64 x).wf)&&Rw ks&&es.all (fun e=>Nat.blt e.2.2 clk)&&Rv (es.map (·.2.2))&&Nat.ble es.length 1000000
def OM (l:List Int):AP Value:=
 match l with
 | [] => .pure (.slice none 0 0)
 |l => .new (.cells (PT.ofList .leaf 0 (l.map (.int .i64))) false) fun id => .pure (.slice (some ⟨id,0,none⟩) l.length (aB+1))
def Kh (a:Addr):AP Value:=
 .get a.block fun
  | .cells c _=>match c.get (a.off+4) with
   |some (.map (some r)) => .get r fun
    | .map es clk=>match qD es with
     |some ks=>cond (T7 es clk ks) (OM (jx ks)) (.fail "out")
     |none => .fail "out"
    | _ => .fail "out"
   | _ => .fail "out"
  | _ => .fail "out"
def uv:List Value→Option (AP Value)
 | [.pointer (some a)]=>some (Kh a)
 | _=>none
theorem Ki {Γ:br} {k:IntKind} {x:Int} {v:Value} (h:aA Γ (.int k x) v):v = .int k x:=by cases h;rfl
theorem Gt {Γ:br} {x:Bool} {v:Value} (h:aA Γ (.bool x) v):v = .bool x:=by cases h;rfl
theorem uY {Γ:br}:∀ {es:List (Value×Value×Nat)} {L:List MapEntry} {ks:List Int},bF Γ es L→qD es=some ks→L.map (·.key)=ks.map (Value.int .i64)∧(∀ e∈L,∃ b,e.val = .bool b)∧L.map (·.born)=es.map (·.2.2)∧ks.length=es.length
 | _,_,ks,.nil,h=>by
  simp only[qD,Option.some.injEq] at h
  subst h;simp
 | _,_,ks,.cons p e l l' hk hv hb t,h=>by
  obtain⟨pk,pv,pb⟩:=p
  simp only[qD] at h
  split at h
  ·rename_i x b
   split at h
   ·rename_i ks' hks
    simp only[Option.some.injEq] at h
    subst h
    obtain⟨h1,h2,h3,h4⟩:=uY t hks
    have ek:e.key = .int .i64 x:=Ki hk
    have ev:e.val = .bool b:=Gt hv
    refine⟨by simp[h1,ek],fun y hy=>?_,by simp[h3,←hb],by simp[h4]⟩
    rcases List.mem_cons.1 hy with rfl |hy
    ·exact⟨b,ev⟩
    ·exact h2 y hy
   ·simp at h
  ·simp at h
open Go.WideElems (Fit rd rg rg_of rd_mk) in
theorem abf {P:Program} {f:FuncId} {kT bT:TypeId} (hk:P.underlying kT=some (.int .i64)) (hb:P.underlying bT=some .bool)
  (T8:∀ (pb o r n:Nat) (D0:DataW Unit) (w:World),w.cell? ⟨pb,o+4,none⟩=some (.map (some r))→pb<w.heap.size→w.ownsMap P kT (plainElem P bT) r n D0→Maps.size D0≤1000000→
   CallsIn Fence.wide 0 P f #[.pointer (some ⟨pb,o,none⟩)] w fun e w'=>∃ (v:Value) (ss:List Int),e = .returned v∧(∃ left,CollectedI D0 left ss∧∀ kl,left kl=false)∧(ss=[]→v = .slice none 0 0)∧
    w'.ownsRow w.heap.size kT 1 v ss.length ((ss.mergeSort (fun x y=>decide (x≤y))).map (Value.int .i64))∧RowKit.Below w.heap.size w w'):bf P f uv:=by
 intro args m hm Γ W w h n lim rd' wr args' v s' ha hS hr hfree
 unfold uv at hm
 split at hm
 case h_2=>simp at hm
 case h_1 a=>
 simp only[Option.some.injEq] at hm
 subst hm
 have jq:=iG lim _ h n rd' wr v s' hr
 clear hr
 have mM:∀ i,Nat.blt i 0=false:=fun i=>rfl
 have hhp:(S0 h n).heap=h:=rfl
 unfold Kh at jq
 simp only[AP.run,mM,hhp,cond_false] at jq
 cases hB:h.get a.block with
 |none=>rw[hB] at jq;simp at jq
 |some B=>
 rw[hB] at jq
 simp only at jq
 cases B with
 |map es clk=>simp[AP.run] at jq
 |iter _ _ _ _=>simp[AP.run] at jq
 |loop _ _ _ _ _ _=>simp[AP.run] at jq
 |deferred=>simp[AP.run] at jq
 |cells c ro=>
 simp only at jq
 split at jq
 case h_2=>simp[AP.run] at jq
 case h_1 r hcell=>
 simp only[AP.run,mM,hhp,cond_false] at jq
 cases hC:h.get r with
 |none=>rw[hC] at jq;simp at jq
 |some C=>
 rw[hC] at jq
 simp only at jq
 cases C with
 |cells _ _=>simp[AP.run] at jq
 |iter _ _ _ _=>simp[AP.run] at jq
 |loop _ _ _ _ _ _=>simp[AP.run] at jq
 |deferred=>simp[AP.run] at jq
 |map es clk=>
 simp only at jq
 cases hks:qD es with
 |none=>rw[hks] at jq;simp[AP.run] at jq
 |some ks=>
 rw[hks] at jq
 simp only at jq
 cases hok:T7 es clk ks with
 |false=>rw[hok] at jq;simp[AP.run] at jq
 |true=>
 rw[hok] at jq
 simp only[cond_true] at jq
 simp only[T7,Bool.and_eq_true,List.all_eq_true] at hok
 obtain⟨⟨⟨⟨k1,k2⟩,k3⟩,k4⟩,k5⟩:=hok
 have k2:=uX k2
 have k4:=uW k4
 have k5:es.length≤1000000:=Nat.le_of_ble_eq_true k5
 cases ha with
 |cons _ _ _ _ hp ht=>
 cases ht
 cases hp with
 |ptr _ a' T9=>
 obtain⟨s,eb,hoff,Il,_⟩:=hS.block hB T9 rfl
 obtain⟨cs,el,fz,g1,g2,g3⟩:=Il
 obtain⟨v',q1,q2⟩:=g3 _ _ hcell
 cases q2 with
 |map _ r' hr'=>
 have hcw:w.cell? ⟨a'.block,a'.off+4,none⟩=some (.map (some r')):=by
  rw[jC (a:=⟨a'.block,a'.off+4,none⟩) rfl g1,show a'.off+4=s+(a.off+4) by omega];exact q1
 obtain⟨b,s1,e1,hBM,_⟩:=hS.live _ _ hC
 rw[hr'] at e1
 simp only[Option.some.injEq,Prod.mk.injEq] at e1
 obtain⟨rfl,rfl⟩:=e1
 obtain⟨-,aU,m1,m2⟩:=hBM
 obtain⟨f1,f2,f3,f4⟩:=uY m2 hks
 have hkey:∀ e∈aU.toList,∃ x∈ks,e.key = .int .i64 x:=by
  intro e he
  have:e.key∈aU.toList.map (·.key):=List.mem_map.2 ⟨e,he,rfl⟩
  rw[f1] at this
  obtain⟨x,hx,IW⟩:=List.mem_map.1 this
  exact⟨x,hx,IW.symm⟩
 have T_:∀ x∈ks,∃ e∈aU.toList,e.key = .int .i64 x:=by
  intro x hx
  have:Value.int .i64 x∈ks.map (Value.int .i64):=List.mem_map.2 ⟨x,hx,rfl⟩
  rw[←f1] at this
  obtain⟨e,he,IW⟩:=List.mem_map.1 this
  exact⟨e,he,IW⟩
 have hrd:∀ e∈aU.toList,∃ x b,x∈ks∧e.key = .int .i64 x∧rd (H:=Unit) P kT (plainElem P bT) e=some (.int .i64 x,.lit (.bool b)):=by
  intro e he
  obtain⟨x,hx,IW⟩:=hkey e he
  obtain⟨b,hbv⟩:=f2 e he
  refine⟨x,b,hx,IW,?_⟩
  obtain⟨ek,ev,eb⟩:=e
  simp only at IW hbv
  subst IW hbv
  exact rd_mk (keyOf_int_mk hk (k1 x hx)) (plainElem_bool hb b)
 have hsz:aU.size≤1000000:=by
  have:=m2.length
  simp at this;omega
 have F:Fit (H:=Unit) P kT (plainElem P bT) aU clk:=by
  refine⟨by unfold maxLen;omega,⟨fun x hx=>?_,?_,?_⟩,fun x hx=>?_⟩
  ·have:x.born∈aU.toList.map (·.born):=List.mem_map.2 ⟨x,hx,rfl⟩
   rw[f3] at this
   obtain⟨e,he,IW⟩:=List.mem_map.1 this
   have:=Nat.blt_eq.mp (k3 e he)
   omega
  ·rw[f3];exact k4
  ·rw[f1]
   exact List.Pairwise.map _ (fun a b h e=>h (by simpa using e)) k2
  ·obtain⟨y,b,_,_,e⟩:=hrd x hx
   exact⟨_,e⟩
 have hown:w.ownsMap P kT (plainElem P bT) r' aU.size (.map ((aU.toList.map (rg (H:=Unit) P kT (plainElem P bT))).foldr DataW.insert [])):=⟨aU,clk,m1,F,Nat.le_refl _,rfl⟩
 have hsize:Maps.size (DataW.map ((aU.toList.map (rg (H:=Unit) P kT (plainElem P bT))).foldr DataW.insert []))≤1000000:=by
  rw[size_eq,length_sorted];simpa using hsz
 have abg:∀ x,has (DataW.map ((aU.toList.map (rg (H:=Unit) P kT (plainElem P bT))).foldr DataW.insert [])) (.int .i64 x)=true↔x∈ks:=by
  intro x
  rw[has_eq,List.any_eq_true]
  constructor
  ·rintro ⟨p,hp,hs⟩
   obtain⟨e,he,rfl⟩:=List.mem_map.1 (Go.mem_sorted.1 hp)
   obtain⟨y,b,hy,_,EF⟩:=hrd e he
   rw[rg_of EF] at hs
   have:=WideAt.sameKey_eq hs
   simp only[Lit.int.injEq,true_and] at this
   rw[←this];exact hy
  ·intro hx
   obtain⟨e,he,IW⟩:=T_ x hx
   refine⟨_,Go.mem_sorted.2 (List.mem_map.2 ⟨e,he,rfl⟩),?_⟩
   obtain⟨y,b,hy,hye,EF⟩:=hrd e he
   rw[rg_of EF]
   rw[IW] at hye
   simp only[Value.int.injEq,true_and] at hye
   subst hye
   exact WideAt.sameKey_self trivial
 have ha':a'=⟨a'.block,a'.off,none⟩:=by
  have:=T9.spot'
  cases a';simp only at this;rw[this]
 have hlt:a'.block<w.heap.size:=hS.dom _ _ _ eb
 rw[ha']
 refine(T8 a'.block a'.off r' aU.size _ w hcw hlt hown hsize).mono ?_
 rintro e w' ⟨v2,ss,rfl,⟨left,⟨c1,c2⟩,hl⟩,xI,hrow,yF⟩
 have Ua:ss.Perm ks:=by
  refine(List.perm_ext_iff_of_nodup c1 k2).2 fun x=>?_
  rw[c2 x,hl,abg x];simp
 have zH:=Gs Ua
 have hlen:(jx ks).length=ss.length:=by rw[←zH];simp
 have hrow:w'.ownsRow w.heap.size kT 1 v2 ss.length ((jx ks).map (Value.int .i64)):=by rw[←zH];exact hrow
 have hsame:∀ i,i<w.heap.size→w'.heap[i]? = w.heap[i]? := yF.block
 have iO:bh Γ W h w':=by
  refine⟨⟨yF.os.trans hS.below.os,yF.tape.trans hS.below.tape,yF.output.trans hS.below.output,Nat.le_trans hS.below.size yF.size,fun i hi=>(hsame i (Nat.lt_of_lt_of_le hi hS.below.size)).trans (hS.below.block i hi)⟩,fun a ha=>?_,fun i B hi=>?_,hS.j6,fun i b s e=>Nat.lt_of_lt_of_le (hS.dom i b s e) yF.size,fun b n e=>?_,hS.fin,hS.rows⟩
  ·rw[←hS.fz a ha]
   exact World.frozen?_of_block (hsame _ (Nat.lt_of_lt_of_le ha hS.below.size))
  ·obtain⟨b,s,e,r,hw⟩:=hS.live i B hi
   exact⟨b,s,e,r.world (hsame b (hS.dom i b s e)),hw⟩
  ·obtain⟨c,el,fz,h1,h2⟩:=hS.gG b n e
   exact⟨c,el,fz,(hsame b (cS h1)).trans h1,h2⟩
 unfold OM at jq
 split at jq
 ·rename_i z7
  simp only[AP.run,aH.ok.injEq,S0,HS.mk.injEq] at jq
  obtain⟨rfl,h5,h6,-⟩:=jq
  have:ss=[]:=by rw[z7] at hlen;exact List.length_eq_zero_iff.1 hlen.symm
  rw[xI this]
  exact⟨Γ,_,rfl,.refl _,by rw[←h5];exact iO,fun _ _=>rfl,.nilslice _ _⟩
 ·rename_i hne
  simp only[AP.run,aH.ok.injEq] at jq
  obtain⟨rfl,hs'⟩:=jq
  have h5:h.set n (some (.cells (PT.ofList .leaf 0 ((jx ks).map (.int .i64))) false))=s'.heap:=congrArg HS.heap hs'
  have h6:Nat.succ n=s'.next:=congrArg HS.next hs'
  rcases hrow.2 with ⟨_,hz⟩ | ⟨g,cap,cur,rfl,hbase,Ip,h1,h2,h3,h4⟩
  ·exact absurd (List.length_eq_zero_iff.1 (hlen.trans hz)) (by simpa using hne)
  ·have Mu:g<w'.heap.size:=cS Ip
   let Ub:br:=⟨Γ.blk,fun b=>if b=g then some cur.size else Γ.gG b⟩
   have Kj:Γ.le Ub:=by
    refine⟨fun i x e=>e,fun b m e=>?_⟩
    show (if b=g then some cur.size else Γ.gG b)=some m
    have:b≠g:=by
     intro e2
     subst e2
     obtain⟨c,el,fz,q,_⟩:=hS.gG _ _ e
     have:=cS q
     omega
    rw[if_neg this];exact e
   have hS1:bh Ub W h w':=by
    refine⟨iO.below,iO.fz,fun i B hi=>?_,iO.j6,iO.dom,fun b m e=>?_,iO.fin,iO.rows⟩
    ·obtain⟨b,s,e,r,hw⟩:=iO.live i B hi
     exact⟨b,s,e,r.mono Kj,hw⟩
    ·simp only[Ub] at e
     split at e
     ·rename_i hbg
      simp only[Option.some.injEq] at e
      subst hbg
      exact⟨cur,kT,(0,0),Ip,e⟩
     ·exact iO.gG b m e
   have hn:Ub.blk n=none:=hfree n (Nat.le_refl _) (by omega)
   obtain⟨Ej,hst,uC,hS2⟩:=hS1.view hn ((jx ks).map (Value.int .i64)) (b:=g) (s:=0) (cs:=cur) (el:=kT) Ip (Nat.le_trans hS.below.size hbase) (fun j B b' s' hj e hbg=>by
    have:b'<w.heap.size:=hS.dom _ _ _ e
    omega) (fun i v hv=>by
    have hi:i<ss.length:=by
     have:=(List.getElem?_eq_some_iff.1 hv).1
     simp at this;omega
    have h4':(cur.toList.take (ss.length*1))[i]? = ((jx ks).map (Value.int .i64))[i]? := by rw[h4]
    rw[List.getElem?_take_of_lt (by omega),Array.getElem?_toList] at h4'
    refine⟨v,by rw[Nat.zero_add,h4',hv],?_⟩
    rw[List.getElem?_map] at hv
    cases hx:(jx ks)[i]? with
    |none=>rw[hx] at hv;simp at hv
    |some x=>rw[hx] at hv;simp only[Option.map_some,Option.some.injEq] at hv;subst hv;exact .int _ _)
   have hle2:Γ.le Ej:=Kj.trans hst.le
   refine⟨Ej,_,rfl,hle2,by rw[←h5];exact hS2,fun i hi=>?_,?_⟩
   ·exact hst.2 i (by omega)
   ·rw[hlen]
    refine .slice _ _ _ _ _ (.inl ⟨rfl,rfl,0,uC,rfl⟩) ?_
    unfold br.cap
    rw[if_pos (by unfold aB;omega)]
    refine⟨h1,cur.size,hst.le.gG _ _ (by simp[Ub]),?_⟩
    show 0+cap*(aB+1-aB)≤cur.size
    rw[h3,Nat.add_sub_cancel_left];omega
end Go.Am
