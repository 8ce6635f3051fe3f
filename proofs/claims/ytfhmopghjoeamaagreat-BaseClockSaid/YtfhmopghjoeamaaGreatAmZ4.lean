/-
  The abstract machine: a function that collects the keys of a map, in whatever order, and sorts them: what it gives is told of the map alone.
-/
import Derived.Test.YtfhmopghjoeamaaGreatAmX7
import Derived.Lib.SlKeysI
import Derived.Maps.Range
set_option linter.unusedVariables false
set_option linter.unusedSimpArgs false
namespace Go.Am
open Go.RowKit Go.Maps
def p_:List (Value×Value×Nat)→Option (List Int)
 | []=>some []
 |e::r=>match e.1,e.2.1 with
  | .int .i64 x,.bool _=>match p_ r with
   |some l=>some (x::l)
   |none=>none
  | _,_=>none
def Lu:List Nat→Bool
 | []=>true
 |x::l => !(l.any (Nat.beq x))&&Lu l
def Lv:List Int→Bool
 | []=>true
 |x::l => !(l.any fun y=>decide (x=y))&&Lv l
theorem qa:∀ {l:List Nat},Lu l=true→l.Nodup
 | [],_=>List.nodup_nil
 |x::l,h=>by
  simp only[Lu,Bool.and_eq_true,Bool.not_eq_true',List.any_eq_false] at h
  refine List.nodup_cons.2 ⟨fun hx=>h.1 x hx (Nat.beq_refl x),qa h.2⟩
theorem qb:∀ {l:List Int},Lv l=true→l.Nodup
 | [],_=>List.nodup_nil
 |x::l,h=>by
  simp only[Lv,Bool.and_eq_true,Bool.not_eq_true',List.any_eq_false,decide_eq_true_eq] at h
  refine List.nodup_cons.2 ⟨fun hx=>h.1 x hx rfl,qb h.2⟩
def vu (x:Int):List Int→List Int
 | []=>[x]
 |y::r=>cond (decide (x≤y)) (x::y::r) (y::vu x r)
def iU:List Int→List Int
 | []=>[]
 |x::r=>vu x (iU r)
theorem lT (x:Int):∀ l:List Int,(vu x l).Perm (x::l)
 | [] => .refl _
 |y::r=>by
  unfold vu
  cases decide (x≤y) with
  |true=>exact .refl _
  |false=>exact((lT x r).cons y).trans (.swap _ _ _)
theorem oQ:∀ l:List Int,(iU l).Perm l
 | [] => .refl _
 |x::r=>(lT x _).trans ((oQ r).cons x)
theorem mL (x:Int):∀ {l:List Int},l.Pairwise (·≤·)→(vu x l).Pairwise (·≤·)
 | [],_=>by simp[vu]
 |y::r,h=>by
  obtain⟨h1,h2⟩:=List.pairwise_cons.1 h
  unfold vu
  cases hd:decide (x≤y) with
  |true=>
   have hd:=of_decide_eq_true hd
   refine List.pairwise_cons.2 ⟨fun z hz=>?_,h⟩
   rcases List.mem_cons.1 hz with rfl |hz
   ·exact hd
   ·exact Int.le_trans hd (h1 z hz)
  |false=>
   have hd:=of_decide_eq_false hd
   refine List.pairwise_cons.2 ⟨fun z hz=>?_,mL x h2⟩
   rcases List.mem_cons.1 ((lT x r).mem_iff.1 hz) with rfl |hz
   ·omega
   ·exact h1 z hz
theorem k8:∀ l:List Int,(iU l).Pairwise (·≤·)
 | []=>by simp[iU]
 |x::r=>mL x (k8 r)
theorem Az {l ss:List Int} (h:ss.Perm l):ss.mergeSort leI=iU l:=by
 have tr:∀ a b c:Int,leI a b=true→leI b c=true→leI a c=true:=fun a b c h1 h2=>by simp only[leI,decide_eq_true_eq] at *;exact Int.le_trans h1 h2
 have to:∀ a b:Int,(leI a b||leI b a)=true:=fun a b=>by simp only[leI,Bool.or_eq_true,decide_eq_true_eq];exact Int.le_total a b
 refine List.Perm.eq_of_pairwise (le:=fun a b=>leI a b=true) (fun a b _ _ h1 h2=>?_) (List.pairwise_mergeSort tr to ss) ((k8 l).imp fun h=>by simpa [leI] using h) ((List.mergeSort_perm ss leI).trans (h.trans (oQ l).symm))
 simp only[leI,decide_eq_true_eq] at h1 h2
 exact Int.le_antisymm h1 h2
def OP (es:List (Value×Value×Nat)) (clk:Nat) (ks:List Int):Bool:=
 ks.all (fun x=>(Lit.int .i64 x).wf)&&Lv ks&&es.all (fun e=>Nat.blt e.2.2 clk)&&Lu (es.map (·.2.2))&&Nat.ble es.length 1000000
def JU (l:List Int):AP Value:=
 match l with
 | [] => .pure (.slice none 0 0)
 |l => .new (.cells (PT.ofList .leaf 0 (l.map (.int .i64))) false) fun id => .pure (.slice (some ⟨id,0,none⟩) l.length (az+1))
def JV (a:Addr):AP Value:=
 .get a.block fun
  | .cells c _=>match c.get (a.off+4) with
   |some (.map (some r)) => .get r fun
    | .map es clk=>match p_ es with
     |some ks=>cond (OP es clk ks) (JU (iU ks)) (.fail "out")
     |none => .fail "out"
    | _ => .fail "out"
   | _ => .fail "out"
  | _ => .fail "out"
def xS:List Value→Option (AP Value)
 | [.pointer (some a)]=>some (JV a)
 | _=>none
theorem CQ {Γ:aT} {k:IntKind} {x:Int} {v:Value} (h:ay Γ (.int k x) v):v = .int k x:=by cases h;rfl
theorem AA {Γ:aT} {x:Bool} {v:Value} (h:ay Γ (.bool x) v):v = .bool x:=by cases h;rfl
theorem qc {Γ:aT}:∀ {es:List (Value×Value×Nat)} {L:List MapEntry} {ks:List Int},bq Γ es L→p_ es=some ks→L.map (·.key)=ks.map (Value.int .i64)∧(∀ e∈L,∃ b,e.val = .bool b)∧L.map (·.born)=es.map (·.2.2)∧ks.length=es.length
 | _,_,ks,.nil,h=>by
  simp only[p_,Option.some.injEq] at h
  subst h;simp
 | _,_,ks,.cons p e l l' hk hv hb t,h=>by
  obtain⟨pk,pv,pb⟩:=p
  simp only[p_] at h
  split at h
  ·rename_i x b
   split at h
   ·rename_i ks' hks
    simp only[Option.some.injEq] at h
    subst h
    obtain⟨h1,h2,h3,h4⟩:=qc t hks
    have ek:e.key = .int .i64 x:=CQ hk
    have ev:e.val = .bool b:=AA hv
    refine⟨by simp[h1,ek],fun y hy=>?_,by simp[h3,←hb],by simp[h4]⟩
    rcases List.mem_cons.1 hy with rfl |hy
    ·exact⟨b,ev⟩
    ·exact h2 y hy
   ·simp at h
  ·simp at h
open Go.WideElems (Fit rd rg rg_of rd_mk) in
theorem OQ {P:Program} {f:FuncId} {kT bT:TypeId} (hk:P.underlying kT=some (.int .i64)) (hb:P.underlying bT=some .bool)
  (JW:∀ (pb o r n:Nat) (D0:DataW Unit) (w:World),w.cell? ⟨pb,o+4,none⟩=some (.map (some r))→pb<w.heap.size→w.ownsMap P kT (plainElem P bT) r n D0→Maps.size D0≤1000000→
   CallsIn Fence.wide 0 P f #[.pointer (some ⟨pb,o,none⟩)] w fun e w'=>∃ (v:Value) (ss:List Int),e = .returned v∧(∃ left,CollectedI D0 left ss∧∀ kl,left kl=false)∧(ss=[]→v = .slice none 0 0)∧
    w'.ownsRow w.heap.size kT 1 v ss.length ((ss.mergeSort (fun x y=>decide (x≤y))).map (Value.int .i64))∧RowKit.Below w.heap.size w w'):bL P f xS:=by
 intro args m hm Γ W w h n lim rd' wr args' v s' ha hS hr hfree
 unfold xS at hm
 split at hm
 case h_2=>simp at hm
 case h_1 a=>
 simp only[Option.some.injEq] at hm
 subst hm
 have gA:=fF lim _ h n rd' wr v s' hr
 clear hr
 have jK:∀ i,Nat.blt i 0=false:=fun i=>rfl
 have R7:(S0 h n).heap=h:=rfl
 unfold JV at gA
 simp only[AP.run,jK,R7,cond_false] at gA
 cases hB:h.get a.block with
 |none=>rw[hB] at gA;simp at gA
 |some B=>
 rw[hB] at gA
 simp only at gA
 cases B with
 |map es clk=>simp[AP.run] at gA
 |iter _ _ _ _=>simp[AP.run] at gA
 |loop _ _ _ _ _ _=>simp[AP.run] at gA
 |deferred=>simp[AP.run] at gA
 |cells c ro=>
 simp only at gA
 split at gA
 case h_2=>simp[AP.run] at gA
 case h_1 r hcell=>
 simp only[AP.run,jK,R7,cond_false] at gA
 cases hC:h.get r with
 |none=>rw[hC] at gA;simp at gA
 |some C=>
 rw[hC] at gA
 simp only at gA
 cases C with
 |cells _ _=>simp[AP.run] at gA
 |iter _ _ _ _=>simp[AP.run] at gA
 |loop _ _ _ _ _ _=>simp[AP.run] at gA
 |deferred=>simp[AP.run] at gA
 |map es clk=>
 simp only at gA
 cases hks:p_ es with
 |none=>rw[hks] at gA;simp[AP.run] at gA
 |some ks=>
 rw[hks] at gA
 simp only at gA
 cases hok:OP es clk ks with
 |false=>rw[hok] at gA;simp[AP.run] at gA
 |true=>
 rw[hok] at gA
 simp only[cond_true] at gA
 simp only[OP,Bool.and_eq_true,List.all_eq_true] at hok
 obtain⟨⟨⟨⟨k1,k2⟩,k3⟩,k4⟩,k5⟩:=hok
 have k2:=qb k2
 have k4:=qa k4
 have k5:es.length≤1000000:=Nat.le_of_ble_eq_true k5
 cases ha with
 |cons _ _ _ _ hp ht=>
 cases ht
 cases hp with
 |ptr _ a' JX=>
 obtain⟨s,eb,hoff,A4,_⟩:=hS.block hB JX rfl
 obtain⟨cs,el,fz,g1,g2,g3⟩:=A4
 obtain⟨v',q1,q2⟩:=g3 _ _ hcell
 cases q2 with
 |map _ r' hr'=>
 have Ws:w.cell? ⟨a'.block,a'.off+4,none⟩=some (.map (some r')):=by
  rw[gL (a:=⟨a'.block,a'.off+4,none⟩) rfl g1,show a'.off+4=s+(a.off+4) by omega];exact q1
 obtain⟨b,s1,e1,Wt,_⟩:=hS.live _ _ hC
 rw[hr'] at e1
 simp only[Option.some.injEq,Prod.mk.injEq] at e1
 obtain⟨rfl,rfl⟩:=e1
 obtain⟨-,aJ,m1,m2⟩:=Wt
 obtain⟨f1,f2,f3,f4⟩:=qc m2 hks
 have hkey:∀ e∈aJ.toList,∃ x∈ks,e.key = .int .i64 x:=by
  intro e he
  have:e.key∈aJ.toList.map (·.key):=List.mem_map.2 ⟨e,he,rfl⟩
  rw[f1] at this
  obtain⟨x,hx,Bs⟩:=List.mem_map.1 this
  exact⟨x,hx,Bs.symm⟩
 have JY:∀ x∈ks,∃ e∈aJ.toList,e.key = .int .i64 x:=by
  intro x hx
  have:Value.int .i64 x∈ks.map (Value.int .i64):=List.mem_map.2 ⟨x,hx,rfl⟩
  rw[←f1] at this
  obtain⟨e,he,Bs⟩:=List.mem_map.1 this
  exact⟨e,he,Bs⟩
 have hrd:∀ e∈aJ.toList,∃ x b,x∈ks∧e.key = .int .i64 x∧rd (H:=Unit) P kT (plainElem P bT) e=some (.int .i64 x,.lit (.bool b)):=by
  intro e he
  obtain⟨x,hx,Bs⟩:=hkey e he
  obtain⟨b,R8⟩:=f2 e he
  refine⟨x,b,hx,Bs,?_⟩
  obtain⟨ek,ev,eb⟩:=e
  simp only at Bs R8
  subst Bs R8
  exact rd_mk (keyOf_int_mk hk (k1 x hx)) (plainElem_bool hb b)
 have hsz:aJ.size≤1000000:=by
  have:=m2.length
  simp at this;omega
 have F:Fit (H:=Unit) P kT (plainElem P bT) aJ clk:=by
  refine⟨by unfold maxLen;omega,⟨fun x hx=>?_,?_,?_⟩,fun x hx=>?_⟩
  ·have:x.born∈aJ.toList.map (·.born):=List.mem_map.2 ⟨x,hx,rfl⟩
   rw[f3] at this
   obtain⟨e,he,Bs⟩:=List.mem_map.1 this
   have:=Nat.blt_eq.mp (k3 e he)
   omega
  ·rw[f3];exact k4
  ·rw[f1]
   exact List.Pairwise.map _ (fun a b h e=>h (by simpa using e)) k2
  ·obtain⟨y,b,_,_,e⟩:=hrd x hx
   exact⟨_,e⟩
 have hown:w.ownsMap P kT (plainElem P bT) r' aJ.size (.map ((aJ.toList.map (rg (H:=Unit) P kT (plainElem P bT))).foldr DataW.insert [])):=⟨aJ,clk,m1,F,Nat.le_refl _,rfl⟩
 have hsize:Maps.size (DataW.map ((aJ.toList.map (rg (H:=Unit) P kT (plainElem P bT))).foldr DataW.insert []))≤1000000:=by
  rw[size_eq,length_sorted];simpa using hsz
 have OS:∀ x,has (DataW.map ((aJ.toList.map (rg (H:=Unit) P kT (plainElem P bT))).foldr DataW.insert [])) (.int .i64 x)=true↔x∈ks:=by
  intro x
  rw[has_eq,List.any_eq_true]
  constructor
  ·rintro ⟨p,hp,hs⟩
   obtain⟨e,he,rfl⟩:=List.mem_map.1 (Go.mem_sorted.1 hp)
   obtain⟨y,b,hy,_,yD⟩:=hrd e he
   rw[rg_of yD] at hs
   have:=WideAt.sameKey_eq hs
   simp only[Lit.int.injEq,true_and] at this
   rw[←this];exact hy
  ·intro hx
   obtain⟨e,he,Bs⟩:=JY x hx
   refine⟨_,Go.mem_sorted.2 (List.mem_map.2 ⟨e,he,rfl⟩),?_⟩
   obtain⟨y,b,hy,OT,yD⟩:=hrd e he
   rw[rg_of yD]
   rw[Bs] at OT
   simp only[Value.int.injEq,true_and] at OT
   subst OT
   exact WideAt.sameKey_self trivial
 have ha':a'=⟨a'.block,a'.off,none⟩:=by
  have:=JX.spot'
  cases a';simp only at this;rw[this]
 have hlt:a'.block<w.heap.size:=hS.dom _ _ _ eb
 rw[ha']
 refine(JW a'.block a'.off r' aJ.size _ w Ws hlt hown hsize).mono ?_
 rintro e w' ⟨v2,ss,rfl,⟨left,⟨c1,c2⟩,hl⟩,yI,hrow,tj⟩
 have JZ:ss.Perm ks:=by
  refine(List.perm_ext_iff_of_nodup c1 k2).2 fun x=>?_
  rw[c2 x,hl,OS x];simp
 have tU:=Az JZ
 have hlen:(iU ks).length=ss.length:=by rw[←tU];simp
 have hrow:w'.ownsRow w.heap.size kT 1 v2 ss.length ((iU ks).map (Value.int .i64)):=by rw[←tU];exact hrow
 have hsame:∀ i,i<w.heap.size→w'.heap[i]? = w.heap[i]? := tj.block
 have fJ:aQ Γ W h w':=by
  refine⟨⟨tj.os.trans hS.below.os,tj.tape.trans hS.below.tape,tj.output.trans hS.below.output,Nat.le_trans hS.below.size tj.size,fun i hi=>(hsame i (Nat.lt_of_lt_of_le hi hS.below.size)).trans (hS.below.block i hi)⟩,fun a ha=>?_,fun i B hi=>?_,hS.iC,fun i b s e=>Nat.lt_of_lt_of_le (hS.dom i b s e) tj.size,fun b n e=>?_,hS.fin,hS.rows⟩
  ·rw[←hS.fz a ha]
   exact World.frozen?_of_block (hsame _ (Nat.lt_of_lt_of_le ha hS.below.size))
  ·obtain⟨b,s,e,r,hw⟩:=hS.live i B hi
   exact⟨b,s,e,r.world (hsame b (hS.dom i b s e)),hw⟩
  ·obtain⟨c,el,fz,h1,h2⟩:=hS.eu b n e
   exact⟨c,el,fz,(hsame b (bU h1)).trans h1,h2⟩
 unfold JU at gA
 split at gA
 ·rename_i uv
  simp only[AP.run,aS.ok.injEq,S0,HS.mk.injEq] at gA
  obtain⟨rfl,h5,h6,-⟩:=gA
  have:ss=[]:=by rw[uv] at hlen;exact List.length_eq_zero_iff.1 hlen.symm
  rw[yI this]
  exact⟨Γ,_,rfl,.refl _,by rw[←h5];exact fJ,fun _ _=>rfl,.nilslice _ _⟩
 ·rename_i hne
  simp only[AP.run,aS.ok.injEq] at gA
  obtain⟨rfl,hs'⟩:=gA
  have h5:h.set n (some (.cells (PT.ofList .leaf 0 ((iU ks).map (.int .i64))) false))=s'.heap:=congrArg HS.heap hs'
  have h6:Nat.succ n=s'.next:=congrArg HS.next hs'
  rcases hrow.2 with ⟨_,hz⟩ | ⟨g,cap,cur,rfl,hbase,A7,h1,h2,h3,h4⟩
  ·exact absurd (List.length_eq_zero_iff.1 (hlen.trans hz)) (by simpa using hne)
  ·have R9:g<w'.heap.size:=bU A7
   let J0:aT:=⟨Γ.blk,fun b=>if b=g then some cur.size else Γ.eu b⟩
   have J1:Γ.le J0:=by
    refine⟨fun i x e=>e,fun b m e=>?_⟩
    show (if b=g then some cur.size else Γ.eu b)=some m
    have:b≠g:=by
     intro e2
     subst e2
     obtain⟨c,el,fz,q,_⟩:=hS.eu _ _ e
     have:=bU q
     omega
    rw[if_neg this];exact e
   have Wu:aQ J0 W h w':=by
    refine⟨fJ.below,fJ.fz,fun i B hi=>?_,fJ.iC,fJ.dom,fun b m e=>?_,fJ.fin,fJ.rows⟩
    ·obtain⟨b,s,e,r,hw⟩:=fJ.live i B hi
     exact⟨b,s,e,r.mono J1,hw⟩
    ·simp only[J0] at e
     split at e
     ·rename_i R_
      simp only[Option.some.injEq] at e
      subst R_
      exact⟨cur,kT,(0,0),A7,e⟩
     ·exact fJ.eu b m e
   have hn:J0.blk n=none:=hfree n (Nat.le_refl _) (by omega)
   obtain⟨ya,hst,qq,Wv⟩:=Wu.view hn ((iU ks).map (Value.int .i64)) (b:=g) (s:=0) (cs:=cur) (el:=kT) A7 (Nat.le_trans hS.below.size hbase) (fun j B b' s' hj e R_=>by
    have:b'<w.heap.size:=hS.dom _ _ _ e
    omega) (fun i v hv=>by
    have hi:i<ss.length:=by
     have:=(List.getElem?_eq_some_iff.1 hv).1
     simp at this;omega
    have h4':(cur.toList.take (ss.length*1))[i]? = ((iU ks).map (Value.int .i64))[i]? := by rw[h4]
    rw[List.getElem?_take_of_lt (by omega),Array.getElem?_toList] at h4'
    refine⟨v,by rw[Nat.zero_add,h4',hv],?_⟩
    rw[List.getElem?_map] at hv
    cases hx:(iU ks)[i]? with
    |none=>rw[hx] at hv;simp at hv
    |some x=>rw[hx] at hv;simp only[Option.map_some,Option.some.injEq] at hv;subst hv;exact .int _ _)
   have hle2:Γ.le ya:=J1.trans hst.le
   refine⟨ya,_,rfl,hle2,by rw[←h5];exact Wv,fun i hi=>?_,?_⟩
   ·exact hst.2 i (by omega)
   ·rw[hlen]
    refine .slice _ _ _ _ _ (.inl ⟨rfl,rfl,0,qq,rfl⟩) ?_
    unfold aT.cap
    rw[if_pos (by unfold az;omega)]
    refine⟨h1,cur.size,hst.le.eu _ _ (by simp[J0]),?_⟩
    show 0+cap*(az+1-az)≤cur.size
    rw[h3,Nat.add_sub_cancel_left];omega
end Go.Am
