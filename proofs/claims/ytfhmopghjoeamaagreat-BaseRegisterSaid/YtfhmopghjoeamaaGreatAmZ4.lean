/-
  The abstract machine: a function that collects the keys of a map, in whatever order, and sorts them: what it gives is told of the map alone.
-/
import Derived.Test.YtfhmopghjoeamaaGreatAmX7
import Derived.Lib.SlKeysI
import Derived.Maps.Range
set_option linter.unusedVariables false
set_option linter.unusedSimpArgs false
namespace Go.Am
open Go.RowKit Go.Maps
def oG:List (Value×Value×Nat)→Option (List Int)
 | []=>some []
 |e::r=>match e.1,e.2.1 with
  | .int .i64 x,.bool _=>match oG r with
   |some l=>some (x::l)
   |none=>none
  | _,_=>none
def LY:List Nat→Bool
 | []=>true
 |x::l => !(l.any (Nat.beq x))&&LY l
def LZ:List Int→Bool
 | []=>true
 |x::l => !(l.any fun y=>decide (x=y))&&LZ l
theorem sx:∀ {l:List Nat},LY l=true→l.Nodup
 | [],_=>List.nodup_nil
 |x::l,h=>by
  simp only[LY,Bool.and_eq_true,Bool.not_eq_true',List.any_eq_false] at h
  refine List.nodup_cons.2 ⟨fun hx=>h.1 x hx (Nat.beq_refl x),sx h.2⟩
theorem sy:∀ {l:List Int},LZ l=true→l.Nodup
 | [],_=>List.nodup_nil
 |x::l,h=>by
  simp only[LZ,Bool.and_eq_true,Bool.not_eq_true',List.any_eq_false,decide_eq_true_eq] at h
  refine List.nodup_cons.2 ⟨fun hx=>h.1 x hx rfl,sy h.2⟩
def yh (x:Int):List Int→List Int
 | []=>[x]
 |y::r=>cond (decide (x≤y)) (x::y::r) (y::yh x r)
def ij:List Int→List Int
 | []=>[]
 |x::r=>yh x (ij r)
theorem nS (x:Int):∀ l:List Int,(yh x l).Perm (x::l)
 | [] => .refl _
 |y::r=>by
  unfold yh
  cases decide (x≤y) with
  |true=>exact .refl _
  |false=>exact((nS x r).cons y).trans (.swap _ _ _)
theorem gQ:∀ l:List Int,(ij l).Perm l
 | [] => .refl _
 |x::r=>(nS x _).trans ((gQ r).cons x)
theorem oH (x:Int):∀ {l:List Int},l.Pairwise (·≤·)→(yh x l).Pairwise (·≤·)
 | [],_=>by simp[yh]
 |y::r,h=>by
  obtain⟨h1,h2⟩:=List.pairwise_cons.1 h
  unfold yh
  cases hd:decide (x≤y) with
  |true=>
   have hd:=of_decide_eq_true hd
   refine List.pairwise_cons.2 ⟨fun z hz=>?_,h⟩
   rcases List.mem_cons.1 hz with rfl |hz
   ·exact hd
   ·exact Int.le_trans hd (h1 z hz)
  |false=>
   have hd:=of_decide_eq_false hd
   refine List.pairwise_cons.2 ⟨fun z hz=>?_,oH x h2⟩
   rcases List.mem_cons.1 ((nS x r).mem_iff.1 hz) with rfl |hz
   ·omega
   ·exact h1 z hz
theorem jv:∀ l:List Int,(ij l).Pairwise (·≤·)
 | []=>by simp[ij]
 |x::r=>oH x (jv r)
theorem Di {l ss:List Int} (h:ss.Perm l):ss.mergeSort leI=ij l:=by
 have tr:∀ a b c:Int,leI a b=true→leI b c=true→leI a c=true:=fun a b c h1 h2=>by simp only[leI,decide_eq_true_eq] at *;exact Int.le_trans h1 h2
 have to:∀ a b:Int,(leI a b||leI b a)=true:=fun a b=>by simp only[leI,Bool.or_eq_true,decide_eq_true_eq];exact Int.le_total a b
 refine List.Perm.eq_of_pairwise (le:=fun a b=>leI a b=true) (fun a b _ _ h1 h2=>?_) (List.pairwise_mergeSort tr to ss) ((jv l).imp fun h=>by simpa [leI] using h) ((List.mergeSort_perm ss leI).trans (h.trans (gQ l).symm))
 simp only[leI,decide_eq_true_eq] at h1 h2
 exact Int.le_antisymm h1 h2
def Ou (es:List (Value×Value×Nat)) (clk:Nat) (ks:List Int):Bool:=
 ks.all (fun x=>(Lit.int .i64 x).wf)&&LZ ks&&es.all (fun e=>Nat.blt e.2.2 clk)&&LY (es.map (·.2.2))&&Nat.ble es.length 1000000
def JU (l:List Int):AP Value:=
 match l with
 | [] => .pure (.slice none 0 0)
 |l => .new (.cells (PT.ofList .leaf 0 (l.map (.int .i64))) false) fun id => .pure (.slice (some ⟨id,0,none⟩) l.length (aA+1))
def FX (a:Addr):AP Value:=
 .get a.block fun
  | .cells c _=>match c.get (a.off+4) with
   |some (.map (some r)) => .get r fun
    | .map es clk=>match oG es with
     |some ks=>cond (Ou es clk ks) (JU (ij ks)) (.fail "out")
     |none => .fail "out"
    | _ => .fail "out"
   | _ => .fail "out"
  | _ => .fail "out"
def rA:List Value→Option (AP Value)
 | [.pointer (some a)]=>some (FX a)
 | _=>none
theorem FY {Γ:aV} {k:IntKind} {x:Int} {v:Value} (h:ay Γ (.int k x) v):v = .int k x:=by cases h;rfl
theorem Dj {Γ:aV} {x:Bool} {v:Value} (h:ay Γ (.bool x) v):v = .bool x:=by cases h;rfl
theorem sA {Γ:aV}:∀ {es:List (Value×Value×Nat)} {L:List MapEntry} {ks:List Int},bz Γ es L→oG es=some ks→L.map (·.key)=ks.map (Value.int .i64)∧(∀ e∈L,∃ b,e.val = .bool b)∧L.map (·.born)=es.map (·.2.2)∧ks.length=es.length
 | _,_,ks,.nil,h=>by
  simp only[oG,Option.some.injEq] at h
  subst h;simp
 | _,_,ks,.cons p e l l' hk hv hb t,h=>by
  obtain⟨pk,pv,pb⟩:=p
  simp only[oG] at h
  split at h
  ·rename_i x b
   split at h
   ·rename_i ks' hks
    simp only[Option.some.injEq] at h
    subst h
    obtain⟨h1,h2,h3,h4⟩:=sA t hks
    have ek:e.key = .int .i64 x:=FY hk
    have ev:e.val = .bool b:=Dj hv
    refine⟨by simp[h1,ek],fun y hy=>?_,by simp[h3,←hb],by simp[h4]⟩
    rcases List.mem_cons.1 hy with rfl |hy
    ·exact⟨b,ev⟩
    ·exact h2 y hy
   ·simp at h
  ·simp at h
open Go.WideElems (Fit rd rg rg_of rd_mk) in
theorem Ut {P:Program} {f:FuncId} {kT bT:TypeId} (hk:P.underlying kT=some (.int .i64)) (hb:P.underlying bT=some .bool)
  (Ov:∀ (pb o r n:Nat) (D0:DataW Unit) (w:World),w.cell? ⟨pb,o+4,none⟩=some (.map (some r))→pb<w.heap.size→w.ownsMap P kT (plainElem P bT) r n D0→Maps.size D0≤1000000→
   CallsIn Fence.wide 0 P f #[.pointer (some ⟨pb,o,none⟩)] w fun e w'=>∃ (v:Value) (ss:List Int),e = .returned v∧(∃ left,CollectedI D0 left ss∧∀ kl,left kl=false)∧(ss=[]→v = .slice none 0 0)∧
    w'.ownsRow w.heap.size kT 1 v ss.length ((ss.mergeSort (fun x y=>decide (x≤y))).map (Value.int .i64))∧RowKit.Below w.heap.size w w'):bR P f rA:=by
 intro args m hm Γ W w h n lim rd' wr args' v s' ha hS hr hfree
 unfold rA at hm
 split at hm
 case h_2=>simp at hm
 case h_1 a=>
 simp only[Option.some.injEq] at hm
 subst hm
 have gZ:=ga lim _ h n rd' wr v s' hr
 clear hr
 have kI:∀ i,Nat.blt i 0=false:=fun i=>rfl
 have X4:(S0 h n).heap=h:=rfl
 unfold FX at gZ
 simp only[AP.run,kI,X4,cond_false] at gZ
 cases hB:h.get a.block with
 |none=>rw[hB] at gZ;simp at gZ
 |some B=>
 rw[hB] at gZ
 simp only at gZ
 cases B with
 |map es clk=>simp[AP.run] at gZ
 |iter _ _ _ _=>simp[AP.run] at gZ
 |loop _ _ _ _ _ _=>simp[AP.run] at gZ
 |deferred=>simp[AP.run] at gZ
 |cells c ro=>
 simp only at gZ
 split at gZ
 case h_2=>simp[AP.run] at gZ
 case h_1 r hcell=>
 simp only[AP.run,kI,X4,cond_false] at gZ
 cases hC:h.get r with
 |none=>rw[hC] at gZ;simp at gZ
 |some C=>
 rw[hC] at gZ
 simp only at gZ
 cases C with
 |cells _ _=>simp[AP.run] at gZ
 |iter _ _ _ _=>simp[AP.run] at gZ
 |loop _ _ _ _ _ _=>simp[AP.run] at gZ
 |deferred=>simp[AP.run] at gZ
 |map es clk=>
 simp only at gZ
 cases hks:oG es with
 |none=>rw[hks] at gZ;simp[AP.run] at gZ
 |some ks=>
 rw[hks] at gZ
 simp only at gZ
 cases hok:Ou es clk ks with
 |false=>rw[hok] at gZ;simp[AP.run] at gZ
 |true=>
 rw[hok] at gZ
 simp only[cond_true] at gZ
 simp only[Ou,Bool.and_eq_true,List.all_eq_true] at hok
 obtain⟨⟨⟨⟨k1,k2⟩,k3⟩,k4⟩,k5⟩:=hok
 have k2:=sy k2
 have k4:=sx k4
 have k5:es.length≤1000000:=Nat.le_of_ble_eq_true k5
 cases ha with
 |cons _ _ _ _ hp ht=>
 cases ht
 cases hp with
 |ptr _ a' Ox=>
 obtain⟨s,eb,hoff,D4,_⟩:=hS.block hB Ox rfl
 obtain⟨cs,el,fz,g1,g2,g3⟩:=D4
 obtain⟨v',q1,q2⟩:=g3 _ _ hcell
 cases q2 with
 |map _ r' hr'=>
 have hcw:w.cell? ⟨a'.block,a'.off+4,none⟩=some (.map (some r')):=by
  rw[iA (a:=⟨a'.block,a'.off+4,none⟩) rfl g1,show a'.off+4=s+(a.off+4) by omega];exact q1
 obtain⟨b,s1,e1,hBM,_⟩:=hS.live _ _ hC
 rw[hr'] at e1
 simp only[Option.some.injEq,Prod.mk.injEq] at e1
 obtain⟨rfl,rfl⟩:=e1
 obtain⟨-,aK,m1,m2⟩:=hBM
 obtain⟨f1,f2,f3,f4⟩:=sA m2 hks
 have hkey:∀ e∈aK.toList,∃ x∈ks,e.key = .int .i64 x:=by
  intro e he
  have:e.key∈aK.toList.map (·.key):=List.mem_map.2 ⟨e,he,rfl⟩
  rw[f1] at this
  obtain⟨x,hx,Er⟩:=List.mem_map.1 this
  exact⟨x,hx,Er.symm⟩
 have Oy:∀ x∈ks,∃ e∈aK.toList,e.key = .int .i64 x:=by
  intro x hx
  have:Value.int .i64 x∈ks.map (Value.int .i64):=List.mem_map.2 ⟨x,hx,rfl⟩
  rw[←f1] at this
  obtain⟨e,he,Er⟩:=List.mem_map.1 this
  exact⟨e,he,Er⟩
 have hrd:∀ e∈aK.toList,∃ x b,x∈ks∧e.key = .int .i64 x∧rd (H:=Unit) P kT (plainElem P bT) e=some (.int .i64 x,.lit (.bool b)):=by
  intro e he
  obtain⟨x,hx,Er⟩:=hkey e he
  obtain⟨b,X5⟩:=f2 e he
  refine⟨x,b,hx,Er,?_⟩
  obtain⟨ek,ev,eb⟩:=e
  simp only at Er X5
  subst Er X5
  exact rd_mk (keyOf_int_mk hk (k1 x hx)) (plainElem_bool hb b)
 have hsz:aK.size≤1000000:=by
  have:=m2.length
  simp at this;omega
 have F:Fit (H:=Unit) P kT (plainElem P bT) aK clk:=by
  refine⟨by unfold maxLen;omega,⟨fun x hx=>?_,?_,?_⟩,fun x hx=>?_⟩
  ·have:x.born∈aK.toList.map (·.born):=List.mem_map.2 ⟨x,hx,rfl⟩
   rw[f3] at this
   obtain⟨e,he,Er⟩:=List.mem_map.1 this
   have:=Nat.blt_eq.mp (k3 e he)
   omega
  ·rw[f3];exact k4
  ·rw[f1]
   exact List.Pairwise.map _ (fun a b h e=>h (by simpa using e)) k2
  ·obtain⟨y,b,_,_,e⟩:=hrd x hx
   exact⟨_,e⟩
 have hown:w.ownsMap P kT (plainElem P bT) r' aK.size (.map ((aK.toList.map (rg (H:=Unit) P kT (plainElem P bT))).foldr DataW.insert [])):=⟨aK,clk,m1,F,Nat.le_refl _,rfl⟩
 have hsize:Maps.size (DataW.map ((aK.toList.map (rg (H:=Unit) P kT (plainElem P bT))).foldr DataW.insert []))≤1000000:=by
  rw[size_eq,length_sorted];simpa using hsz
 have Uu:∀ x,has (DataW.map ((aK.toList.map (rg (H:=Unit) P kT (plainElem P bT))).foldr DataW.insert [])) (.int .i64 x)=true↔x∈ks:=by
  intro x
  rw[has_eq,List.any_eq_true]
  constructor
  ·rintro ⟨p,hp,hs⟩
   obtain⟨e,he,rfl⟩:=List.mem_map.1 (Go.mem_sorted.1 hp)
   obtain⟨y,b,hy,_,Bl⟩:=hrd e he
   rw[rg_of Bl] at hs
   have:=WideAt.sameKey_eq hs
   simp only[Lit.int.injEq,true_and] at this
   rw[←this];exact hy
  ·intro hx
   obtain⟨e,he,Er⟩:=Oy x hx
   refine⟨_,Go.mem_sorted.2 (List.mem_map.2 ⟨e,he,rfl⟩),?_⟩
   obtain⟨y,b,hy,Uv,Bl⟩:=hrd e he
   rw[rg_of Bl]
   rw[Er] at Uv
   simp only[Value.int.injEq,true_and] at Uv
   subst Uv
   exact WideAt.sameKey_self trivial
 have ha':a'=⟨a'.block,a'.off,none⟩:=by
  have:=Ox.spot'
  cases a';simp only at this;rw[this]
 have hlt:a'.block<w.heap.size:=hS.dom _ _ _ eb
 rw[ha']
 refine(Ov a'.block a'.off r' aK.size _ w hcw hlt hown hsize).mono ?_
 rintro e w' ⟨v2,ss,rfl,⟨left,⟨c1,c2⟩,hl⟩,wZ,hrow,tT⟩
 have Oz:ss.Perm ks:=by
  refine(List.perm_ext_iff_of_nodup c1 k2).2 fun x=>?_
  rw[c2 x,hl,Uu x];simp
 have wu:=Di Oz
 have hlen:(ij ks).length=ss.length:=by rw[←wu];simp
 have hrow:w'.ownsRow w.heap.size kT 1 v2 ss.length ((ij ks).map (Value.int .i64)):=by rw[←wu];exact hrow
 have hsame:∀ i,i<w.heap.size→w'.heap[i]? = w.heap[i]? := tT.block
 have gj:aR Γ W h w':=by
  refine⟨⟨tT.os.trans hS.below.os,tT.tape.trans hS.below.tape,tT.output.trans hS.below.output,Nat.le_trans hS.below.size tT.size,fun i hi=>(hsame i (Nat.lt_of_lt_of_le hi hS.below.size)).trans (hS.below.block i hi)⟩,fun a ha=>?_,fun i B hi=>?_,hS.jf,fun i b s e=>Nat.lt_of_lt_of_le (hS.dom i b s e) tT.size,fun b n e=>?_,hS.fin,hS.rows⟩
  ·rw[←hS.fz a ha]
   exact World.frozen?_of_block (hsame _ (Nat.lt_of_lt_of_le ha hS.below.size))
  ·obtain⟨b,s,e,r,hw⟩:=hS.live i B hi
   exact⟨b,s,e,r.world (hsame b (hS.dom i b s e)),hw⟩
  ·obtain⟨c,el,fz,h1,h2⟩:=hS.eT b n e
   exact⟨c,el,fz,(hsame b (cm h1)).trans h1,h2⟩
 unfold JU at gZ
 split at gZ
 ·rename_i wS
  simp only[AP.run,aW.ok.injEq,S0,HS.mk.injEq] at gZ
  obtain⟨rfl,h5,h6,-⟩:=gZ
  have:ss=[]:=by rw[wS] at hlen;exact List.length_eq_zero_iff.1 hlen.symm
  rw[wZ this]
  exact⟨Γ,_,rfl,.refl _,by rw[←h5];exact gj,fun _ _=>rfl,.nilslice _ _⟩
 ·rename_i hne
  simp only[AP.run,aW.ok.injEq] at gZ
  obtain⟨rfl,hs'⟩:=gZ
  have h5:h.set n (some (.cells (PT.ofList .leaf 0 ((ij ks).map (.int .i64))) false))=s'.heap:=congrArg HS.heap hs'
  have h6:Nat.succ n=s'.next:=congrArg HS.next hs'
  rcases hrow.2 with ⟨_,hz⟩ | ⟨g,cap,cur,rfl,hbase,D6,h1,h2,h3,h4⟩
  ·exact absurd (List.length_eq_zero_iff.1 (hlen.trans hz)) (by simpa using hne)
  ·have JV:g<w'.heap.size:=cm D6
   let OA:aV:=⟨Γ.blk,fun b=>if b=g then some cur.size else Γ.eT b⟩
   have FZ:Γ.le OA:=by
    refine⟨fun i x e=>e,fun b m e=>?_⟩
    show (if b=g then some cur.size else Γ.eT b)=some m
    have:b≠g:=by
     intro e2
     subst e2
     obtain⟨c,el,fz,q,_⟩:=hS.eT _ _ e
     have:=cm q
     omega
    rw[if_neg this];exact e
   have hS1:aR OA W h w':=by
    refine⟨gj.below,gj.fz,fun i B hi=>?_,gj.jf,gj.dom,fun b m e=>?_,gj.fin,gj.rows⟩
    ·obtain⟨b,s,e,r,hw⟩:=gj.live i B hi
     exact⟨b,s,e,r.mono FZ,hw⟩
    ·simp only[OA] at e
     split at e
     ·rename_i X6
      simp only[Option.some.injEq] at e
      subst X6
      exact⟨cur,kT,(0,0),D6,e⟩
     ·exact gj.eT b m e
   have hn:OA.blk n=none:=hfree n (Nat.le_refl _) (by omega)
   obtain⟨AY,hst,rF,hS2⟩:=hS1.view hn ((ij ks).map (Value.int .i64)) (b:=g) (s:=0) (cs:=cur) (el:=kT) D6 (Nat.le_trans hS.below.size hbase) (fun j B b' s' hj e X6=>by
    have:b'<w.heap.size:=hS.dom _ _ _ e
    omega) (fun i v hv=>by
    have hi:i<ss.length:=by
     have:=(List.getElem?_eq_some_iff.1 hv).1
     simp at this;omega
    have h4':(cur.toList.take (ss.length*1))[i]? = ((ij ks).map (Value.int .i64))[i]? := by rw[h4]
    rw[List.getElem?_take_of_lt (by omega),Array.getElem?_toList] at h4'
    refine⟨v,by rw[Nat.zero_add,h4',hv],?_⟩
    rw[List.getElem?_map] at hv
    cases hx:(ij ks)[i]? with
    |none=>rw[hx] at hv;simp at hv
    |some x=>rw[hx] at hv;simp only[Option.map_some,Option.some.injEq] at hv;subst hv;exact .int _ _)
   have hle2:Γ.le AY:=FZ.trans hst.le
   refine⟨AY,_,rfl,hle2,by rw[←h5];exact hS2,fun i hi=>?_,?_⟩
   ·exact hst.2 i (by omega)
   ·rw[hlen]
    refine .slice _ _ _ _ _ (.inl ⟨rfl,rfl,0,rF,rfl⟩) ?_
    unfold aV.cap
    rw[if_pos (by unfold aA;omega)]
    refine⟨h1,cur.size,hst.le.eT _ _ (by simp[OA]),?_⟩
    show 0+cap*(aA+1-aA)≤cur.size
    rw[h3,Nat.add_sub_cancel_left];omega
end Go.Am
