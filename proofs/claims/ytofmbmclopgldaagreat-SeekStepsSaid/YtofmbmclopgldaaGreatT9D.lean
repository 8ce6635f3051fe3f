/-
A part.
-/
import Derived.Test.YtofmbmclopgldaaGreatT9S4
set_option linter.all false
namespace Go.Proofs.YtofmbmclopgldaaGreat
open Go.Am
theorem aeI{k:IntKind}{h:PT aj}{n b:Nat}{a:Option Addr}{cap:Nat}{xs:List Int}{by':Nat}(hs:aN k h (.slice a xs.length cap) xs)(hW:bQ h n)(hb:h.get b=some (.cells (PT.ofList .leaf 0 []) false))(hlen:xs.length≤1000)(hby:Nat.ble by' 65536=true):
  ∃ v h' n',((iG 1 (.slice a xs.length cap)).bind fun p=>Ky 1 by' 1 (some ⟨b,0,none⟩) 0 0 p.1 p.2).run 0 (S0 h n) = .ok v (S0 h' n')∧n≤n'∧bQ h' n'∧fQ k h' b n' v xs∧Kept h h'∧∀ i,i<n→h'.get i=h.get i:=by
 have FH:=hW.lt hb;rw[run_bind,mH (o_ hs),aS];simp only;cases xs with
 |nil=>exact⟨_,h,n,rfl,Nat.le_refl _,hW,.inr ⟨b,0,rfl,Nat.le_refl _,FH,hb⟩,Kept.refl _,fun _ _=>rfl⟩
 |cons x xs=>
  have h1:Nat.beq (x::xs).length 0=false:=rfl;have h2:Nat.ble aA 0=false:=rfl;have h3:Nat.ble (0+(x::xs).length) 0=false:=by rw[Nat.zero_add];rfl
  have hb0:aN k h (.slice (some ⟨b,0,none⟩) ([]:List Int).length 0) [] := .inr ⟨b,0,none,0,[],false,rfl,hb,by simp[jd],rfl⟩;have h4:(iG 1 (.slice (some ⟨b,0,none⟩) 0 0)).run 0 (S0 h n) = .ok (0,[]) (S0 h n):=mH (o_ hb0);have h5:(Nat.ble (0+(x::xs).length) 1048576&&Nat.ble by' 65536&&Nat.beq 1 1&&Nat.beq ([]:List Value).length (0*1)&&Nat.beq ((x::xs).map (Value.int k)).length ((x::xs).length*1))=true:=by
   rw[hby,List.length_map,Nat.ble_eq_true_of_le qJ];have e:Nat.beq (x::xs).length ((x::xs).length*1)=true:=by rw[Nat.mul_one];exact Nat.beq_refl _
   rw[e];rfl
  refine⟨.slice (some ⟨n,0,none⟩) (0+(x::xs).length) (aA+1),h.set n (some (.cells (PT.ofList .leaf 0 ((x::xs).map (.int k))) false)),n+1,?_,by omega,hW.set qJ qJ,.inr ⟨n,aA+1,by rw[Nat.zero_add],by omega,by omega,by rw[PT.fN]⟩,hW.kept (Nat.le_refl _),fun i hi=>by rw[PT.cB _ _ qJ]⟩;unfold Ky;rw[h1,h2,h3];simp only[Bool.false_and,cond_false];rw[run_bind,h4,aS];simp only;unfold oV;rw[h5];rfl
theorem Lc{k:IntKind}{h:PT aj}{n b:Nat}{a:Option Addr}{cap:Nat}{xs:List Int}(hs:aN k h (.slice a xs.length cap) xs)(hW:bQ h n)(hb:h.get b=some (.cells (PT.ofList .leaf 0 []) false))(hlen:xs.length≤1000):
  ∃ v h' n',((iG 1 (.slice a xs.length cap)).bind fun a=>cond (a.1.beq 0&&a.2.isEmpty) (.pure (.slice (some ⟨b,0,none⟩) 0 0)) (cond (a.1.ble 0) (.get b (Tz b 0 1 0 0 a.1 none a.2))
      (.get b fun B=>(fsB 0 0 0 B).bind fun p=>cond (a.1.ble 1048576&&p.2.length.beq 0&&a.2.length.beq a.1) (.new (.cells (PT.ofList .leaf 0 (p.2++a.2)) false) fun id => .pure (.slice (some ⟨id,0,none⟩) a.1 (aA+1))) (.fail "append")))).run 0 (S0 h n) = .ok v (S0 h' n')∧
   (n≤n'∧bQ h' n'∧fQ k h' b n' v xs∧Kept h h'∧∀ i,i<n→h'.get i=h.get i):=by
 have FH:=hW.lt hb;rw[run_bind,mH (o_ hs),aS];simp only;cases xs with
 |nil=>exact⟨_,h,n,rfl,Nat.le_refl _,hW,.inr ⟨b,0,rfl,Nat.le_refl _,FH,hb⟩,Kept.refl _,fun _ _=>rfl⟩
 |cons x xs=>
  have h1:Nat.beq (x::xs).length 0=false:=rfl;have h3:Nat.ble (x::xs).length 0=false:=rfl;have h4:fsB 0 0 0 (.cells (PT.ofList .leaf 0 []) false) = .pure (0,[]):=by rw[BI];rfl
  have e:Nat.beq ((x::xs).map (Value.int k)).length (x::xs).length=true:=by rw[List.length_map];exact Nat.beq_refl _
  refine⟨.slice (some ⟨n,0,none⟩) (x::xs).length (aA+1),h.set n (some (.cells (PT.ofList .leaf 0 ((x::xs).map (.int k))) false)),n+1,?_,by omega,hW.set qJ qJ,.inr ⟨n,aA+1,rfl,by omega,by omega,by rw[PT.fN]⟩,hW.kept (Nat.le_refl _),fun i hi=>by rw[PT.cB _ _ qJ]⟩;rw[h1,h3];simp only[Bool.false_and,cond_false,AP.run,show (S0 h n).heap=h from rfl,hb,show Nat.blt b 0=false from rfl,h4,AP.bind];rw[e,Nat.ble_eq_true_of_le (show (x::xs).length≤1048576 by omega)];rfl
structure GS(h3:PT aj)(n3 lb:Nat)(h:PT aj)(n:Nat)(wv:Value)(W:List (Int×Int×Int)):Prop where
 wf:bQ h n
 le:n3≤n
 row:iQ 3 h wv (gd W) W.length
 new:∀ b k c,wv = .slice (some ⟨b,0,none⟩) k c→n3≤b
 same:∀ i,i<n3→i≠lb→h.get i=h3.get i
theorem GS.eD{h3 h h':PT aj}{n3 lb n:Nat}{wv:Value}{W:List (Int×Int×Int)}{B:Option aj}(g:GS h3 n3 lb h n wv W)(hlb:lb<n3)(e:h.set lb B=h'):GS h3 n3 lb h' n wv W:=by
 subst e;refine⟨g.wf.set (Nat.le_refl _) (by have:=g.le;omega),g.le,?_,g.new,fun i hi hne=>by rw[az (Ne.symm hne)];exact g.same i hi hne⟩
 rcases g.row with r | ⟨b,e,hb,hl⟩
 ·exact .inl r
 ·have:=g.new _ _ _ e;exact .inr ⟨b,e,by rw[az qJ];exact hb,hl⟩
theorem GS.len{h3 h:PT aj}{n3 lb n:Nat}{wv:Value}{W:List (Int×Int×Int)}(g:GS h3 n3 lb h n wv W):∃ a c,wv = .slice a W.length c:=by
 rcases g.row with ⟨e,_,e2⟩ | ⟨b,e,_,_⟩
 ·exact⟨none,0,by rw[e,e2]⟩
 ·exact⟨_,_,e⟩
theorem fW{α:Type}:∀ (p:AP α) (h:PT aj) (n:Nat) (rd wr:List Nat) (a:α) (s':HS),p.note ⟨h,n,rd,wr⟩ = .ok a s'→p.run 0 (S0 h n) = .ok a (S0 s'.heap s'.next)
 | .pure a,h,n,rd,wr,b,s',e=>by simp only[AP.note,aO.ok.injEq] at e;obtain⟨rfl,rfl⟩:=e;rfl
 | .fail w,h,n,rd,wr,b,s',e=>by simp[AP.note] at e
 | .get id k,h,n,rd,wr,b,s',e=>by
  simp only[AP.note] at e;simp only[AP.run,show (S0 h n).heap=h from rfl,show Nat.blt id 0=false from rfl,cond_false];cases hb:h.get id with
  |none=>rw[hb] at e;simp at e
  |some B=>rw[hb] at e;exact fW (k B) h n _ _ b s' e
 | .set id B k,h,n,rd,wr,b,s',e=>by
  simp only[AP.note] at e;simp only[AP.run,show (S0 h n).heap=h from rfl,show Nat.blt id 0=false from rfl,cond_false];cases hb:h.get id with
  |none=>rw[hb] at e;simp at e
  |some B'=>rw[hb] at e;exact fW k (h.set id (some B)) n _ _ b s' e
 | .kill id k,h,n,rd,wr,b,s',e=>by
  simp only[AP.note] at e;simp only[AP.run,show (S0 h n).heap=h from rfl,show Nat.blt id 0=false from rfl,cond_false];cases hb:h.get id with
  |none=>rw[hb] at e;simp at e
  |some B'=>rw[hb] at e;exact fW k (h.set id none) n _ _ b s' e
 | .new B k,h,n,rd,wr,b,s',e=>by
  simp only[AP.note] at e;exact fW (k n) (h.set n (some B)) (n+1) rd wr b s' e
theorem bA{h3:PT aj}{n3 lb:Nat}{S:List Value}{wv:Value}{W:List (Int×Int×Int)}{n p kind first:Int}{h:PT aj}{N:Nat}(g:GS h3 n3 lb h N wv W)(hlb:lb<n3)(hb:h.get lb=some (.cells (PT.ofList .leaf 0 S) false))(hS:S.length=28)(qm:S[27]? = some wv)
  (hk:(W.length:Int)+n≤1000000) (hn:0≤n) (hp:1≤p) (hp2:p≤1000000) (hf:0≤first) (WV:first≤1000000):
  ∃ m,yy [.pointer (some ⟨lb,0,none⟩),.int .i64 n,.int .u8 kind,.int .i64 first,.int .i64 p]=some m∧∀ rd wr,∃ v h' n' rd' wr',m.note ⟨h,N,rd,wr⟩ = .ok v ⟨h',n',rd',wr'⟩∧v = .int .i64 W.length∧
   ∃ wz,h'.get lb=some (.cells (PT.ofList .leaf 0 (S.set 27 wz)) false)∧GS h3 n3 lb h' n' wz (W++iD kind first p.toNat n.toNat)∧∀ i,i<n3→i≠lb→h'.get i=h3.get i:=by
 refine⟨_,rfl,fun rd wr=>?_⟩;have hle:=g.le;have aqz:lb<N:=by omega
 have j8:=yA qm;have hc1:(!false&&Nat.beq S.length 28&&decide (0≤n)&&decide (1≤p)&&decide (p≤1000000)&&decide (0≤first)&&decide (first≤1000000))=true:=by
  rw[hS,decide_eq_true hn,decide_eq_true hp,decide_eq_true hp2,decide_eq_true hf,decide_eq_true WV];rfl
 rcases g.row with ⟨rfl,hW,hW0⟩ | ⟨b,rfl,hbB,mS⟩
 ·obtain rfl:W=[]:=List.eq_nil_of_length_eq_zero hW0;have hk2:n≤1000000:=by simpa using hk
  by_cases hz:n=0
  ·subst hz;refine⟨_,h,N,lb::rd,wr,?_,rfl,.slice none 0 0,by rw[j8];exact hb,?_,g.same⟩
   ·simp only[AP.row,AP.note,hb,kN,hc1,cond_true,qm];rfl
   ·exact⟨g.wf,g.le,.inl ⟨rfl,rfl,rfl⟩,g.new,g.same⟩
  ·refine⟨_,(h.set N (some (.cells (PT.ofList .leaf 0 (gd (iD kind first p.toNat n.toNat))) false))).set lb (some (.cells (PT.ofList .leaf 0 (S.set 27 (.slice (some ⟨N,0,none⟩) n.toNat (aA+3)))) false)),N+1,lb::rd,lb::wr,?_,rfl,.slice (some ⟨N,0,none⟩) n.toNat (aA+3),aI,?_,?_⟩
   ·simp only[AP.row,AP.note,hb,kN,hc1,cond_true,qm,decide_eq_true hk2,decide_eq_false hz,cond_false,AP.newRow,AP.setRow,az (show N≠lb by omega)];rfl
   ·refine⟨(g.wf.set (Nat.le_succ _) (Nat.lt_succ_self _)).set (Nat.le_refl _) qJ,by omega,.inr ⟨N,?_,?_,?_⟩,fun b k c e=>by cases e;omega,fun i hi hne=>by rw[az (Ne.symm hne),az qJ];exact g.same i hi hne⟩
    ·rw[List.nil_append,aH]
    ·rw[az qJ,aI,List.nil_append]
    ·rw[jP]
   ·exact fun i hi hne=>by rw[az (Ne.symm hne),az qJ];exact g.same i hi hne
 ·have FH:=g.new b _ _ rfl;have zG:=g.wf.lt hbB;have LO:(!false&&Nat.beq (aA+3) (aA+3)&&Nat.beq (gd W).length (W.length*3)&&decide ((W.length:Int)+n≤1000000) && !Nat.beq b lb)=true:=by
   rw[mS,decide_eq_true hk,Nat.beq_refl,Nat.beq_refl,ND (show b≠lb by omega)];rfl
  by_cases hz:n=0
  ·subst hz;refine⟨_,h,N,b::lb::rd,wr,?_,rfl,.slice (some ⟨b,0,none⟩) W.length (aA+3),by rw[j8];exact hb,?_,g.same⟩
   ·simp only[AP.row,AP.note,hb,kN,hc1,cond_true,qm,hbB,LO];rfl
   ·exact⟨g.wf,g.le,by rw[show iD kind first p.toNat (0:Int).toNat=[] from rfl,List.append_nil];exact .inr ⟨b,rfl,hbB,mS⟩,g.new,g.same⟩
  ·refine⟨_,((h.set b none).set N (some (.cells (PT.ofList .leaf 0 (gd W++gd (iD kind first p.toNat n.toNat))) false))).set lb (some (.cells (PT.ofList .leaf 0 (S.set 27 (.slice (some ⟨N,0,none⟩) (W.length+n.toNat) (aA+3)))) false)),N+1,b::lb::rd,lb::b::wr,?_,rfl,.slice (some ⟨N,0,none⟩) (W.length+n.toNat) (aA+3),aI,?_,?_⟩
   ·simp only[AP.row,AP.note,hb,kN,hc1,cond_true,qm,hbB,LO,decide_eq_false hz,cond_false,AP.newRow,AP.setRow,az (show N≠lb by omega),az (show b≠lb by omega)]
   ·refine⟨((g.wf.set (Nat.le_refl _) zG).set (Nat.le_succ _) (Nat.lt_succ_self _)).set (Nat.le_refl _) qJ,by omega,.inr ⟨N,?_,?_,?_⟩,fun b k c e=>by cases e;omega,fun i hi hne=>by rw[az (Ne.symm hne),az qJ,az qJ];exact g.same i hi hne⟩
    ·rw[List.length_append,aH]
    ·rw[az qJ,aI,ve]
    ·rw[jP]
   ·exact fun i hi hne=>by rw[az (Ne.symm hne),az qJ,az qJ];exact g.same i hi hne
theorem cN{z:Zx}{s:Option (AP Value)}{f:FuncId}{args:List Value}{d:Option Nat}{ops r:List Oper}{K:List KF}{m:Tm}{h:PT aj}{n:Nat}{I:Value→PT aj→Nat→Prop}
  (H:∃ q,s=some q∧∀ rd wr,∃ v h' n' rd' wr',q.note ⟨h,n,rd,wr⟩ = .ok v ⟨h',n',rd',wr'⟩∧I v h' n') (hk:∀ v h' n',I v h' n'→jZ z (.pure (.value v)) d ops r K m h' n'):V6 z s f args d ops r K m h n:=by
 obtain⟨q,rfl,H⟩:=H;obtain⟨v,h',n',rd',wr',e,hi⟩:=H [] [];exact DN.2 (TG I ⟨v,h',n',fW q h n [] [] v _ e,hi⟩ hk)
theorem yB{z:Zx}{L:List (Nat×Nat)}{s:Option (AP Value)}{f:FuncId}{args:List Value}{d:Option Nat}{ops r:List Oper}{K:List KF}{m:Tm}{h:PT aj}{n lo:Nat}{rd wr:List Nat}{fs:List bO}{I:Value→PT aj→Nat→Prop}
  (H:∃ q,s=some q∧∀ rd wr,∃ v h' n' rd' wr',q.note ⟨h,n,rd,wr⟩ = .ok v ⟨h',n',rd',wr'⟩∧I v h' n') (hk:∀ v h' n' rd' wr',I v h' n'→lD z L (.pure (.value v)) d ops r K m h' n' lo rd' wr' fs):DQ z L s f args d ops r K m h n lo rd wr fs:=by
 obtain⟨q,rfl,H⟩:=H;obtain⟨v,h',n',rd',wr',e,hi⟩:=H rd wr;have:=hk v h' n' rd' wr' hi;unfold DQ;simp only;unfold lD at this ⊢;rw[jA,e,aS];exact this
end Go.Proofs.YtofmbmclopgldaaGreat
