/-
A part.
-/
import Derived.Test.YtofmbmclopgldaaGreatAmP
set_option linter.all false
namespace Go.Am
open Go.RowKit
section
variable {P:Program} {Γ:bL} {W w:World} {h:PT aj} {n:Nat}
theorem vS{α β:Type}(f:α→β)(a:Array α):a.map f=⟨a.toList.map f⟩:=by apply Array.ext';simp
theorem eF{m:AP Value}{e:Sem Value}(hm:iA P Γ m e aD):iA P Γ (m.bind fun x => .pure (.value x)) (do pure (.value (←e)):Sem Next) Bn:=by
 intro W h n w hS;refine ak.bind (hm W h n w hS) fun aY v v' hle hv=>?_;exact fun W h n w hS=>ak.ok hS rfl (.value _ _ hv)
theorem Gk{m:AP Unit}{e:Sem Unit}(hm:iA P Γ m e fun _ _ _=>True):iA P Γ (m.bind fun _ => .pure .skip) (do e;pure .skip:Sem Next) Bn:=by
 intro W h n w hS;refine ak.bind (hm W h n w hS) fun aY v v' hle hv=>?_;exact fun W h n w hS=>ak.ok hS rfl .skip
theorem Ss{o:Option Value}{why:String}{e:Sem Value}(h:∀ v,o=some v→∀ w,∃ v',e.run P w = .ok v' w∧aD Γ v v'):iA P Γ (.opt why o .pure:AP Value) e aD:=by
 intro W hh n w hS;unfold AP.opt;split
 ·rename_i v;obtain⟨v',hr,hv⟩:=h v rfl w;exact ak.ok hS hr hv
 ·exact ak.fail
theorem sx{ρ ρ':Operand→Value}{x:Option Operand}(h:∀ y,x=some y→aD Γ (ρ y) (ρ' y)):vB Γ (x.map ρ) (x.map ρ'):=by
 cases x with
 |none=>exact .no
 |some y=>exact .yes _ _ (h y rfl)
theorem Sv{ρ ρ':Operand→Value}{o:Oper}(hρ:∀ x∈o.op.operands,aD Γ (ρ x) (ρ' x)):iA P Γ (k7 P ρ o) (execOp ρ' o) Bn:=by
 obtain⟨dst,op,type,pos,after,guard⟩:=o;dsimp only at hρ;have jY:∀ {why:String} {e:Sem Next},iA P Γ (.fail why:AP aG) e Bn:=fun W h n w hS=>ak.fail;cases op with
 |move x=>exact fun W h n w hS=>ak.ok hS rfl (.value _ _ (hρ x (by simp[Op.operands])))
 |assign x=>exact fun W h n w hS=>ak.ok hS rfl (.value _ _ (hρ x (by simp[Op.operands])))
 |pick c a b=>
  intro W h n w hS;have hc:=hρ c (by simp[Op.operands]);have ha:=hρ a (by simp[Op.operands]);have hb:=hρ b (by simp[Op.operands])
  show ak P Γ W h n w (match ρ c with | .bool t => .pure (.value (cond t (ρ a) (ρ b))) | _ => .fail "pick") (do pure (.value (if ←asBool (ρ' c) then ρ' a else ρ' b))) Bn
  split
  ·rename_i t heq;rw[heq] at hc;generalize hv:ρ' c=cv at hc;cases hc;refine ak.ok hS (b := .value (if t then ρ' a else ρ' b)) (by simp[asBool]) (.value _ _ ?_);cases t
   ·exact hb
   ·exact ha
  ·exact ak.fail
 |alloc e=>exact eF FK
 |box e x=>exact eF (Sg (hρ x (by simp[Op.operands])))
 |build t ps=>
  have hp:lY Γ (ps.toList.map fun p=>(p.1,ρ p.2)) (ps.toList.map fun p=>(p.1,ρ' p.2)):=lY.map _ fun p hp=>hρ p.2 (by
   simp only[Op.operands,List.mem_toArray,List.mem_map];exact⟨p,hp,rfl⟩)
  have:=eF (FP (P:=P) (t:=t) hp);rw[←vS] at this;exact this
 |buildSlice t k ps=>
  have hp:lY Γ (ps.toList.map fun p=>(p.1,ρ p.2)) (ps.toList.map fun p=>(p.1,ρ' p.2)):=lY.map _ fun p hp=>hρ p.2 (by
   simp only[Op.operands,List.mem_toArray,List.mem_map];exact⟨p,hp,rfl⟩)
  have:=eF (vw (P:=P) (t:=t) (len:=k) hp);rw[←vS] at this;exact this
 |insert t m k v=>exact Gk (oJ (hρ m (by simp[Op.operands])) (hρ k (by simp[Op.operands])) (hρ v (by simp[Op.operands])))
 |load t a=>exact eF (zQ (hρ a (by simp[Op.operands])))
 |store t a v=>exact Gk (FJ (hρ a (by simp[Op.operands])) (hρ v (by simp[Op.operands])))
 |ready g=>exact jY
 |waits g=>exact jY
 |nilCheck x=>
  intro W h n w hS;have hx:=hρ x (by simp[Op.operands])
  show ak P Γ W h n w ((kr (ρ x)).bind fun x => .pure (.value x)) (execOp ρ' ⟨dst,.nilCheck x,type,pos,after,guard⟩) Bn
  unfold kr;split
  ·rename_i a heq;rw[heq] at hx;generalize hv:ρ' x=xv at hx;cases hx with
   |ptr _ a' ha=>exact ak.ok hS (b := .value (.pointer (some a'))) (by simp[execOp,hv]) (.value _ _ (.ptr _ _ ha))
  ·rename_i t v heq;rw[heq] at hx;generalize hv:ρ' x=xv at hx;cases hx with
   |iface _ _ v' hvv=>exact ak.ok hS (b := .value (.iface t v')) (by simp[execOp,hv]) (.value _ _ (.iface _ _ _ hvv))
  ·rename_i f a b heq;rw[heq] at hx;generalize hv:ρ' x=xv at hx;cases hx with
   |func _ fn' l1 l1' l2 l2' h1 h2 hp=>
    cases hp with
    |plain _ VN=>exact ak.ok hS (b := .value (.func (.func f) ⟨l1'⟩ ⟨l2'⟩)) (by simp[execOp,hv]) (.value _ _ (.func _ _ _ _ _ _ h1 h2 (.plain _ VN)))
  ·exact ak.fail
 |binOp op t x y ty=>exact eF (FQ (hρ x (by simp[Op.operands])) (hρ y (by simp[Op.operands])))
 |unOp op t x=>exact eF (Ss fun v hv w=>let ⟨h1,h2⟩:=FR (P:=P) (Γ:=Γ) (hρ x (by simp[Op.operands])) hv w;⟨v,h1,h2⟩)
 |convert s d x=>exact eF (Bh (hρ x (by simp[Op.operands])))
 |sliceToArrayPointer d x=>exact jY
 |makeInterface t x=>exact eF (qS (hρ x (by simp[Op.operands])))
 |makeFunc fn first captured=>
  intro W h n w hS
  show ak P Γ W h n w (cond (j6 fn) (.pure (.value (.func fn ⟨first.toList.map ρ⟩ ⟨captured.toList.map ρ⟩))) (.fail "makeFunc")) (do pure (.value (←Instr.makeFunc fn (first.map ρ') (captured.map ρ')))) Bn
  cases hp:j6 fn with
  |false=>exact ak.fail
  |true=>
   have h1:aM Γ (first.toList.map ρ) (first.toList.map ρ'):=aM.map _ fun x hx=>hρ x (by simp[Op.operands];exact .inl (by simpa using hx));have h2:aM Γ (captured.toList.map ρ) (captured.toList.map ρ'):=aM.map _ fun x hx=>hρ x (by simp[Op.operands];exact .inr (by simpa using hx));refine ak.ok hS (b := .value (.func fn (first.map ρ') (captured.map ρ'))) rfl ?_;rw[vS,vS];exact .value _ _ (.func _ _ _ _ _ _ h1 h2 (.plain _ fun l e=>by subst e;simp[j6] at hp))
 |makeMap t r=>exact eF (Bl (sx fun y hy=>hρ y (by subst hy;simp[Op.operands])))
 |makeChan t s=>exact jY
 |makeSlice t l c=>exact eF (wZ (hρ l (by simp[Op.operands])) (hρ c (by simp[Op.operands])))
 |slice t x lo hi mx=>
  exact eF (FV (hρ x (by simp[Op.operands])) (sx fun y hy=>hρ y (by subst hy;simp[Op.operands])) (sx fun y hy=>hρ y (by subst hy;simp[Op.operands])) (sx fun y hy=>hρ y (by subst hy;simp[Op.operands])))
 |fieldAddr t x f=>exact eF (wS (hρ x (by simp[Op.operands])))
 |field t x f=>exact eF (FL (hρ x (by simp[Op.operands])))
 |indexAddr t x i=>exact eF (wT (hρ x (by simp[Op.operands])) (hρ i (by simp[Op.operands])))
 |index t x i=>exact eF (FN (hρ x (by simp[Op.operands])) (hρ i (by simp[Op.operands])))
 |lookup t x i ok=>exact eF (Di (hρ x (by simp[Op.operands])) (hρ i (by simp[Op.operands])))
 |mapUpdate t m k v=>exact Gk (oJ (hρ m (by simp[Op.operands])) (hρ k (by simp[Op.operands])) (hρ v (by simp[Op.operands])))
 |mapEntry t m k=>exact jY
 |entryStore t m s v=>exact jY
 |range t x=>exact eF (Ga (hρ x (by simp[Op.operands])))
 |next x b=>exact eF (JQ (hρ x (by simp[Op.operands])))
 |entry x=>exact eF (Gd (hρ x (by simp[Op.operands])))
 |typeAssert x t a ok=>exact eF (vA (hρ x (by simp[Op.operands])))
 |extract x i=>exact eF (Bi (hρ x (by simp[Op.operands])))
 |call c=>exact JZ fun x hx=>hρ x (by simpa [Op.operands] using hx)
 |go c=>exact jY
 |defer c=>exact jY
 |panic x=>exact jY
 |send a b=>exact jY
 |recv a b c=>exact jY
 |select a b=>exact jY
end
end Go.Am
