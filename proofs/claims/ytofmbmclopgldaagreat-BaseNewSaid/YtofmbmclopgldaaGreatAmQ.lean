/-
  The abstract machine: one operation, whole.
-/
import Derived.Test.YtofmbmclopgldaaGreatAmP
set_option linter.unusedSimpArgs false
set_option linter.unusedVariables false
namespace Go.Am
open Go.RowKit
section
variable {P:Program} {Γ:br} {W w:World} {h:PT ak} {n:Nat}
theorem ru {α β:Type} (f:α→β) (a:Array α):a.map f=⟨a.toList.map f⟩:=by apply Array.ext';simp
theorem dc {m:AP Value} {e:Sem Value} (hm:fD P Γ m e aA):fD P Γ (m.bind fun x => .pure (.value x)) (do pure (.value (←e)):Sem Next) vL:=by
 intro W h n w hS
 refine aj.bind (hm W h n w hS) fun aS v v' hle hv=>?_
 exact fun W h n w hS=>aj.ok hS rfl (.value _ _ hv)
theorem Al {m:AP Unit} {e:Sem Unit} (hm:fD P Γ m e fun _ _ _=>True):fD P Γ (m.bind fun _ => .pure .skip) (do e;pure .skip:Sem Next) vL:=by
 intro W h n w hS
 refine aj.bind (hm W h n w hS) fun aS v v' hle hv=>?_
 exact fun W h n w hS=>aj.ok hS rfl .skip
theorem Jc {o:Option Value} {why:String} {e:Sem Value} (h:∀ v,o=some v→∀ w,∃ v',e.run P w = .ok v' w∧aA Γ v v'):fD P Γ (.opt why o .pure:AP Value) e aA:=by
 intro W hh n w hS
 unfold AP.opt
 split
 ·rename_i v
  obtain⟨v',hr,hv⟩:=h v rfl w
  exact aj.ok hS hr hv
 ·exact aj.fail
theorem oD {ρ ρ':Operand→Value} {x:Option Operand} (h:∀ y,x=some y→aA Γ (ρ y) (ρ' y)):qT Γ (x.map ρ) (x.map ρ'):=by
 cases x with
 |none=>exact .no
 |some y=>exact .yes _ _ (h y rfl)
theorem Jd {ρ ρ':Operand→Value} {o:Oper} (hρ:∀ x∈o.op.operands,aA Γ (ρ x) (ρ' x)):fD P Γ (jk P ρ o) (execOp ρ' o) vL:=by
 obtain⟨dst,op,type,pos,after,guard⟩:=o
 dsimp only at hρ
 have iy:∀ {why:String} {e:Sem Next},fD P Γ (.fail why:AP aD) e vL:=fun W h n w hS=>aj.fail
 cases op with
 |move x=>exact fun W h n w hS=>aj.ok hS rfl (.value _ _ (hρ x (by simp[Op.operands])))
 |assign x=>exact fun W h n w hS=>aj.ok hS rfl (.value _ _ (hρ x (by simp[Op.operands])))
 |pick c a b=>
  intro W h n w hS
  have hc:=hρ c (by simp[Op.operands])
  have ha:=hρ a (by simp[Op.operands])
  have hb:=hρ b (by simp[Op.operands])
  show aj P Γ W h n w (match ρ c with | .bool t => .pure (.value (cond t (ρ a) (ρ b))) | _ => .fail "pick") (do pure (.value (if ←asBool (ρ' c) then ρ' a else ρ' b))) vL
  split
  ·rename_i t heq
   rw[heq] at hc
   generalize hv:ρ' c=cv at hc
   cases hc
   refine aj.ok hS (b := .value (if t then ρ' a else ρ' b)) (by simp[asBool]) (.value _ _ ?_)
   cases t
   ·exact hb
   ·exact ha
  ·exact aj.fail
 |alloc e=>exact dc zQ
 |box e x=>exact dc (I1 (hρ x (by simp[Op.operands])))
 |build t ps=>
  have hp:jN Γ (ps.toList.map fun p=>(p.1,ρ p.2)) (ps.toList.map fun p=>(p.1,ρ' p.2)):=jN.map _ fun p hp=>hρ p.2 (by
   simp only[Op.operands,List.mem_toArray,List.mem_map];exact⟨p,hp,rfl⟩)
  have:=dc (zU (P:=P) (t:=t) hp)
  rw[←ru] at this
  exact this
 |buildSlice t k ps=>
  have hp:jN Γ (ps.toList.map fun p=>(p.1,ρ p.2)) (ps.toList.map fun p=>(p.1,ρ' p.2)):=jN.map _ fun p hp=>hρ p.2 (by
   simp only[Op.operands,List.mem_toArray,List.mem_map];exact⟨p,hp,rfl⟩)
  have:=dc (qR (P:=P) (t:=t) (len:=k) hp)
  rw[←ru] at this
  exact this
 |insert t m k v=>exact Al (lI (hρ m (by simp[Op.operands])) (hρ k (by simp[Op.operands])) (hρ v (by simp[Op.operands])))
 |load t a=>exact dc (uB (hρ a (by simp[Op.operands])))
 |store t a v=>exact Al (zP (hρ a (by simp[Op.operands])) (hρ v (by simp[Op.operands])))
 |ready g=>exact iy
 |waits g=>exact iy
 |nilCheck x=>
  intro W h n w hS
  have hx:=hρ x (by simp[Op.operands])
  show aj P Γ W h n w ((iN (ρ x)).bind fun x => .pure (.value x)) (execOp ρ' ⟨dst,.nilCheck x,type,pos,after,guard⟩) vL
  unfold iN
  split
  ·rename_i a heq
   rw[heq] at hx
   generalize hv:ρ' x=xv at hx
   cases hx with
   |ptr _ a' ha=>exact aj.ok hS (b := .value (.pointer (some a'))) (by simp[execOp,hv]) (.value _ _ (.ptr _ _ ha))
  ·rename_i t v heq
   rw[heq] at hx
   generalize hv:ρ' x=xv at hx
   cases hx with
   |iface _ _ v' Sb=>exact aj.ok hS (b := .value (.iface t v')) (by simp[execOp,hv]) (.value _ _ (.iface _ _ _ Sb))
  ·rename_i f a b heq
   rw[heq] at hx
   generalize hv:ρ' x=xv at hx
   cases hx with
   |func _ fn' l1 Sh l2 Si h1 h2 hp=>
    cases hp with
    |plain _ Lz=>exact aj.ok hS (b := .value (.func (.func f) ⟨Sh⟩ ⟨Si⟩)) (by simp[execOp,hv]) (.value _ _ (.func _ _ _ _ _ _ h1 h2 (.plain _ Lz)))
  ·exact aj.fail
 |binOp op t x y ty=>exact dc (zW (hρ x (by simp[Op.operands])) (hρ y (by simp[Op.operands])))
 |unOp op t x=>exact dc (Jc fun v hv w=>let ⟨h1,h2⟩:=zX (P:=P) (Γ:=Γ) (hρ x (by simp[Op.operands])) hv w;⟨v,h1,h2⟩)
 |convert s d x=>exact dc (vG (hρ x (by simp[Op.operands])))
 |sliceToArrayPointer d x=>exact iy
 |makeInterface t x=>exact dc (nM (hρ x (by simp[Op.operands])))
 |makeFunc fn first captured=>
  intro W h n w hS
  show aj P Γ W h n w (cond (iD fn) (.pure (.value (.func fn ⟨first.toList.map ρ⟩ ⟨captured.toList.map ρ⟩))) (.fail "makeFunc")) (do pure (.value (←Instr.makeFunc fn (first.map ρ') (captured.map ρ')))) vL
  cases hp:iD fn with
  |false=>exact aj.fail
  |true=>
   have h1:aF Γ (first.toList.map ρ) (first.toList.map ρ'):=aF.map _ fun x hx=>hρ x (by simp[Op.operands];exact .inl (by simpa using hx))
   have h2:aF Γ (captured.toList.map ρ) (captured.toList.map ρ'):=aF.map _ fun x hx=>hρ x (by simp[Op.operands];exact .inr (by simpa using hx))
   refine aj.ok hS (b := .value (.func fn (first.map ρ') (captured.map ρ'))) rfl ?_
   rw[ru,ru]
   exact .value _ _ (.func _ _ _ _ _ _ h1 h2 (.plain _ fun l e=>by subst e;simp[iD] at hp))
 |makeMap t r=>exact dc (vJ (oD fun y hy=>hρ y (by subst hy;simp[Op.operands])))
 |makeChan t s=>exact iy
 |makeSlice t l c=>exact dc (rZ (hρ l (by simp[Op.operands])) (hρ c (by simp[Op.operands])))
 |slice t x lo hi mx=>
  exact dc (z6 (hρ x (by simp[Op.operands])) (oD fun y hy=>hρ y (by subst hy;simp[Op.operands])) (oD fun y hy=>hρ y (by subst hy;simp[Op.operands])) (oD fun y hy=>hρ y (by subst hy;simp[Op.operands])))
 |fieldAddr t x f=>exact dc (rS (hρ x (by simp[Op.operands])))
 |field t x f=>exact dc (zR (hρ x (by simp[Op.operands])))
 |indexAddr t x i=>exact dc (rT (hρ x (by simp[Op.operands])) (hρ i (by simp[Op.operands])))
 |index t x i=>exact dc (zS (hρ x (by simp[Op.operands])) (hρ i (by simp[Op.operands])))
 |lookup t x i ok=>exact dc (xF (hρ x (by simp[Op.operands])) (hρ i (by simp[Op.operands])))
 |mapUpdate t m k v=>exact Al (lI (hρ m (by simp[Op.operands])) (hρ k (by simp[Op.operands])) (hρ v (by simp[Op.operands])))
 |mapEntry t m k=>exact iy
 |entryStore t m s v=>exact iy
 |range t x=>exact dc (Ab (hρ x (by simp[Op.operands])))
 |next x b=>exact dc (CL (hρ x (by simp[Op.operands])))
 |entry x=>exact dc (Ae (hρ x (by simp[Op.operands])))
 |typeAssert x t a ok=>exact dc (qS (hρ x (by simp[Op.operands])))
 |extract x i=>exact dc (vH (hρ x (by simp[Op.operands])))
 |call c=>exact CV fun x hx=>hρ x (by simpa [Op.operands] using hx)
 |go c=>exact iy
 |defer c=>exact iy
 |panic x=>exact iy
 |send a b=>exact iy
 |recv a b c=>exact iy
 |select a b=>exact iy
end
end Go.Am
