/-
  The abstract machine: one operation, whole.
-/
import Derived.Test.YtfhmopghjoeamaaGreatAmP
set_option linter.unusedSimpArgs false
set_option linter.unusedVariables false
namespace Go.Am
open Go.RowKit
section
variable {P:Program} {Γ:aT} {W w:World} {h:PT ak} {n:Nat}
theorem nh {α β:Type} (f:α→β) (a:Array α):a.map f=⟨a.toList.map f⟩:=by apply Array.ext';simp
theorem bZ {m:AP Value} {e:Sem Value} (hm:dH P Γ m e ay):dH P Γ (m.bind fun x => .pure (.value x)) (do pure (.value (←e)):Sem Next) qz:=by
 intro W h n w hS
 refine ah.bind (hm W h n w hS) fun aH v v' hle hv=>?_
 exact fun W h n w hS=>ah.ok hS rfl (.value _ _ hv)
theorem uK {m:AP Unit} {e:Sem Unit} (hm:dH P Γ m e fun _ _ _=>True):dH P Γ (m.bind fun _ => .pure .skip) (do e;pure .skip:Sem Next) qz:=by
 intro W h n w hS
 refine ah.bind (hm W h n w hS) fun aH v v' hle hv=>?_
 exact fun W h n w hS=>ah.ok hS rfl .skip
theorem BI {o:Option Value} {why:String} {e:Sem Value} (h:∀ v,o=some v→∀ w,∃ v',e.run P w = .ok v' w∧ay Γ v v'):dH P Γ (.opt why o .pure:AP Value) e ay:=by
 intro W hh n w hS
 unfold AP.opt
 split
 ·rename_i v
  obtain⟨v',hr,hv⟩:=h v rfl w
  exact ah.ok hS hr hv
 ·exact ah.fail
theorem kR {ρ ρ':Operand→Value} {x:Option Operand} (h:∀ y,x=some y→ay Γ (ρ y) (ρ' y)):mS Γ (x.map ρ) (x.map ρ'):=by
 cases x with
 |none=>exact .no
 |some y=>exact .yes _ _ (h y rfl)
theorem BJ {ρ ρ':Operand→Value} {o:Oper} (hρ:∀ x∈o.op.operands,ay Γ (ρ x) (ρ' x)):dH P Γ (gO P ρ o) (execOp ρ' o) qz:=by
 obtain⟨dst,op,type,pos,after,guard⟩:=o
 dsimp only at hρ
 have eZ:∀ {why:String} {e:Sem Next},dH P Γ (.fail why:AP aC) e qz:=fun W h n w hS=>ah.fail
 cases op with
 |move x=>exact fun W h n w hS=>ah.ok hS rfl (.value _ _ (hρ x (by simp[Op.operands])))
 |assign x=>exact fun W h n w hS=>ah.ok hS rfl (.value _ _ (hρ x (by simp[Op.operands])))
 |pick c a b=>
  intro W h n w hS
  have hc:=hρ c (by simp[Op.operands])
  have ha:=hρ a (by simp[Op.operands])
  have hb:=hρ b (by simp[Op.operands])
  show ah P Γ W h n w (match ρ c with | .bool t => .pure (.value (cond t (ρ a) (ρ b))) | _ => .fail "pick") (do pure (.value (if ←asBool (ρ' c) then ρ' a else ρ' b))) qz
  split
  ·rename_i t heq
   rw[heq] at hc
   generalize hv:ρ' c=cv at hc
   cases hc
   refine ah.ok hS (b := .value (if t then ρ' a else ρ' b)) (by simp[asBool]) (.value _ _ ?_)
   cases t
   ·exact hb
   ·exact ha
  ·exact ah.fail
 |alloc e=>exact bZ uf
 |box e x=>exact bZ (Bx (hρ x (by simp[Op.operands])))
 |build t ps=>
  have hp:gV Γ (ps.toList.map fun p=>(p.1,ρ p.2)) (ps.toList.map fun p=>(p.1,ρ' p.2)):=gV.map _ fun p hp=>hρ p.2 (by
   simp only[Op.operands,List.mem_toArray,List.mem_map];exact⟨p,hp,rfl⟩)
  have:=bZ (uk (P:=P) (t:=t) hp)
  rw[←nh] at this
  exact this
 |buildSlice t k ps=>
  have hp:gV Γ (ps.toList.map fun p=>(p.1,ρ p.2)) (ps.toList.map fun p=>(p.1,ρ' p.2)):=gV.map _ fun p hp=>hρ p.2 (by
   simp only[Op.operands,List.mem_toArray,List.mem_map];exact⟨p,hp,rfl⟩)
  have:=bZ (mQ (P:=P) (t:=t) (len:=k) hp)
  rw[←nh] at this
  exact this
 |insert t m k v=>exact uK (jm (hρ m (by simp[Op.operands])) (hρ k (by simp[Op.operands])) (hρ v (by simp[Op.operands])))
 |load t a=>exact bZ (pF (hρ a (by simp[Op.operands])))
 |store t a v=>exact uK (ud (hρ a (by simp[Op.operands])) (hρ v (by simp[Op.operands])))
 |ready g=>exact eZ
 |waits g=>exact eZ
 |nilCheck x=>
  intro W h n w hS
  have hx:=hρ x (by simp[Op.operands])
  show ah P Γ W h n w ((jD (ρ x)).bind fun x => .pure (.value x)) (execOp ρ' ⟨dst,.nilCheck x,type,pos,after,guard⟩) qz
  unfold jD
  split
  ·rename_i a heq
   rw[heq] at hx
   generalize hv:ρ' x=xv at hx
   cases hx with
   |ptr _ a' ha=>exact ah.ok hS (b := .value (.pointer (some a'))) (by simp[execOp,hv]) (.value _ _ (.ptr _ _ ha))
  ·rename_i t v heq
   rw[heq] at hx
   generalize hv:ρ' x=xv at hx
   cases hx with
   |iface _ _ v' H9=>exact ah.ok hS (b := .value (.iface t v')) (by simp[execOp,hv]) (.value _ _ (.iface _ _ _ H9))
  ·rename_i f a b heq
   rw[heq] at hx
   generalize hv:ρ' x=xv at hx
   cases hx with
   |func _ fn' l1 Ih l2 Ii h1 h2 hp=>
    cases hp with
    |plain _ Er=>exact ah.ok hS (b := .value (.func (.func f) ⟨Ih⟩ ⟨Ii⟩)) (by simp[execOp,hv]) (.value _ _ (.func _ _ _ _ _ _ h1 h2 (.plain _ Er)))
  ·exact ah.fail
 |binOp op t x y ty=>exact bZ (uo (hρ x (by simp[Op.operands])) (hρ y (by simp[Op.operands])))
 |unOp op t x=>exact bZ (BI fun v hv w=>let ⟨h1,h2⟩:=uq (P:=P) (Γ:=Γ) (hρ x (by simp[Op.operands])) hv w;⟨v,h1,h2⟩)
 |convert s d x=>exact bZ (qu (hρ x (by simp[Op.operands])))
 |sliceToArrayPointer d x=>exact eZ
 |makeInterface t x=>exact bZ (j_ (hρ x (by simp[Op.operands])))
 |makeFunc fn first captured=>
  intro W h n w hS
  show ah P Γ W h n w (cond (jE fn) (.pure (.value (.func fn ⟨first.toList.map ρ⟩ ⟨captured.toList.map ρ⟩))) (.fail "makeFunc")) (do pure (.value (←Instr.makeFunc fn (first.map ρ') (captured.map ρ')))) qz
  cases hp:jE fn with
  |false=>exact ah.fail
  |true=>
   have h1:aB Γ (first.toList.map ρ) (first.toList.map ρ'):=aB.map _ fun x hx=>hρ x (by simp[Op.operands];exact .inl (by simpa using hx))
   have h2:aB Γ (captured.toList.map ρ) (captured.toList.map ρ'):=aB.map _ fun x hx=>hρ x (by simp[Op.operands];exact .inr (by simpa using hx))
   refine ah.ok hS (b := .value (.func fn (first.map ρ') (captured.map ρ'))) rfl ?_
   rw[nh,nh]
   exact .value _ _ (.func _ _ _ _ _ _ h1 h2 (.plain _ fun l e=>by subst e;simp[jE] at hp))
 |makeMap t r=>exact bZ (qx (kR fun y hy=>hρ y (by subst hy;simp[Op.operands])))
 |makeChan t s=>exact eZ
 |makeSlice t l c=>exact bZ (nV (hρ l (by simp[Op.operands])) (hρ c (by simp[Op.operands])))
 |slice t x lo hi mx=>
  exact bZ (uu (hρ x (by simp[Op.operands])) (kR fun y hy=>hρ y (by subst hy;simp[Op.operands])) (kR fun y hy=>hρ y (by subst hy;simp[Op.operands])) (kR fun y hy=>hρ y (by subst hy;simp[Op.operands])))
 |fieldAddr t x f=>exact bZ (nP (hρ x (by simp[Op.operands])))
 |field t x f=>exact bZ (ug (hρ x (by simp[Op.operands])))
 |indexAddr t x i=>exact bZ (nQ (hρ x (by simp[Op.operands])) (hρ i (by simp[Op.operands])))
 |index t x i=>exact bZ (uh (hρ x (by simp[Op.operands])) (hρ i (by simp[Op.operands])))
 |lookup t x i ok=>exact bZ (rN (hρ x (by simp[Op.operands])) (hρ i (by simp[Op.operands])))
 |mapUpdate t m k v=>exact uK (jm (hρ m (by simp[Op.operands])) (hρ k (by simp[Op.operands])) (hρ v (by simp[Op.operands])))
 |mapEntry t m k=>exact eZ
 |entryStore t m s v=>exact eZ
 |range t x=>exact bZ (uz (hρ x (by simp[Op.operands])))
 |next x b=>exact bZ (wJ (hρ x (by simp[Op.operands])))
 |entry x=>exact bZ (uC (hρ x (by simp[Op.operands])))
 |typeAssert x t a ok=>exact bZ (mR (hρ x (by simp[Op.operands])))
 |extract x i=>exact bZ (qv (hρ x (by simp[Op.operands])))
 |call c=>exact wS fun x hx=>hρ x (by simpa [Op.operands] using hx)
 |go c=>exact eZ
 |defer c=>exact eZ
 |panic x=>exact eZ
 |send a b=>exact eZ
 |recv a b c=>exact eZ
 |select a b=>exact eZ
end
end Go.Am
