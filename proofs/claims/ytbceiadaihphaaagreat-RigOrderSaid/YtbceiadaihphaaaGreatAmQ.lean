/-
  The abstract machine: one operation, whole.
-/
import Derived.Test.YtbceiadaihphaaaGreatAmP
set_option linter.unusedSimpArgs false
set_option linter.unusedVariables false
namespace Go.Am
open Go.RowKit
section
variable {P:Program} {Γ:bu} {W w:World} {h:PT aj} {n:Nat}
theorem qK {α β:Type} (f:α→β) (a:Array α):a.map f=⟨a.toList.map f⟩:=by apply Array.ext';simp
theorem cZ {m:AP Value} {e:Sem Value} (hm:fK P Γ m e aF):fK P Γ (m.bind fun x => .pure (.value x)) (do pure (.value (←e)):Sem Next) ux:=by
 intro W h n w hS
 refine ak.bind (hm W h n w hS) fun aS v v' hle hv=>?_
 exact fun W h n w hS=>ak.ok hS rfl (.value _ _ hv)
theorem yx {m:AP Unit} {e:Sem Unit} (hm:fK P Γ m e fun _ _ _=>True):fK P Γ (m.bind fun _ => .pure .skip) (do e;pure .skip:Sem Next) ux:=by
 intro W h n w hS
 refine ak.bind (hm W h n w hS) fun aS v v' hle hv=>?_
 exact fun W h n w hS=>ak.ok hS rfl .skip
theorem GH {o:Option Value} {why:String} {e:Sem Value} (h:∀ v,o=some v→∀ w,∃ v',e.run P w = .ok v' w∧aF Γ v v'):fK P Γ (.opt why o .pure:AP Value) e aF:=by
 intro W hh n w hS
 unfold AP.opt
 split
 ·rename_i v
  obtain⟨v',hr,hv⟩:=h v rfl w
  exact ak.ok hS hr hv
 ·exact ak.fail
theorem oE {ρ ρ':Operand→Value} {x:Option Operand} (h:∀ y,x=some y→aF Γ (ρ y) (ρ' y)):qy Γ (x.map ρ) (x.map ρ'):=by
 cases x with
 |none=>exact .no
 |some y=>exact .yes _ _ (h y rfl)
theorem GI {ρ ρ':Operand→Value} {o:Oper} (hρ:∀ x∈o.op.operands,aF Γ (ρ x) (ρ' x)):fK P Γ (jA P ρ o) (execOp ρ' o) ux:=by
 obtain⟨dst,op,type,pos,after,guard⟩:=o
 dsimp only at hρ
 have iC:∀ {why:String} {e:Sem Next},fK P Γ (.fail why:AP aJ) e ux:=fun W h n w hS=>ak.fail
 cases op with
 |move x=>exact fun W h n w hS=>ak.ok hS rfl (.value _ _ (hρ x (by simp[Op.operands])))
 |assign x=>exact fun W h n w hS=>ak.ok hS rfl (.value _ _ (hρ x (by simp[Op.operands])))
 |pick c a b=>
  intro W h n w hS
  have hc:=hρ c (by simp[Op.operands])
  have ha:=hρ a (by simp[Op.operands])
  have hb:=hρ b (by simp[Op.operands])
  show ak P Γ W h n w (match ρ c with | .bool t => .pure (.value (cond t (ρ a) (ρ b))) | _ => .fail "pick") (do pure (.value (if ←asBool (ρ' c) then ρ' a else ρ' b))) ux
  split
  ·rename_i t heq
   rw[heq] at hc
   generalize hv:ρ' c=cv at hc
   cases hc
   refine ak.ok hS (b := .value (if t then ρ' a else ρ' b)) (by simp[asBool]) (.value _ _ ?_)
   cases t
   ·exact hb
   ·exact ha
  ·exact ak.fail
 |alloc e=>exact cZ xW
 |box e x=>exact cZ (Gu (hρ x (by simp[Op.operands])))
 |build t ps=>
  have hp:jK Γ (ps.toList.map fun p=>(p.1,ρ p.2)) (ps.toList.map fun p=>(p.1,ρ' p.2)):=jK.map _ fun p hp=>hρ p.2 (by
   simp only[Op.operands,List.mem_toArray,List.mem_map];exact⟨p,hp,rfl⟩)
  have:=cZ (x3 (P:=P) (t:=t) hp)
  rw[←qK] at this
  exact this
 |buildSlice t k ps=>
  have hp:jK Γ (ps.toList.map fun p=>(p.1,ρ p.2)) (ps.toList.map fun p=>(p.1,ρ' p.2)):=jK.map _ fun p hp=>hρ p.2 (by
   simp only[Op.operands,List.mem_toArray,List.mem_map];exact⟨p,hp,rfl⟩)
  have:=cZ (qw (P:=P) (t:=t) (len:=k) hp)
  rw[←qK] at this
  exact this
 |insert t m k v=>exact yx (lI (hρ m (by simp[Op.operands])) (hρ k (by simp[Op.operands])) (hρ v (by simp[Op.operands])))
 |load t a=>exact cZ (tE (hρ a (by simp[Op.operands])))
 |store t a v=>exact yx (xV (hρ a (by simp[Op.operands])) (hρ v (by simp[Op.operands])))
 |ready g=>exact iC
 |waits g=>exact iC
 |nilCheck x=>
  intro W h n w hS
  have hx:=hρ x (by simp[Op.operands])
  show ak P Γ W h n w ((mA (ρ x)).bind fun x => .pure (.value x)) (execOp ρ' ⟨dst,.nilCheck x,type,pos,after,guard⟩) ux
  unfold mA
  split
  ·rename_i a heq
   rw[heq] at hx
   generalize hv:ρ' x=xv at hx
   cases hx with
   |ptr _ a' ha=>exact ak.ok hS (b := .value (.pointer (some a'))) (by simp[execOp,hv]) (.value _ _ (.ptr _ _ ha))
  ·rename_i t v heq
   rw[heq] at hx
   generalize hv:ρ' x=xv at hx
   cases hx with
   |iface _ _ v' Pp=>exact ak.ok hS (b := .value (.iface t v')) (by simp[execOp,hv]) (.value _ _ (.iface _ _ _ Pp))
  ·rename_i f a b heq
   rw[heq] at hx
   generalize hv:ρ' x=xv at hx
   cases hx with
   |func _ fn' l1 Px l2 Py h1 h2 hp=>
    cases hp with
    |plain _ FX=>exact ak.ok hS (b := .value (.func (.func f) ⟨Px⟩ ⟨Py⟩)) (by simp[execOp,hv]) (.value _ _ (.func _ _ _ _ _ _ h1 h2 (.plain _ FX)))
  ·exact ak.fail
 |binOp op t x y ty=>exact cZ (x4 (hρ x (by simp[Op.operands])) (hρ y (by simp[Op.operands])))
 |unOp op t x=>exact cZ (GH fun v hv w=>let ⟨h1,h2⟩:=x5 (P:=P) (Γ:=Γ) (hρ x (by simp[Op.operands])) hv w;⟨v,h1,h2⟩)
 |convert s d x=>exact cZ (ur (hρ x (by simp[Op.operands])))
 |sliceToArrayPointer d x=>exact iC
 |makeInterface t x=>exact cZ (nG (hρ x (by simp[Op.operands])))
 |makeFunc fn first captured=>
  intro W h n w hS
  show ak P Γ W h n w (cond (mB fn) (.pure (.value (.func fn ⟨first.toList.map ρ⟩ ⟨captured.toList.map ρ⟩))) (.fail "makeFunc")) (do pure (.value (←Instr.makeFunc fn (first.map ρ') (captured.map ρ')))) ux
  cases hp:mB fn with
  |false=>exact ak.fail
  |true=>
   have h1:aH Γ (first.toList.map ρ) (first.toList.map ρ'):=aH.map _ fun x hx=>hρ x (by simp[Op.operands];exact .inl (by simpa using hx))
   have h2:aH Γ (captured.toList.map ρ) (captured.toList.map ρ'):=aH.map _ fun x hx=>hρ x (by simp[Op.operands];exact .inr (by simpa using hx))
   refine ak.ok hS (b := .value (.func fn (first.map ρ') (captured.map ρ'))) rfl ?_
   rw[qK,qK]
   exact .value _ _ (.func _ _ _ _ _ _ h1 h2 (.plain _ fun l e=>by subst e;simp[mB] at hp))
 |makeMap t r=>exact cZ (uw (oE fun y hy=>hρ y (by subst hy;simp[Op.operands])))
 |makeChan t s=>exact iC
 |makeSlice t l c=>exact cZ (rF (hρ l (by simp[Op.operands])) (hρ c (by simp[Op.operands])))
 |slice t x lo hi mx=>
  exact cZ (x7 (hρ x (by simp[Op.operands])) (oE fun y hy=>hρ y (by subst hy;simp[Op.operands])) (oE fun y hy=>hρ y (by subst hy;simp[Op.operands])) (oE fun y hy=>hρ y (by subst hy;simp[Op.operands])))
 |fieldAddr t x f=>exact cZ (ru (hρ x (by simp[Op.operands])))
 |field t x f=>exact cZ (xX (hρ x (by simp[Op.operands])))
 |indexAddr t x i=>exact cZ (ry (hρ x (by simp[Op.operands])) (hρ i (by simp[Op.operands])))
 |index t x i=>exact cZ (xY (hρ x (by simp[Op.operands])) (hρ i (by simp[Op.operands])))
 |lookup t x i ok=>exact cZ (vJ (hρ x (by simp[Op.operands])) (hρ i (by simp[Op.operands])))
 |mapUpdate t m k v=>exact yx (lI (hρ m (by simp[Op.operands])) (hρ k (by simp[Op.operands])) (hρ v (by simp[Op.operands])))
 |mapEntry t m k=>exact iC
 |entryStore t m s v=>exact iC
 |range t x=>exact cZ (yf (hρ x (by simp[Op.operands])))
 |next x b=>exact cZ (AQ (hρ x (by simp[Op.operands])))
 |entry x=>exact cZ (yj (hρ x (by simp[Op.operands])))
 |typeAssert x t a ok=>exact cZ (qx (hρ x (by simp[Op.operands])))
 |extract x i=>exact cZ (uu (hρ x (by simp[Op.operands])))
 |call c=>exact A4 fun x hx=>hρ x (by simpa [Op.operands] using hx)
 |go c=>exact iC
 |defer c=>exact iC
 |panic x=>exact iC
 |send a b=>exact iC
 |recv a b c=>exact iC
 |select a b=>exact iC
end
end Go.Am
