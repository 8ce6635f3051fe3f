/-
  The abstract machine: one operation, whole.
-/
import Derived.Test.YtfhmopghjoeamaaGreatAmP
set_option linter.unusedSimpArgs false
set_option linter.unusedVariables false
namespace Go.Am
open Go.RowKit
section
variable {P:Program} {Γ:aV} {W w:World} {h:PT aj} {n:Nat}
theorem oZ {α β:Type} (f:α→β) (a:Array α):a.map f=⟨a.toList.map f⟩:=by apply Array.ext';simp
theorem cC {m:AP Value} {e:Sem Value} (hm:dZ P Γ m e ay):dZ P Γ (m.bind fun x => .pure (.value x)) (do pure (.value (←e)):Sem Next) sY:=by
 intro W h n w hS
 refine ah.bind (hm W h n w hS) fun aI v v' hle hv=>?_
 exact fun W h n w hS=>ah.ok hS rfl (.value _ _ hv)
theorem xl {m:AP Unit} {e:Sem Unit} (hm:dZ P Γ m e fun _ _ _=>True):dZ P Γ (m.bind fun _ => .pure .skip) (do e;pure .skip:Sem Next) sY:=by
 intro W h n w hS
 refine ah.bind (hm W h n w hS) fun aI v v' hle hv=>?_
 exact fun W h n w hS=>ah.ok hS rfl .skip
theorem EJ {o:Option Value} {why:String} {e:Sem Value} (h:∀ v,o=some v→∀ w,∃ v',e.run P w = .ok v' w∧ay Γ v v'):dZ P Γ (.opt why o .pure:AP Value) e ay:=by
 intro W hh n w hS
 unfold AP.opt
 split
 ·rename_i v
  obtain⟨v',hr,hv⟩:=h v rfl w
  exact ah.ok hS hr hv
 ·exact ah.fail
theorem mC {ρ ρ':Operand→Value} {x:Option Operand} (h:∀ y,x=some y→ay Γ (ρ y) (ρ' y)):oQ Γ (x.map ρ) (x.map ρ'):=by
 cases x with
 |none=>exact .no
 |some y=>exact .yes _ _ (h y rfl)
theorem EK {ρ ρ':Operand→Value} {o:Oper} (hρ:∀ x∈o.op.operands,ay Γ (ρ x) (ρ' x)):dZ P Γ (iE P ρ o) (execOp ρ' o) sY:=by
 obtain⟨dst,op,type,pos,after,guard⟩:=o
 dsimp only at hρ
 have fR:∀ {why:String} {e:Sem Next},dZ P Γ (.fail why:AP aE) e sY:=fun W h n w hS=>ah.fail
 cases op with
 |move x=>exact fun W h n w hS=>ah.ok hS rfl (.value _ _ (hρ x (by simp[Op.operands])))
 |assign x=>exact fun W h n w hS=>ah.ok hS rfl (.value _ _ (hρ x (by simp[Op.operands])))
 |pick c a b=>
  intro W h n w hS
  have hc:=hρ c (by simp[Op.operands])
  have ha:=hρ a (by simp[Op.operands])
  have hb:=hρ b (by simp[Op.operands])
  show ah P Γ W h n w (match ρ c with | .bool t => .pure (.value (cond t (ρ a) (ρ b))) | _ => .fail "pick") (do pure (.value (if ←asBool (ρ' c) then ρ' a else ρ' b))) sY
  split
  ·rename_i t heq
   rw[heq] at hc
   generalize hv:ρ' c=cv at hc
   cases hc
   refine ah.ok hS (b := .value (if t then ρ' a else ρ' b)) (by simp[asBool]) (.value _ _ ?_)
   cases t
   ·exact hb
   ·exact ha
  ·exact ah.fail
 |alloc e=>exact cC wI
 |box e x=>exact cC (EB (hρ x (by simp[Op.operands])))
 |build t ps=>
  have hp:iM Γ (ps.toList.map fun p=>(p.1,ρ p.2)) (ps.toList.map fun p=>(p.1,ρ' p.2)):=iM.map _ fun p hp=>hρ p.2 (by
   simp only[Op.operands,List.mem_toArray,List.mem_map];exact⟨p,hp,rfl⟩)
  have:=cC (wM (P:=P) (t:=t) hp)
  rw[←oZ] at this
  exact this
 |buildSlice t k ps=>
  have hp:iM Γ (ps.toList.map fun p=>(p.1,ρ p.2)) (ps.toList.map fun p=>(p.1,ρ' p.2)):=iM.map _ fun p hp=>hρ p.2 (by
   simp only[Op.operands,List.mem_toArray,List.mem_map];exact⟨p,hp,rfl⟩)
  have:=cC (oO (P:=P) (t:=t) (len:=k) hp)
  rw[←oZ] at this
  exact this
 |insert t m k v=>exact xl (jR (hρ m (by simp[Op.operands])) (hρ k (by simp[Op.operands])) (hρ v (by simp[Op.operands])))
 |load t a=>exact cC (rE (hρ a (by simp[Op.operands])))
 |store t a v=>exact xl (wH (hρ a (by simp[Op.operands])) (hρ v (by simp[Op.operands])))
 |ready g=>exact fR
 |waits g=>exact fR
 |nilCheck x=>
  intro W h n w hS
  have hx:=hρ x (by simp[Op.operands])
  show ah P Γ W h n w ((ku (ρ x)).bind fun x => .pure (.value x)) (execOp ρ' ⟨dst,.nilCheck x,type,pos,after,guard⟩) sY
  unfold ku
  split
  ·rename_i a heq
   rw[heq] at hx
   generalize hv:ρ' x=xv at hx
   cases hx with
   |ptr _ a' ha=>exact ah.ok hS (b := .value (.pointer (some a'))) (by simp[execOp,hv]) (.value _ _ (.ptr _ _ ha))
  ·rename_i t v heq
   rw[heq] at hx
   generalize hv:ρ' x=xv at hx
   cases hx with
   |iface _ _ v' Mu=>exact ah.ok hS (b := .value (.iface t v')) (by simp[execOp,hv]) (.value _ _ (.iface _ _ _ Mu))
  ·rename_i f a b heq
   rw[heq] at hx
   generalize hv:ρ' x=xv at hx
   cases hx with
   |func _ fn' l1 MB l2 MC h1 h2 hp=>
    cases hp with
    |plain _ Iq=>exact ah.ok hS (b := .value (.func (.func f) ⟨MB⟩ ⟨MC⟩)) (by simp[execOp,hv]) (.value _ _ (.func _ _ _ _ _ _ h1 h2 (.plain _ Iq)))
  ·exact ah.fail
 |binOp op t x y ty=>exact cC (wO (hρ x (by simp[Op.operands])) (hρ y (by simp[Op.operands])))
 |unOp op t x=>exact cC (EJ fun v hv w=>let ⟨h1,h2⟩:=wP (P:=P) (Γ:=Γ) (hρ x (by simp[Op.operands])) hv w;⟨v,h1,h2⟩)
 |convert s d x=>exact cC (sS (hρ x (by simp[Op.operands])))
 |sliceToArrayPointer d x=>exact fR
 |makeInterface t x=>exact cC (lC (hρ x (by simp[Op.operands])))
 |makeFunc fn first captured=>
  intro W h n w hS
  show ah P Γ W h n w (cond (kB fn) (.pure (.value (.func fn ⟨first.toList.map ρ⟩ ⟨captured.toList.map ρ⟩))) (.fail "makeFunc")) (do pure (.value (←Instr.makeFunc fn (first.map ρ') (captured.map ρ')))) sY
  cases hp:kB fn with
  |false=>exact ah.fail
  |true=>
   have h1:aD Γ (first.toList.map ρ) (first.toList.map ρ'):=aD.map _ fun x hx=>hρ x (by simp[Op.operands];exact .inl (by simpa using hx))
   have h2:aD Γ (captured.toList.map ρ) (captured.toList.map ρ'):=aD.map _ fun x hx=>hρ x (by simp[Op.operands];exact .inr (by simpa using hx))
   refine ah.ok hS (b := .value (.func fn (first.map ρ') (captured.map ρ'))) rfl ?_
   rw[oZ,oZ]
   exact .value _ _ (.func _ _ _ _ _ _ h1 h2 (.plain _ fun l e=>by subst e;simp[kB] at hp))
 |makeMap t r=>exact cC (sW (mC fun y hy=>hρ y (by subst hy;simp[Op.operands])))
 |makeChan t s=>exact fR
 |makeSlice t l c=>exact cC (pX (hρ l (by simp[Op.operands])) (hρ c (by simp[Op.operands])))
 |slice t x lo hi mx=>
  exact cC (wR (hρ x (by simp[Op.operands])) (mC fun y hy=>hρ y (by subst hy;simp[Op.operands])) (mC fun y hy=>hρ y (by subst hy;simp[Op.operands])) (mC fun y hy=>hρ y (by subst hy;simp[Op.operands])))
 |fieldAddr t x f=>exact cC (pR (hρ x (by simp[Op.operands])))
 |field t x f=>exact cC (wJ (hρ x (by simp[Op.operands])))
 |indexAddr t x i=>exact cC (pS (hρ x (by simp[Op.operands])) (hρ i (by simp[Op.operands])))
 |index t x i=>exact cC (wK (hρ x (by simp[Op.operands])) (hρ i (by simp[Op.operands])))
 |lookup t x i ok=>exact cC (uD (hρ x (by simp[Op.operands])) (hρ i (by simp[Op.operands])))
 |mapUpdate t m k v=>exact xl (jR (hρ m (by simp[Op.operands])) (hρ k (by simp[Op.operands])) (hρ v (by simp[Op.operands])))
 |mapEntry t m k=>exact fR
 |entryStore t m s v=>exact fR
 |range t x=>exact cC (wW (hρ x (by simp[Op.operands])))
 |next x b=>exact cC (zw (hρ x (by simp[Op.operands])))
 |entry x=>exact cC (w9 (hρ x (by simp[Op.operands])))
 |typeAssert x t a ok=>exact cC (oP (hρ x (by simp[Op.operands])))
 |extract x i=>exact cC (sU (hρ x (by simp[Op.operands])))
 |call c=>exact zF fun x hx=>hρ x (by simpa [Op.operands] using hx)
 |go c=>exact fR
 |defer c=>exact fR
 |panic x=>exact fR
 |send a b=>exact fR
 |recv a b c=>exact fR
 |select a b=>exact fR
end
end Go.Am
