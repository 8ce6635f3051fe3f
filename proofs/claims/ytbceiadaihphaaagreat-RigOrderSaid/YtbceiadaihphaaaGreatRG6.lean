/-
  A part of the proof: contracts of inner functions.
-/
import Derived.Test.YtbceiadaihphaaaGreatRY5
import Derived.Test.YtbceiadaihphaaaGreatAmV3
set_option linter.unusedVariables false
set_option linter.unusedSimpArgs false
namespace Go.Proofs.YtbceiadaihphaaaGreat
open Go.Am
variable {e:gT} {ops:Ops} {xp ns:Nat} {aO guard fresh:e.σ→Nat→Nat→Prop}
abbrev Ev:=Nat×Nat×Nat×Nat
def Left (l:List Ev) (k t n:Nat):Prop:=∃ j w,k<j∧j<n∧l[j]? = some w∧w.2.2.1=2∧w.2.1=t
def l7 (l:List Ev) (i t fr:Nat) (y:Ev):Prop:=fr<i∧l[fr]? = some y∧y.2.1=t∧y.2.2.1=3∧∀ k z,fr<k→k<i→l[k]? = some z→z.2.1=t→z.2.2.1≠3
def Ends (l:List Ev):Prop:=∀ i x,l[i]? = some x→x.2.2.1=4→∃ fr y,l7 l i x.2.1 fr y∧y.2.2.2=x.2.2.2∧∀ k z,k<fr→l[k]? = some z→z.2.2.1=1→z.2.2.2<64→x.2.2.2.testBit z.2.2.2=true→Left l k z.2.1 i
structure EI (ns:Nat) (guard:e.σ→Nat→Nat→Prop) (ops:Ops) (r:RS e):Prop where
 done:Ends r.ev
 br:∀ k z,r.ev[k]? = some z→z.2.2.1=1→Left r.ev k z.2.1 r.ev.length∨(z.2.1<ns∧e.bB r.s z.2.1=true∧r.val z.2.1=z.2.2.2)
 wait:∀ u,u<ns→e.wt r.s u=true→r.bg u=true→∃ fr y,l7 r.ev r.ev.length u fr y∧y.2.2.2=r.setOf ops u∧∀ k z,k<fr→r.ev[k]? = some z→z.2.2.1=1→z.2.2.2<64→(r.setOf ops u).testBit z.2.2.2=true→Left r.ev k z.2.1 r.ev.length∨(z.2.1<ns∧e.bB r.s z.2.1=true∧r.val z.2.1=z.2.2.2∧guard r.s u z.2.1)
theorem vh {l:List Ev} {i:Nat} {x y:Ev} (h:l[i]? = some x):(l++[y])[i]? = some x:=by
 rw[List.getElem?_append_left (List.getElem?_eq_some_iff.1 h).1];exact h
theorem dI {l:List Ev} {i:Nat} {x y:Ev} (h:(l++[y])[i]? = some x):(i<l.length∧l[i]? = some x)∨(i=l.length∧x=y):=by
 by_cases c:i<l.length
 ·rw[List.getElem?_append_left c] at h;exact .inl ⟨c,h⟩
 ·rw[List.getElem?_append_right (by omega)] at h
  have hi:i-l.length=0:=by
   rcases Nat.eq_zero_or_pos (i-l.length) with q |q
   ·exact q
   ·rw[List.getElem?_eq_none (by simp;omega)] at h;simp at h
  rw[hi] at h
  simp at h
  exact .inr ⟨by omega,h.symm⟩
theorem Left.app {l:List Ev} {k t n:Nat} {y:Ev} (h:Left l k t n):Left (l++[y]) k t n:=by
 obtain⟨j,w,h1,h2,h3,h4⟩:=h
 exact⟨j,w,h1,h2,vh h3,h4⟩
theorem Left.le {l:List Ev} {k t n m:Nat} (h:Left l k t n) (hm:n≤m):Left l k t m:=by
 obtain⟨j,w,h1,h2,h3,h4⟩:=h
 exact⟨j,w,h1,by omega,h3,h4⟩
theorem Left.oT {l:List Ev} {k t:Nat} {y:Ev} (h:Left l k t l.length):Left (l++[y]) k t (l++[y]).length:=h.app.le (by rw[List.length_append];omega)
theorem l7.app {l:List Ev} {i t fr:Nat} {y x:Ev} (h:l7 l i t fr y) (hi:i≤l.length):l7 (l++[x]) i t fr y:=by
 obtain⟨h1,h2,h3,h4,h5⟩:=h
 refine⟨h1,vh h2,h3,h4,fun k z a b c=>?_⟩
 rcases dI c with ⟨_,c⟩ | ⟨c,_⟩
 ·exact h5 k z a b c
 ·omega
theorem l7.oT {l:List Ev} {t fr:Nat} {y x:Ev} (h:l7 l l.length t fr y) (hx:x.2.1=t→x.2.2.1≠3):l7 (l++[x]) (l++[x]).length t fr y:=by
 obtain⟨h1,h2,h3,h4,h5⟩:=h
 refine⟨by rw[List.length_append];omega,vh h2,h3,h4,fun k z a b c=>?_⟩
 rcases dI c with ⟨c1,c⟩ | ⟨_,rfl⟩
 ·exact h5 k z a c1 c
 ·exact hx
theorem Ends.app {l:List Ev} {x:Ev} (h:Ends l) (hx:x.2.2.1=4→∃ fr y,l7 l l.length x.2.1 fr y∧y.2.2.2=x.2.2.2∧∀ k z,k<fr→l[k]? = some z→z.2.2.1=1→z.2.2.2<64→x.2.2.2.testBit z.2.2.2=true→Left l k z.2.1 l.length):Ends (l++[x]):=by
 intro i y hi h4
 rcases dI hi with ⟨c,hi⟩ | ⟨rfl,rfl⟩
 ·obtain⟨fr,q,a,b,d⟩:=h i y hi h4
  refine⟨fr,q,a.app (by omega),b,fun k z hk hz h1 h2 h3=>?_⟩
  rcases dI hz with ⟨_,hz⟩ | ⟨rfl,_⟩
  ·exact(d k z hk hz h1 h2 h3).app
  ·have:=a.1;omega
 ·obtain⟨fr,q,a,b,d⟩:=hx h4
  refine⟨fr,q,a.app (Nat.le_refl _),b,fun k z hk hz h1 h2 h3=>?_⟩
  rcases dI hz with ⟨_,hz⟩ | ⟨rfl,_⟩
  ·exact(d k z hk hz h1 h2 h3).app
  ·have:=a.1;omega
theorem EI.up {r:RS e} (h:EI ns guard ops r):EI ns guard ops r.up:=⟨h.done,h.br,h.wait⟩
theorem EI.ct {GM:e.σ→Nat→Nat→Prop} {ng:Nat} (G:e.fq ng GM guard) {r:RS e} {t:Nat} (h:EI ns guard ops r) (h1:e.br r.s t=false) (h2:e.wt r.s t=false):EI ns guard ops (RS.ct ops xp r t):=by
 unfold RS.ct
 split
 ·exact⟨h.done,h.br,h.wait⟩
 ·rename_i kd v ho
  split
  ·rename_i q
   obtain⟨f1,f2,f3⟩:=G.fits.enter r.s t v q.2.2
   refine⟨h.done,fun k z hk hz=>?_,fun u hu hw hb=>?_⟩
   ·rcases h.br k z hk hz with c | ⟨c1,c2,c3⟩
    ·exact .inl c
    ·have ne:z.2.1≠t:=fun q2=>by rw[q2,q.2.2] at c2;simp at c2
     exact .inr ⟨c1,(f2 _).trans c2,(az ne).trans c3⟩
   ·have hw':e.wt (e.enter r.s t v) u=true:=hw
    rw[f3] at hw'
    obtain⟨fr,y,a,b,c⟩:=h.wait u hu hw' hb
    refine⟨fr,y,a,b,fun k z hk hz q1 q2 q3=>?_⟩
    rcases c k z hk hz q1 q2 q3 with c | ⟨c1,c2,c3,c4⟩
    ·exact .inl c
    ·have ne:z.2.1≠t:=fun q2=>by rw[q2,q.2.2] at c2;simp at c2
     exact .inr ⟨c1,(f2 _).trans c2,(az ne).trans c3,G.E0 _ _ _ _ _ hw' c4 c2 ne⟩
  ·split
   ·exact⟨h.done,h.br,h.wait⟩
   ·split
    ·rename_i q
     obtain⟨f1,f2,f3⟩:=G.fits.wait r.s t v
     refine⟨h.done,fun k z hk hz=>?_,fun u hu hw hb=>?_⟩
     ·rcases h.br k z hk hz with c | ⟨c1,c2,c3⟩
      ·exact .inl c
      ·exact .inr ⟨c1,(f2 _).trans c2,c3⟩
     ·have ne:u≠t:=fun q=>by
       have hb':fs r.bg t false u=true:=hb
       rw[q,aA] at hb';simp at hb'
      have hw':e.wt (e.wait r.s t v) u=true:=hw
      rw[f3,if_neg ne] at hw'
      have hb':fs r.bg t false u=true:=hb
      rw[az ne] at hb'
      obtain⟨fr,y,a,b,c⟩:=h.wait u hu hw' hb'
      refine⟨fr,y,a,b,fun k z hk hz q1 q2 q3=>?_⟩
      rcases c k z hk hz q1 q2 q3 with c | ⟨c1,c2,c3,c4⟩
      ·exact .inl c
      ·exact .inr ⟨c1,(f2 _).trans c2,c3,G.Kg _ _ _ _ _ hw' c4 c2 ne⟩
    ·exact⟨h.done,h.br,h.wait⟩
theorem EI.idx {r:RS e} {t x:Nat} (h:EI ns guard ops r) (h2:e.wt r.s t=false):EI ns guard ops ({ r with idx:=fs r.idx t x }:RS e):=by
 refine⟨h.done,h.br,fun u hu hw hb=>?_⟩
 have ne:u≠t:=fun q=>by
  have hw':e.wt r.s u=true:=hw
  rw[q,h2] at hw';simp at hw'
 have hs:RS.setOf ops ({ r with idx:=fs r.idx t x }:RS e) u=r.setOf ops u:=by
  unfold RS.setOf
  simp only[az ne]
 rw[hs]
 exact h.wait u hu hw hb
theorem EI.mid (G:e.fq ns aO guard) (Fe:e.gC ns aO guard fresh) {r:RS e} {t:Nat} (ok:∀ u,u<ns→∀ o∈ops u,o.2<2^64) (h:EI ns guard ops r) (I:gQ ops xp aO fresh ns r) (ht:t<ns) (hx:xp≠0∧xp≠1) (act:r.d_ t):EI ns guard ops (r.mid ops t):=by
 unfold RS.mid
 cases I.at_ t ht with
 |over a0 a1 a2 a3=>rcases act with q |q |q<;>simp_all
 |br v a0 a1 a2 a3 a4 a5=>
  rw[if_pos a2]
  have hn:=((I.one t).1 a2).1
  obtain⟨f1,f2,f3⟩:=G.fits.aP r.s t a2 hn
  have vi:∀ u,e.bB r.s u=true→u≠t∧e.bB (e.aP r.s t) u=true:=fun u hu=>by
   have ne:u≠t:=fun q=>by rw[q,hn] at hu;simp at hu
   exact⟨ne,by rw[f2,if_neg ne];exact hu⟩
  cases hd:e.br (e.aP r.s t) t with
  |true=>
   refine⟨by simpa using h.done,fun k z hk hz=>?_,fun u hu hw hb=>?_⟩
   ·simp only[if_true] at hk ⊢
    rcases h.br k z hk hz with c | ⟨c1,c2,c3⟩
    ·exact .inl c
    ·exact .inr ⟨c1,(vi _ c2).2,c3⟩
   ·have hw':e.wt (e.aP r.s t) u=true:=hw
    rw[f3] at hw'
    obtain⟨fr,y,a,b,c⟩:=h.wait u hu hw' hb
    simp only[if_true]
    refine⟨fr,y,a,b,fun k z hk hz q1 q2 q3=>?_⟩
    rcases c k z hk hz q1 q2 q3 with c | ⟨c1,c2,c3,c4⟩
    ·exact .inl c
    ·exact .inr ⟨c1,(vi _ c2).2,c3,G.E1 _ _ _ _ hw' c4 c2 (vi _ c2).1⟩
  |false=>
   have IW:e.bB (e.aP r.s t) t=true:=by rw[f2,if_pos rfl,hd];rfl
   refine⟨?_,fun k z hk hz=>?_,fun u hu hw hb=>?_⟩
   ·simp only[Bool.false_eq_true,if_false]
    exact h.done.app fun c=>by simp at c
   ·simp only[Bool.false_eq_true,if_false] at hk ⊢
    rcases dI hk with ⟨_,hk⟩ | ⟨_,rfl⟩
    ·rcases h.br k z hk hz with c | ⟨c1,c2,c3⟩
     ·exact .inl c.oT
     ·exact .inr ⟨c1,(vi _ c2).2,c3⟩
    ·exact .inr ⟨ht,IW,rfl⟩
   ·have hw':e.wt (e.aP r.s t) u=true:=hw
    rw[f3] at hw'
    obtain⟨fr,y,a,b,c⟩:=h.wait u hu hw' hb
    simp only[Bool.false_eq_true,if_false]
    refine⟨fr,y,a.oT (by simp),b,fun k z hk hz q1 q2 q3=>?_⟩
    have hk2:k<r.ev.length:=by have:=a.1;omega
    rcases dI hz with ⟨_,hz⟩ | ⟨q,_⟩
    ·rcases c k z hk hz q1 q2 q3 with c | ⟨c1,c2,c3,c4⟩
     ·exact .inl c.oT
     ·exact .inr ⟨c1,(vi _ c2).2,c3,G.E1 _ _ _ _ hw' c4 c2 (vi _ c2).1⟩
    ·omega
 |exit a0 a1 a2 a3 a4=>
  rw[if_neg (by rw[a1];simp),if_neg (by rw[a2];simp),if_neg (by rw[a3];exact hx.2)]
  obtain⟨f1,f2,f3⟩:=G.fits.exit r.s t a4
  have hL:∀ k,k<r.ev.length→Left (r.ev++[(r.n,t,2,r.val t)]) k t (r.ev++[(r.n,t,2,r.val t)]).length:=fun k hk=>⟨r.ev.length,(r.n,t,2,r.val t),hk,by simp,by simp,rfl,rfl⟩
  have vi:∀ u,u≠t→e.bB r.s u=true→e.bB (e.exit r.s t) u=true:=fun u ne hu=>by rw[f2,if_neg ne];exact hu
  refine⟨h.done.app fun c=>by simp at c,fun k z hk hz=>?_,fun u hu hw hb=>?_⟩
  ·rcases dI hk with ⟨hl,hk⟩ | ⟨_,rfl⟩
   ·by_cases ne:z.2.1=t
    ·left;rw[ne];exact hL k hl
    ·rcases h.br k z hk hz with c | ⟨c1,c2,c3⟩
     ·exact .inl c.oT
     ·exact .inr ⟨c1,vi _ ne c2,c3⟩
   ·simp at hz
  ·have hw':e.wt (e.exit r.s t) u=true:=hw
   rw[f3] at hw'
   obtain⟨fr,y,a,b,c⟩:=h.wait u hu hw' hb
   refine⟨fr,y,a.oT (by simp),b,fun k z hk hz q1 q2 q3=>?_⟩
   have hk2:k<r.ev.length:=by have:=a.1;omega
   rcases dI hz with ⟨_,hz⟩ | ⟨q,_⟩
   ·by_cases ne:z.2.1=t
    ·left;rw[ne];exact hL k hk2
    ·rcases c k z hk hz q1 q2 q3 with c | ⟨c1,c2,c3,c4⟩
     ·exact .inl c.oT
     ·exact .inr ⟨c1,vi _ ne c2,c3,G.Kf _ _ _ _ hw' c4 c2 ne⟩
   ·omega
 |refuse o a0 a1 a2 a3=>
  rw[if_neg (by rw[a1];simp),if_neg (by rw[a2];simp),if_pos a3]
  exact h
 |wait v a0 a1 a2 a3 a4=>
  rw[if_neg (by rw[a2];simp),if_pos a3]
  obtain⟨f1,f2,f3⟩:=G.fits.aQ r.s t
  have hs:r.setOf ops t=v:=by unfold RS.setOf;rw[a0]
  have hv:v<2^64:=ok t ht _ (List.mem_of_getElem? a0)
  have dr:∀ (bg:Nat→Bool) (ev:List Ev),RS.setOf ops ({ r with s:=e.aQ r.s t,bg:=bg,ev:=ev }:RS e)=r.setOf ops:=fun _ _=>rfl
  obtain⟨l,hl⟩:∃ l,(if r.bg t=true then r.ev else r.ev++[(r.n,t,3,r.setOf ops t)])=l:=⟨_,rfl⟩
  have d1:Ends l:=by
   rw[←hl];split
   ·exact h.done
   ·exact h.done.app fun c=>by simp at c
  have e1:∀ k z,l[k]? = some z→z.2.2.1=1→Left l k z.2.1 l.length∨(z.2.1<ns∧e.bB r.s z.2.1=true∧r.val z.2.1=z.2.2.2):=by
   rw[←hl];split
   ·exact h.br
   ·intro k z hk hz
    rcases dI hk with ⟨_,hk⟩ | ⟨_,rfl⟩
    ·exact(h.br k z hk hz).imp Left.oT id
    ·simp at hz
  have w1:∀ u,u≠t→u<ns→e.wt r.s u=true→r.bg u=true→∃ fr y,l7 l l.length u fr y∧y.2.2.2=r.setOf ops u∧∀ k z,k<fr→l[k]? = some z→z.2.2.1=1→z.2.2.2<64→(r.setOf ops u).testBit z.2.2.2=true→Left l k z.2.1 l.length∨(z.2.1<ns∧e.bB r.s z.2.1=true∧r.val z.2.1=z.2.2.2∧guard r.s u z.2.1):=by
   rw[←hl];split
   ·exact fun u _=>h.wait u
   ·intro u ne hu hw hb
    obtain⟨fr,y,a,b,c⟩:=h.wait u hu hw hb
    refine⟨fr,y,a.oT (fun q=>absurd q.symm ne),b,fun k z hk hz q1 q2 q3=>?_⟩
    have hk2:k<r.ev.length:=by have:=a.1;omega
    rcases dI hz with ⟨_,hz⟩ | ⟨q,_⟩
    ·exact(c k z hk hz q1 q2 q3).imp Left.oT id
    ·omega
  have t1:∃ fr y,l7 l l.length t fr y∧y.2.2.2=v∧∀ k z,k<fr→l[k]? = some z→z.2.2.1=1→z.2.2.2<64→v.testBit z.2.2.2=true→Left l k z.2.1 l.length∨(z.2.1<ns∧e.bB r.s z.2.1=true∧r.val z.2.1=z.2.2.2∧guard r.s t z.2.1):=by
   rw[←hl];split
   ·rename_i hb
    obtain⟨fr,y,a,b,c⟩:=h.wait t ht a3 hb
    rw[hs] at b c
    exact⟨fr,y,a,b,c⟩
   ·rename_i hb
    have hb':r.bg t=false:=by simpa using hb
    have fr:=I.fr t v ht a3 a0 hb'
    refine⟨r.ev.length,(r.n,t,3,r.setOf ops t),⟨by simp,by simp,rfl,rfl,fun k z q1 q2 q3=>by rw[List.length_append] at q2;simp at q2;omega⟩,hs,fun k z hk hz q1 q2 q3=>?_⟩
    rcases dI hz with ⟨_,hz⟩ | ⟨q,_⟩
    ·rcases h.br k z hz q1 with c | ⟨c1,c2,c3⟩
     ·exact .inl c.oT
     ·have Gv:=I.val z.2.1 (.inr c2)
      rw[c3] at Gv
      have he:e.br r.s z.2.1=false:=by
       cases hq:e.br r.s z.2.1 with
       |false=>rfl
       |true=>have:=((I.one z.2.1).1 hq).1;rw[c2] at this;simp at this
      exact .inr ⟨c1,c2,c3,Fe.guard _ _ _ _ _ fr c2 he c1 Gv.2 q2 hv q3⟩
    ·omega
  rw[hl]
  have look:∀ z:Ev,e.bB r.s z.2.1=true→z.2.1<ns→r.val z.2.1=z.2.2.2→guard r.s t z.2.1→e.wt (e.aQ r.s t) t=true∧guard (e.aQ r.s t) t z.2.1:=fun z q1 q2 q3 q4=>by
   have Gv:=I.val z.2.1 (.inr q1)
   exact G.Kh _ _ _ _ a3 q4 q1 q2 Gv.2 Gv.1
  clear hl
  cases hd:e.wt (e.aQ r.s t) t with
  |true=>
   simp only[if_true,List.append_nil]
   refine⟨d1,fun k z hk hz=>?_,fun u hu hw hb=>?_⟩
   ·rcases e1 k z hk hz with c | ⟨c1,c2,c3⟩
    ·exact .inl c
    ·exact .inr ⟨c1,(f2 _).trans c2,c3⟩
   ·by_cases ne:u=t
    ·subst ne
     obtain⟨fr,y,a,b,c⟩:=t1
     refine⟨fr,y,a,b.trans hs.symm,fun k z hk hz q1 q2 q3=>?_⟩
     have Zp:v.testBit z.2.2.2=true:=by rw[←hs];exact q3
     rcases c k z hk hz q1 q2 Zp with c | ⟨c1,c2,c3,c4⟩
     ·exact .inl c
     ·exact .inr ⟨c1,(f2 _).trans c2,c3,(look z c2 c1 c3 c4).2⟩
    ·have hw':e.wt (e.aQ r.s t) u=true:=hw
     rw[f3 u ne] at hw'
     have hb':fs r.bg t true u=true:=hb
     rw[az ne] at hb'
     obtain⟨fr,y,a,b,c⟩:=w1 u ne hu hw' hb'
     refine⟨fr,y,a,b,fun k z hk hz q1 q2 q3=>?_⟩
     rcases c k z hk hz q1 q2 q3 with c | ⟨c1,c2,c3,c4⟩
     ·exact .inl c
     ·exact .inr ⟨c1,(f2 _).trans c2,c3,G.zj _ _ _ _ hw' c4 c2 c1 a3 ne⟩
  |false=>
   simp only[Bool.false_eq_true,if_false]
   refine⟨d1.app fun _=>?_,fun k z hk hz=>?_,fun u hu hw hb=>?_⟩
   ·obtain⟨fr,y,a,b,c⟩:=t1
    refine⟨fr,y,a,b.trans hs.symm,fun k z hk hz q1 q2 q3=>?_⟩
    have Zp:v.testBit z.2.2.2=true:=by rw[←hs];exact q3
    rcases c k z hk hz q1 q2 Zp with c | ⟨c1,c2,c3,c4⟩
    ·exact c
    ·have:=(look z c2 c1 c3 c4).1
     rw[hd] at this;simp at this
   ·rcases dI hk with ⟨_,hk⟩ | ⟨_,rfl⟩
    ·rcases e1 k z hk hz with c | ⟨c1,c2,c3⟩
     ·exact .inl c.oT
     ·exact .inr ⟨c1,(f2 _).trans c2,c3⟩
    ·simp at hz
   ·have ne:u≠t:=fun q=>by
     have hw':e.wt (e.aQ r.s t) u=true:=hw
     rw[q,hd] at hw';simp at hw'
    have hw':e.wt (e.aQ r.s t) u=true:=hw
    rw[f3 u ne] at hw'
    have hb':fs r.bg t true u=true:=hb
    rw[az ne] at hb'
    obtain⟨fr,y,a,b,c⟩:=w1 u ne hu hw' hb'
    refine⟨fr,y,a.oT (by simp),b,fun k z hk hz q1 q2 q3=>?_⟩
    have hk2:k<l.length:=by have:=a.1;omega
    rcases dI hz with ⟨_,hz⟩ | ⟨q,_⟩
    ·rcases c k z hk hz q1 q2 q3 with c | ⟨c1,c2,c3,c4⟩
     ·exact .inl c.oT
     ·exact .inr ⟨c1,(f2 _).trans c2,c3,G.zj _ _ _ _ hw' c4 c2 c1 a3 ne⟩
    ·omega
theorem EI.pick (G:e.fq ns aO guard) (Fe:e.gC ns aO guard fresh) {r:RS e} {t:Nat} (ok:∀ u,u<ns→∀ o∈ops u,o.2<2^64) (h:EI ns guard ops r) (I:gQ ops xp aO fresh ns r) (ht:t<ns) (hx:xp≠0∧xp≠1):EI ns guard ops (RS.pick ops xp r t):=by
 unfold RS.pick
 split
 ·rename_i act
  have hm:=h.mid G Fe ok I ht hx act
  rw[l6 act]
  split
  ·rename_i hd
   obtain⟨i1,i2,i3,i4⟩:=sM (ops:=ops) G.fits I.one (I.at_ t ht) act hd
   exact(EI.ct G (hm.idx (x:=(r.mid ops t).idx t+1) i2) i1 i2).up
  ·exact hm.up
 ·exact h.up
theorem EI.zero {s0:e.σ} (idle:∀ t,e.br s0 t=false∧e.wt s0 t=false∧e.bB s0 t=false):EI ns guard ops (RS.zero s0):=⟨fun i x h=>by simp[RS.zero] at h,fun k z h=>by simp[RS.zero] at h,fun u _ hw=>by
 rw[show e.wt (RS.zero s0).s u=false from (idle u).2.1] at hw;simp at hw⟩
theorem EI.eK {ng:Nat} (G:e.fq ng aO guard) (Fe:e.gC ng aO guard fresh) {s0:e.σ} (idle:∀ t,e.br s0 t=false∧e.wt s0 t=false∧e.bB s0 t=false):∀ i,EI ns guard ops (RS.eK ops xp (RS.zero s0) i)
 |0=>EI.zero idle
 |i+1=>by
  obtain⟨I,q1,q2,q3,q4,q5⟩:=gu G Fe idle (ops:=ops) (xp:=xp) i
  exact EI.ct G (EI.eK G Fe idle i) (q1 i (Nat.le_refl _)).1 (q1 i (Nat.le_refl _)).2
end Go.Proofs.YtbceiadaihphaaaGreat
namespace Go.Proofs.YtbceiadaihphaaaGreat
open Go.Am
variable {e:gT} {ex:eG e} {rep:e.σ→List Value→(Rl→Nat)→(Rl→Option aj)→Prop} {aO guard fresh:e.σ→Nat→Nat→Prop} {kd nb nw xp:Nat} {s0:e.σ}
abbrev xj:List Ck:=[.int .u8,.int .u64]
theorem dV.bound {ks:List Ck} {h:PT aj} {q n:Nat} {s:Value} {As:List (List (List Int))} (H:dV ks h q s As) (w:iG h n) (hA:0<As.length):q+As.length<n:=by
 rcases H with ⟨-,rfl⟩ | ⟨cap,vs,-,-,-,-,-,e6⟩
 ·simp at hA
 ·obtain⟨A,xk⟩:∃ A,As[As.length-1]? = some A:=⟨As[As.length-1],List.getElem?_eq_getElem (by omega)⟩
  have:=w.lt (e6 _ A xk).2.2.1
  omega
def bX (A:List (List Int)):List (Nat×Nat):=A.map fun x=>((x[0]?.getD 0).toNat,(x[1]?.getD 0).toNat)
def opsOf (As:List (List (List Int))):Ops:=fun i=>bX (As[i]?.getD [])
theorem oU:∀ {A:List (List Int)},fC xj A→cH xj A=nZ (bX A)∧∀ o∈bX A,o.1<256∧o.2<2^64
 | [],_=>⟨rfl,fun o ho=>by simp[bX] at ho⟩
 |x::A,h=>by
  obtain⟨h1,h2⟩:=oU h.tail
  obtain⟨hl,hw⟩:=h x (by simp)
  match x,hl with
  | [a,b],_=>
   obtain⟨wa,wb,-⟩:=hw
   have ⟨a0,a1⟩:=wN wa
   have ⟨b0,b1⟩:=BM wb
   have e1:cH xj ([a,b]::A)=[.int .u8 a,.int .u64 b]++cH xj A:=rfl
   have e2:nZ (bX ([a,b]::A))=[U8 a.toNat,U6 b.toNat]++nZ (bX A):=rfl
   refine⟨?_,fun o ho=>?_⟩
   ·rw[e1,e2,h1,Int.toNat_of_nonneg a0,Int.toNat_of_nonneg b0]
   ·have ho':o=(a.toNat,b.toNat)∨o∈bX A:=List.mem_cons.1 ho
    rcases ho' with rfl |ho'
    ·exact⟨by show a.toNat<256;omega,by show b.toNat<_;omega⟩
    ·exact h2 o ho'
theorem l9 {A:List (List Int)}:(bX A).length=A.length:=by simp[bX]
set_option maxRecDepth 100000 in
set_option maxHeartbeats 4000000 in
theorem zK {h:PT aj} {n q:Nat} {ps s:Value} {As:List (List (List Int))} {x:Option Addr} {pk cap:Nat} (hP:dV xj h q ps As) (hs:s = .slice x pk cap):
  b9 Tryz.prog OP 7 [ps,s] h n fun v h' n'=>∃ b,v = .bool b∧h'=h∧n'=n∧(b=true→As.length≤8∧pk≤500∧∀ (i:Nat) (A:List (List Int)),As[i]? = some A→A.length≤30):=by
 subst hs
 rcases hP with ⟨rfl,rfl⟩ | ⟨Zq,vs,rfl,e2,e3,e4,e5,e6⟩
 ·by_cases c:500<pk
  ·have c':(500:Int)<pk:=by omega
   refine aC (N:=26) Tryz.func7 rfl rfl fun z hP hO hro hN hQ=>?_
   repeat' first |simp(disch:=first |omega |assumption) only[go_sem, *] | (apply xs<;>intro _)<;>try omega
   exact⟨_,rfl,fun c=>by simp at c⟩
  ·have c': ¬ (500:Int)<pk:=by omega
   refine aC (N:=26) Tryz.func7 rfl rfl fun z hP hO hro hN hQ=>?_
   repeat' first |simp(disch:=first |omega |assumption) only[go_sem, *] | (apply xs<;>intro _)<;>try omega
   rw[cE]
   repeat' first |simp(disch:=first |omega |assumption) only[go_sem, *] | (apply xs<;>intro _)<;>try omega
   exact⟨_,rfl,fun _=>⟨by omega,fun i A h=>h.elim⟩⟩
 ·by_cases c0:8<As.length
  ·have c':(8:Int)<As.length:=by omega
   refine aC (N:=26) Tryz.func7 rfl rfl fun z hP hO hro hN hQ=>?_
   repeat' first |simp(disch:=first |omega |assumption) only[go_sem, *] | (apply xs<;>intro _)<;>try omega
   exact⟨_,rfl,fun c=>by simp at c⟩
  have c0': ¬ (8:Int)<As.length:=by omega
  by_cases c:500<pk
  ·have c':(500:Int)<pk:=by omega
   refine aC (N:=26) Tryz.func7 rfl rfl fun z hP hO hro hN hQ=>?_
   repeat' first |simp(disch:=first |omega |assumption) only[go_sem, *] | (apply xs<;>intro _)<;>try omega
   exact⟨_,rfl,fun c=>by simp at c⟩
  have c': ¬ (500:Int)<pk:=by omega
  refine aC (N:=26) Tryz.func7 rfl rfl fun z hP hO hro hN hQ=>?_
  repeat' first |simp(disch:=first |omega |assumption) only[go_sem, *] | (apply xs<;>intro _)<;>try omega
  refine dG (fun t m h' n'=>∃ i:Nat,i≤As.length∧t=As.length-i∧m.n=26∧m.gD=[]∧m.get 0 = .slice (some ⟨q,0,none⟩) As.length Zq∧m.get 5=I6 i∧h'=h∧n'=n∧∀ (j:Nat) (A:List (List Int)),j<i→As[j]? = some A→A.length≤30) As.length ?_ ?_
  ·refine⟨0,by omega,by omega,?_⟩
   simp(disch:=first |omega |assumption) only[go_sem, *]
   exact fun j A hj=>absurd hj (by omega)
  ·rintro t m h' n' ih ⟨i,hi,rfl,m1,m2,m3,m4,rfl,rfl,hsh⟩
   rcases Nat.lt_or_ge i As.length with hlt |hge
   ·have e7:(i:Int)<As.length:=by omega
    have qt:((i+1:Nat):Int)=(i:Int)+1:=by omega
    obtain⟨A,hA⟩:∃ A,As[i]? = some A:=⟨As[i],List.getElem?_eq_getElem hlt⟩
    obtain⟨-,-,-,h4⟩:=e6 i A hA
    obtain⟨w,cp,hw⟩:∃ w cp,vs[i]? = some (.slice w A.length cp):=by
     rcases h4 with ⟨h4,rfl⟩ | ⟨cp,h4,-⟩
     ·exact⟨_,_,h4⟩
     ·exact⟨_,_,h4⟩
    clear h4 e6
    by_cases c3:30<A.length
    ·have c3':(30:Int)<A.length:=by omega
     clear hA hsh ih
     repeat' first |simp(disch:=first |omega |assumption) only[go_sem, *] | (apply xs<;>intro _)<;>try omega
     exact⟨_,rfl,fun c=>by simp at c⟩
    ·have c3': ¬ (30:Int)<A.length:=by omega
     have Zr:∀ (j:Nat) (B:List (List Int)),j<i+1→As[j]? = some B→B.length≤30:=fun j B hj hB=>by
      by_cases q:j=i
      ·subst q;rw[hA] at hB;obtain rfl:=Option.some.inj hB;omega
      ·exact hsh j B (by omega) hB
     clear hA hsh
     repeat' first |simp(disch:=first |omega |assumption) only[go_sem, *] | (apply xs<;>intro _)<;>try omega
     refine ih (As.length-(i+1)) _ _ _ (by omega) ⟨i+1,by omega,rfl,?_⟩
     rw[qt]
     clear ih
     simp(disch:=first |omega |assumption) only[go_sem, *]
     exact Zr
   ·have e7: ¬ (i:Int)<As.length:=by omega
    have hall:∀ (j:Nat) (A:List (List Int)),As[j]? = some A→A.length≤30:=fun j A hA=>hsh j A (by have:=(List.getElem?_eq_some_iff.1 hA).1;omega) hA
    clear hsh ih e6
    repeat' first |simp(disch:=first |omega |assumption) only[go_sem, *] | (apply xs<;>intro _)<;>try omega
    exact⟨_,rfl,fun _=>⟨by omega,by omega,hall⟩⟩
end Go.Proofs.YtbceiadaihphaaaGreat
namespace Go.Proofs.YtbceiadaihphaaaGreat
open Go.Am
variable {e:gT} {ex:eG e} {rep:e.σ→List Value→(Rl→Nat)→(Rl→Option aj)→Prop} {aO guard fresh:e.σ→Nat→Nat→Prop} {kd nb nw xp:Nat} {s0:e.σ}
structure Pa (d:Rl→Nat) (C:Rl→Option aj) (ps:Value) (As:List (List (List Int))):Prop where
 out:∃ cap vs,ps = .slice (some ⟨d (64,0),0,none⟩) As.length cap∧C (64,0)=qC vs true∧vs.length=As.length∧
  ∀ (i:Nat) (A:List (List Int)),As[i]? = some A→fC xj A∧C (65,i)=qC (cH xj A) true∧((vs[i]? = some (.slice none 0 0)∧A=[])∨∃ cap',vs[i]? = some (.slice (some ⟨d (65,i),0,none⟩) A.length cap'))
def CV (d:Rl→Nat) (ops:Ops) (j:Nat):Value:=if ops j=[] then .slice none 0 0 else .slice (some ⟨d (61,j),0,none⟩) (ops j).length (aB+2)
def sU (d:Rl→Nat) (ops:Ops) (i:Nat):List Value:=(List.range i).map (CV d ops)
def AB (d:Rl→Nat) (i:Nat):Value:=if i=0 then .slice none 0 0 else .slice (some ⟨d (60,0),0,none⟩) i (aB+1)
theorem FI {d d2:Rl→Nat} {ops:Ops} {i:Nat} {L:List Value} {v:Value} (hL:L=sU d ops i) (hd:∀ j,j<i→d2 (61,j)=d (61,j)) (hv:v=CV d2 ops i):L++[v]=sU d2 ops (i+1):=by
 rw[hL,hv]
 unfold sU
 rw[List.range_succ,List.map_append]
 congr 1
 refine List.map_congr_left fun j hj=>?_
 unfold CV
 rw[hd j (by simpa using hj)]
structure Cq (d0:Rl→Nat) (C0:Rl→Option aj) (ops:Ops) (i:Nat) (d:Rl→Nat) (C:Rl→Option aj):Prop where
 out:i≠0→C (60,0)=row (sU d ops i)
 ops:∀ t,t<i→ops t≠[]→C (61,t)=row (nZ (ops t))
 ep:∀ a b,a≠60→a≠61→d (a,b)=d0 (a,b)∧C (a,b)=C0 (a,b)
theorem Cq.next {d0 d d2:Rl→Nat} {C0 C C2:Rl→Option aj} {ops:Ops} {i:Nat} (P:Cq d0 C0 ops i d C) (L:List Value) (v:Value) (hL:L=sU d ops i) (hv:v=CV d2 ops i) (ho:ops i≠[]→C2 (61,i)=row (nZ (ops i))) (hx:∀ s,s≠(60,0)→s≠(61,i)→d2 s=d s∧C2 s=C s) (ht:C2 (60,0)=row (L++[v])):Cq d0 C0 ops (i+1) d2 C2:=by
 have tA:∀ t,t<i→d2 (61,t)=d (61,t)∧C2 (61,t)=C (61,t):=fun t h=>hx _ (by simp) (by simp;omega)
 refine⟨fun _=>?_,fun t h1 h2=>?_,fun a b c1 c2=>?_⟩
 ·rw[ht,FI hL (fun t h=>(tA t h).1) hv]
 ·by_cases c:t=i
  ·subst c;exact ho h2
  ·exact(tA t (by omega)).2.trans (P.ops t (by omega) h2)
 ·obtain⟨q1,q2⟩:=hx (a,b) (by simp[c1]) (by simp[c2])
  obtain⟨q3,q4⟩:=P.ep a b c1 c2
  exact⟨q1.trans q3,q2.trans q4⟩
set_option maxRecDepth 100000 in
set_option maxHeartbeats 8000000 in
theorem Sh {h:PT aj} {n:Nat} {d:Rl→Nat} {C:Rl→Option aj} {ps:Value} {As:List (List (List Int))} (S:St h n d C) (P:Pa d C ps As) (hA:0<As.length∧As.length≤8) (xk:∀ (i:Nat) (A:List (List Int)),As[i]? = some A→A.length≤30):
  b9 Tryz.prog OP 23 [ps] h n fun v h' n'=>∃ d' C',St h' n' d' C'∧FF d' C' v (opsOf As) As.length∧∀ a b,a≠60→a≠61→d' (a,b)=d (a,b)∧C' (a,b)=C (a,b):=by
 obtain⟨cap,vs,rfl,Al,hvl,hvs⟩:=P.out
 obtain⟨O1,Ku⟩:=hA
 refine aC (N:=20) Tryz.func23 rfl rfl fun z hP hO hro hN hQ=>?_
 repeat' first |simp(disch:=first |omega |assumption) only[go_sem, *] | (apply xs<;>intro _)<;>try omega |refine fun (_ _:List Nat)=>?_
 refine dG (fun t m h' n'=>∃ i:Nat,i≤As.length∧t=As.length-i∧m.n=20∧m.gD=[]∧m.get 0 = .slice (some ⟨d (64,0),0,none⟩) As.length cap∧m.get 4=I6 i∧∃ d' C',m.get 3=AB d' i∧St h' n' d' C'∧Cq d C (opsOf As) i d' C') As.length ?_ ?_
 ·refine⟨0,by omega,by omega,?_⟩
  simp(disch:=first |omega |assumption) only[go_sem, *]
  exact⟨d,C,rfl,S,fun c=>absurd rfl c,fun t ht=>absurd ht (by omega),fun a b _ _=>⟨rfl,rfl⟩⟩
 ·rintro t m h' n' ih ⟨i,hi,rfl,m1,m2,m3,m4,d',C',m5,S3,P3⟩
  rcases Nat.lt_or_ge i As.length with hlt |hge
  ·have e7:(i:Int)<As.length:=by omega
   have qt:((i+1:Nat):Int)=(i:Int)+1:=by omega
   obtain⟨A,hA⟩:∃ A,As[i]? = some A:=⟨As[i],List.getElem?_eq_getElem hlt⟩
   obtain⟨Cy,I5,hv⟩:=hvs i A hA
   have hle:=xk i A hA
   have kP:opsOf As i=bX A:=by unfold opsOf;rw[hA];rfl
   have tB:=l9 (A:=A)
   have hrow:=(oU Cy).1
   have FJ:=(P3.ep 64 0 (by omega) (by omega)).2.trans Al
   have FK:=(P3.ep 65 i (by omega) (by omega)).2.trans I5
   have MV:=S3.at FJ
   have MW:=S3.at FK
   have n64:=S3.lt FJ
   have Si:=S3.lt FK
   rw[(P3.ep 64 0 (by omega) (by omega)).1] at MV n64
   rw[(P3.ep 65 i (by omega) (by omega)).1] at MW Si
   rw[hrow] at MW
   have OY:=cO (bX A)
   obtain⟨O,hO⟩:∃ O,O=bX A:=⟨_,rfl⟩
   rw[←hO] at tB OY MW kP
   clear hvs hrow Cy hA I5 hO
   rcases hv with ⟨hv,rfl⟩ | ⟨cp,hv⟩
   ·have h0:O=[]:=List.eq_nil_of_length_eq_zero (by rw[tB];rfl)
    by_cases c0:i=0
    ·subst c0
     have e0:AB d' 0 = .slice none 0 0:=rfl
     rw[e0] at m5
     repeat' first |simp(disch:=first |omega |assumption) only[go_sem, *] | (apply xs<;>intro _)<;>try omega |refine fun (_ _:List Nat)=>?_ | (first |refine aT Tryz.func51 rfl ?_ ?_ ?_ ?_ |fail)<;>intros
     refine ih (As.length-(0+1)) _ _ _ (by omega) ⟨0+1,by omega,rfl,?_⟩
     clear ih
     simp(disch:=first |omega |assumption) only[go_sem, *]
     refine⟨_,_,?_,((S3.junk bG bH).new (60,0) _ bG bH),?_⟩
     ·unfold AB;rw[if_neg (by omega)];(simp(disch:=first |decide |assumption |omega) only[rM,rW,rL,ah,au,aR,aG])<;>rfl
     refine Cq.next P3 ([]) (.slice none 0 0) rfl (by unfold CV;rw[kP,if_pos h0]) (fun c=>absurd (kP.trans h0) c) (fun s h1 h2=>⟨by simp only[ay h1,ay h2],by simp only[ay h1,ay h2]⟩) rS
    ·have e0:AB d' i = .slice (some ⟨d' (60,0),0,none⟩) i (aB+1):=if_neg c0
     rw[e0] at m5
     have OX:=S3.at (P3.out c0)
     have V9:=S3.lt (P3.out c0)
     have w1:=S3.df FJ (P3.out c0) (by simp)
     have w2:=S3.df FK (P3.out c0) (by simp)
     rw[(P3.ep 64 0 (by omega) (by omega)).1] at w1
     rw[(P3.ep 65 i (by omega) (by omega)).1] at w2
     have hrl:(sU d' (opsOf As) i).length=i:=by simp[sU]
     have tZ:List.take i (sU d' (opsOf As) i)=sU d' (opsOf As) i:=List.take_of_length_le (by omega)
     have i0:0<i:=by omega
     generalize hR:sU d' (opsOf As) i=R at*
     repeat' first |simp(disch:=first |omega |assumption) only[go_sem, *] | (apply xs<;>intro _)<;>try omega |refine fun (_ _:List Nat)=>?_ | (first |refine aT Tryz.func51 rfl ?_ ?_ ?_ ?_ |fail)<;>intros
     refine ih (As.length-(i+1)) _ _ _ (by omega) ⟨i+1,by omega,rfl,?_⟩
     rw[qt]
     clear ih
     simp(disch:=first |omega |assumption) only[go_sem, *]
     refine⟨_,_,?_,(((S3.junk bG bH).kill (60,0) (P3.out c0) rfl).new (60,0) _ bG bH),?_⟩
     ·unfold AB;rw[if_neg (by omega)];(simp(disch:=first |decide |assumption |omega) only[rM,rW,rL,ah,au,aR,aG])<;>rfl
     refine Cq.next P3 (R) (.slice none 0 0) hR.symm (by unfold CV;rw[kP,if_pos h0]) (fun c=>absurd (kP.trans h0) c) (fun s h1 h2=>⟨by simp only[ay h1,ay h2],by simp only[ay h1,ay h2]⟩) rS
   ·by_cases h0:O=[]
    ·by_cases c0:i=0
     ·subst c0
      have e0:AB d' 0 = .slice none 0 0:=rfl
      rw[e0] at m5
      have vF:A.length=0:=by rw[←tB,h0];rfl
      repeat' first |simp(disch:=first |omega |assumption) only[go_sem, *] | (apply xs<;>intro _)<;>try omega |refine fun (_ _:List Nat)=>?_ | (first |refine aT Tryz.func51 rfl ?_ ?_ ?_ ?_ |fail)<;>intros
      refine ih (As.length-(0+1)) _ _ _ (by omega) ⟨0+1,by omega,rfl,?_⟩
      clear ih
      simp(disch:=first |omega |assumption) only[go_sem, *]
      refine⟨_,_,?_,((S3.junk bG bH).new (60,0) _ bG bH),?_⟩
      ·unfold AB;rw[if_neg (by omega)];(simp(disch:=first |decide |assumption |omega) only[rM,rW,rL,ah,au,aR,aG])<;>rfl
      refine Cq.next P3 ([]) (.slice none 0 0) rfl (by unfold CV;rw[kP,if_pos h0]) (fun c=>absurd (kP.trans h0) c) (fun s h1 h2=>⟨by simp only[ay h1,ay h2],by simp only[ay h1,ay h2]⟩) rS
     ·have e0:AB d' i = .slice (some ⟨d' (60,0),0,none⟩) i (aB+1):=if_neg c0
      rw[e0] at m5
      have OX:=S3.at (P3.out c0)
      have V9:=S3.lt (P3.out c0)
      have w1:=S3.df FJ (P3.out c0) (by simp)
      have w2:=S3.df FK (P3.out c0) (by simp)
      rw[(P3.ep 64 0 (by omega) (by omega)).1] at w1
      rw[(P3.ep 65 i (by omega) (by omega)).1] at w2
      have hrl:(sU d' (opsOf As) i).length=i:=by simp[sU]
      have tZ:List.take i (sU d' (opsOf As) i)=sU d' (opsOf As) i:=List.take_of_length_le (by omega)
      have i0:0<i:=by omega
      generalize hR:sU d' (opsOf As) i=R at*
      have vF:A.length=0:=by rw[←tB,h0];rfl
      repeat' first |simp(disch:=first |omega |assumption) only[go_sem, *] | (apply xs<;>intro _)<;>try omega |refine fun (_ _:List Nat)=>?_ | (first |refine aT Tryz.func51 rfl ?_ ?_ ?_ ?_ |fail)<;>intros
      refine ih (As.length-(i+1)) _ _ _ (by omega) ⟨i+1,by omega,rfl,?_⟩
      rw[qt]
      clear ih
      simp(disch:=first |omega |assumption) only[go_sem, *]
      refine⟨_,_,?_,(((S3.junk bG bH).kill (60,0) (P3.out c0) rfl).new (60,0) _ bG bH),?_⟩
      ·unfold AB;rw[if_neg (by omega)];(simp(disch:=first |decide |assumption |omega) only[rM,rW,rL,ah,au,aR,aG])<;>rfl
      refine Cq.next P3 (R) (.slice none 0 0) hR.symm (by unfold CV;rw[kP,if_pos h0]) (fun c=>absurd (kP.trans h0) c) (fun s h1 h2=>⟨by simp only[ay h1,ay h2],by simp only[ay h1,ay h2]⟩) rS
    ·by_cases c0:i=0
     ·subst c0
      have e0:AB d' 0 = .slice none 0 0:=rfl
      rw[e0] at m5
      have vF:0<A.length:=by
       rw[←tB];exact List.length_pos_iff.2 h0
      rw[tB] at OY
      generalize hq:A.length=q at*
      have Zs:List.take (q*2) (nZ O)=nZ O:=List.take_of_length_le (by omega)
      repeat' first |simp(disch:=first |omega |assumption) only[go_sem, *] | (apply xs<;>intro _)<;>try omega |refine fun (_ _:List Nat)=>?_ | (first |refine aT Tryz.func51 rfl ?_ ?_ ?_ ?_ |fail)<;>intros
      refine ih (As.length-(0+1)) _ _ _ (by omega) ⟨0+1,by omega,rfl,?_⟩
      clear ih
      simp(disch:=first |omega |assumption) only[go_sem, *]
      refine⟨_,_,?_,(((S3.new (61,0) _ bG bH).junk bG bH).new (60,0) _ bG bH),?_⟩
      ·unfold AB;rw[if_neg (by omega)];(simp(disch:=first |decide |assumption |omega) only[rM,rW,rL,ah,au,aR,aG])<;>rfl
      refine Cq.next P3 ([]) (.slice (some ⟨n',0,none⟩) q (aB+2)) rfl (by unfold CV;rw[kP,if_neg h0,tB];(simp(disch:=first |decide |assumption |omega) only[rM,rW,rL,ah,au,aR,aG])<;>rfl) (fun _=>by rw[kP];(simp(disch:=first |decide |assumption |omega) only[rM,rW,rL,ah,au,aR,aG])<;>rfl) (fun s h1 h2=>⟨by simp only[ay h1,ay h2],by simp only[ay h1,ay h2]⟩) rS
     ·have e0:AB d' i = .slice (some ⟨d' (60,0),0,none⟩) i (aB+1):=if_neg c0
      rw[e0] at m5
      have OX:=S3.at (P3.out c0)
      have V9:=S3.lt (P3.out c0)
      have w1:=S3.df FJ (P3.out c0) (by simp)
      have w2:=S3.df FK (P3.out c0) (by simp)
      rw[(P3.ep 64 0 (by omega) (by omega)).1] at w1
      rw[(P3.ep 65 i (by omega) (by omega)).1] at w2
      have hrl:(sU d' (opsOf As) i).length=i:=by simp[sU]
      have tZ:List.take i (sU d' (opsOf As) i)=sU d' (opsOf As) i:=List.take_of_length_le (by omega)
      have i0:0<i:=by omega
      generalize hR:sU d' (opsOf As) i=R at*
      have vF:0<A.length:=by
       rw[←tB];exact List.length_pos_iff.2 h0
      rw[tB] at OY
      generalize hq:A.length=q at*
      have Zs:List.take (q*2) (nZ O)=nZ O:=List.take_of_length_le (by omega)
      repeat' first |simp(disch:=first |omega |assumption) only[go_sem, *] | (apply xs<;>intro _)<;>try omega |refine fun (_ _:List Nat)=>?_ | (first |refine aT Tryz.func51 rfl ?_ ?_ ?_ ?_ |fail)<;>intros
      refine ih (As.length-(i+1)) _ _ _ (by omega) ⟨i+1,by omega,rfl,?_⟩
      rw[qt]
      clear ih
      simp(disch:=first |omega |assumption) only[go_sem, *]
      refine⟨_,_,?_,((((S3.new (61,i) _ bG bH).junk bG bH).kill (60,0) (by simp(disch:=first |decide |assumption |omega) only[rM,rW,rL,ah,au,aR,aG];exact P3.out c0) rR).new (60,0) _ bG bH),?_⟩
      ·unfold AB;rw[if_neg (by omega)];(simp(disch:=first |decide |assumption |omega) only[rM,rW,rL,ah,au,aR,aG])<;>rfl
      refine Cq.next P3 (R) (.slice (some ⟨n',0,none⟩) q (aB+2)) hR.symm (by unfold CV;rw[kP,if_neg h0,tB];(simp(disch:=first |decide |assumption |omega) only[rM,rW,rL,ah,au,aR,aG])<;>rfl) (fun _=>by rw[kP];(simp(disch:=first |decide |assumption |omega) only[rM,rW,rL,ah,au,aR,aG])<;>rfl) (fun s h1 h2=>⟨by simp only[ay h1,ay h2],by simp only[ay h1,ay h2]⟩) rS
  ·obtain rfl:i=As.length:=by omega
   have e7: ¬ ((As.length:Nat):Int)<As.length:=by omega
   have e0:AB d' As.length = .slice (some ⟨d' (60,0),0,none⟩) As.length (aB+1):=if_neg (by omega)
   rw[e0] at m5
   have hP:FF d' C' (.slice (some ⟨d' (60,0),0,none⟩) As.length (aB+1)) (opsOf As) As.length:=⟨_,_,false,rfl,P3.out (by omega),by simp[sU],fun j hj=>⟨CV d' (opsOf As) j,by unfold sU;rw[List.getElem?_map,List.getElem?_range hj];rfl,by
    unfold CV PV
    by_cases c:opsOf As j=[]
    ·left;rw[if_pos c];exact⟨rfl,c⟩
    ·right
     rw[if_neg c]
     exact⟨(61,j),_,nZ (opsOf As j),false,(by omega:60≤61),rfl,P3.ops j hj c,by rw[cO];omega,List.take_of_length_le (by rw[cO];omega)⟩⟩⟩
   have lg:=P3.ep
   clear ih hvs P3
   repeat' first |simp(disch:=first |omega |assumption) only[go_sem, *] | (apply xs<;>intro _)<;>try omega |refine fun (_ _:List Nat)=>?_
   exact⟨d',C',S3,hP,lg⟩
end Go.Proofs.YtbceiadaihphaaaGreat
namespace Go.Proofs.YtbceiadaihphaaaGreat
open Go.Am
variable {e:gT} {ex:eG e} {rep:e.σ→List Value→(Rl→Nat)→(Rl→Option aj)→Prop} {aO guard fresh:e.σ→Nat→Nat→Prop} {kd nb nw xp:Nat} {s0:e.σ}
theorem xl {z:Int} {ns:Nat} (h:0<ns):∃ t:Nat,t<ns∧(z.tmod ns+ns).tmod ns=t:=by
 have b2:=Int.lt_tmod_of_pos z (show (0:Int)<ns by omega)
 have b3:=Int.tmod_lt_of_pos (z.tmod ns+ns) (show (0:Int)<ns by omega)
 have b4:=Int.tmod_nonneg (ns:Int) (show 0≤z.tmod ns+ns by omega)
 exact⟨((z.tmod ns+ns).tmod ns).toNat,by omega,by omega⟩
set_option maxRecDepth 100000 in
set_option maxHeartbeats 4000000 in
theorem MX {ns:Nat} (K:Kt e ex ns rep aO guard fresh kd nb nw s0 xp) {ops:Ops} (ok:kW ops ns) (Q:RS e→Prop) (hstep:∀ r t,t<ns→Q r→gQ ops xp aO fresh ns r∧Q (RS.pick ops xp r t)) {d0:Rl→Nat} {C0:Rl→Option aj} {p j0 n:Nat} {k:List Value} {r:RS e} {d:Rl→Nat} {C:Rl→Option aj} {h:PT aj} {s:Value} {A:List (List Int)} (g:Rg rep ops ns d0 C0 p j0 r k d C h n) (q0:Q r) (hA:jw d0 C0 s A) (hl:A.length≤500) (hj:j0≤1000) (c8:C0 (98,0)=none) (c9:C0 (99,0)=none):
  b9 Tryz.prog OP 18 [pt p,s] h n fun v h' n'=>(∃ c,v=dY [I6 c,I6 0])∧∃ r' k' d' C',Rg rep ops ns d0 C0 p (j0+A.length) r' k' d' C' h' n'∧Q r':=by
 obtain⟨Cy,xk⟩:=hA
 obtain⟨x0,cap,hs'⟩:∃ x0 cap,s = .slice x0 A.length cap:=by
  rcases xk with ⟨rfl,rfl⟩ | ⟨cap,rfl,_⟩
  ·exact⟨_,_,rfl⟩
  ·exact⟨_,_,rfl⟩
 have dQ:=g.S.at g.R.bA
 rw[g.at_] at dQ
 simp only[cS] at dQ
 have hn:=g.n
 have t1: ¬ (65536:Int)<A.length:=by omega
 have t2: ¬ (1000000:Int)<(r.n:Int)+A.length:=by omega
 refine aC (N:=46) Tryz.func18 rfl rfl fun z hP hO hro hN hQ=>?_
 repeat' first |simp(disch:=first |omega |assumption) only[go_sem, *] | (apply xs<;>intro _)<;>try omega
 have cq:=K.cq.1
 refine dG (fun t m h' n'=>∃ i c:Nat,i≤A.length∧c≤i∧t=A.length-i∧m.n=46∧m.gD=[]∧m.get 0=pt p∧m.get 6=I6 c∧m.get 28 = .slice x0 A.length cap∧m.get 29=I6 A.length∧m.get 30=I6 i∧∃ r k d' C',Rg rep ops ns d0 C0 p (j0+i) r k d' C' h' n'∧Q r) A.length ?_ ?_
 ·refine⟨0,0,by omega,by omega,by omega,?_⟩
  clear ok
  simp(disch:=first |omega |assumption) only[go_sem, *]
  exact⟨r,k,d,C,g,q0⟩
 ·clear g dQ hn q0 t1 t2
  rintro t m h' n' ih ⟨i,c,hi,hc,rfl,m1,m2,m3,m4,m5,m6,m7,r,k,d',C',g,q⟩
  rcases Nat.lt_or_ge i A.length with hlt |hge
  ·have e7:(i:Int)<A.length:=by omega
   have qt:((i+1:Nat):Int)=(i:Int)+1:=by omega
   have xH:((c+1:Nat):Int)=(c:Int)+1:=by omega
   rcases xk with ⟨rfl,rfl⟩ | ⟨cap',kZ,hC⟩
   ·simp at hlt
   ·obtain⟨x,hx⟩:∃ x,A[i]? = some x:=⟨A[i],List.getElem?_eq_getElem hlt⟩
    obtain⟨HU,Q8⟩:=Cy x (List.mem_of_getElem? hx)
    have r0:=pQ Cy hx 0 (by decide)
    obtain⟨z,rfl⟩:∃ z,x=[z]:=by
     match x,HU with
     | [z],_=>exact⟨z,rfl⟩
    change (cH Gq A)[i*1]? = some (I6 z) at r0
    rw[Nat.mul_one] at r0
    obtain⟨rfl,rfl⟩:x0=some ⟨d0 (62,0),0,none⟩∧cap=cap':=by
     rw[hs'] at kZ;injection kZ with e1 _ e2;exact⟨e1,e2⟩
    have gA:=g.S.at ((g.ep 62 0 (by omega)).2.trans hC)
    rw[(g.ep 62 0 (by omega)).1] at gA
    obtain⟨tt,ht,hz⟩:=xl (z:=z) cq
    obtain⟨I,q2⟩:=hstep r tt ht q
    have en:=Rg.pick K ok g I (x:=z) ht hz (by omega) c8 c9
    clear hC hx Q8 kZ ok Cy hstep hz
    repeat' first |simp(disch:=first |omega |assumption) only[go_sem, *] | (apply xs<;>intro _)<;>try omega
    refine eJ (en) (by simp only[*]) (by simp only[*]) (by simp only[go_sem, *]) (by simp only[go_sem, *]) ?_
    rintro v h5 n5 ⟨rfl,d5,C5,g5⟩
    generalize RS.dd r tt=dn
    generalize RS.nx ex.hJ ex.h_ r tt=pc
    generalize decide (1<pc)=acc
    clear g en gA q I
    repeat' first |simp(disch:=first |omega |assumption) only[go_sem, *] | (apply xs<;>intro _)<;>try omega
    ·refine ih (A.length-(i+1)) _ _ _ (by omega) ⟨i+1,c+1,by omega,by omega,rfl,?_⟩
     rw[qt,xH]
     clear ih
     have g6:=g5
     simp(disch:=first |omega |assumption) only[go_sem, *]
     refine⟨_,k++RS.ac ex r tt,d5,C5,?_,q2⟩
     rw[←Nat.add_assoc]
     exact g5.re (g5.S.cg bG bH)
    ·refine ih (A.length-(i+1)) _ _ _ (by omega) ⟨i+1,c,by omega,by omega,rfl,?_⟩
     rw[qt]
     clear ih
     simp(disch:=first |omega |assumption) only[go_sem, *]
     refine⟨_,k++RS.ac ex r tt,d5,C5,?_,q2⟩
     rw[←Nat.add_assoc]
     exact g5.re (g5.S.cg bG bH)
  ·have e7: ¬ (i:Int)<A.length:=by omega
   obtain rfl:i=A.length:=by omega
   clear ih ok hstep xk
   repeat' first |simp(disch:=first |omega |assumption) only[go_sem, *] | (apply xs<;>intro _)<;>try omega
   exact⟨⟨_,rfl⟩,r,k,d',C',g,q⟩
set_option maxRecDepth 100000 in
set_option maxHeartbeats 4000000 in
theorem I7 {ns:Nat} {ops:Ops} {n:Nat} {k:List Value} {f:Nat→Value} {r:RS e} {d:Rl→Nat} {C:Rl→Option aj} {h:PT aj} (S:St h n d C) (R:bP rep ops ns f r k d C) (hl:r.ev.length≤100000):
  b9 Tryz.prog OP 9 [pt (d (40,0))] h n fun v h' n'=>∃ d' C',(v=if r.ev=[] then .slice none 0 0 else .slice (some ⟨d' (66,0),0,none⟩) r.ev.length (aB+4))∧St h' n' d' C'∧(r.ev≠[]→C' (66,0)=row (oZ r.ev))∧∀ s,s≠(66,0)→d' s=d s∧C' s=C s:=by
 have dQ:=S.at R.bA
 have uc:=S.lt R.bA
 simp only[cS] at dQ
 by_cases c:r.ev=[]
 ·have e0:Av d r.ev = .slice none 0 0:=if_pos c
  rw[e0] at dQ
  clear e0
  refine aC (N:=10) Tryz.func9 rfl rfl fun z hP hO hro hN hQ=>?_
  repeat' first |simp(disch:=first |omega |assumption) only[go_sem, *] | (apply xs<;>intro _)<;>try omega
  refine⟨d,C,?_⟩
  simp[S]
 ·have e0:Av d r.ev = .slice (some ⟨d (43,0),0,none⟩) r.ev.length (aB+4):=if_neg c
  rw[e0] at dQ
  have g43:=S.at (R.ev c)
  have n43:=S.lt (R.ev c)
  have hlen:=kL r.ev
  have hpos:0<r.ev.length:=List.length_pos_iff.2 c
  generalize oZ r.ev=E at*
  have tZ:List.take (r.ev.length*4) E=E:=List.take_of_length_le (by omega)
  clear e0
  refine aC (N:=10) Tryz.func9 rfl rfl fun z hP hO hro hN hQ=>?_
  repeat' first |simp(disch:=first |omega |assumption) only[go_sem, *] | (apply xs<;>intro _)<;>try omega
  exact⟨_,_,rS,S.new (66,0) _ bG bH,fun _=>rS,fun s hs=>⟨ay hs,ay hs⟩⟩
end Go.Proofs.YtbceiadaihphaaaGreat
namespace Go.Proofs.YtbceiadaihphaaaGreat
open Go.Am
@[go_sem] theorem I8 {b:Bool}:r5 (some ij) b=false:=rfl
def lf (l:List Ev) (t k0:Nat) (j:Nat):Bool:=(List.range j).any fun x=>decide (k0<x)&&(match l[x]? with |some z=>decide (z.2.2.1=2∧z.2.1=t) |none=>false)
theorem AE:∀ {l:List Ev} {i:Nat} {z:Ev},l[i]? = some z→(oZ l)[i*4]? = some (I6 z.1)∧(oZ l)[i*4+1]? = some (I6 z.2.1)∧(oZ l)[i*4+2]? = some (U8 z.2.2.1)∧(oZ l)[i*4+3]? = some (U6 z.2.2.2)
 | [],i,z,h=>by simp at h
 |p::l,0,z,h=>by simp at h;subst h;exact⟨rfl,rfl,rfl,rfl⟩
 |p::l,i+1,z,h=>by
  have:=AE (l:=l) (i:=i) (by simpa using h)
  have q:oZ (p::l)=I6 p.1::I6 p.2.1::U8 p.2.2.1::U6 p.2.2.2::oZ l:=rfl
  rw[q,show (i+1)*4=i*4+1+1+1+1 by omega]
  obtain⟨h1,h2,h3,h4⟩:=this
  exact⟨by simpa using h1,by simpa using h2,by simpa using h3,by simpa using h4⟩
end Go.Proofs.YtbceiadaihphaaaGreat
namespace Go.Proofs.YtbceiadaihphaaaGreat
open Go.Am
variable {e:gT} {ex:eG e} {rep:e.σ→List Value→(Rl→Nat)→(Rl→Option aj)→Prop} {aO guard fresh:e.σ→Nat→Nat→Prop} {kd nb nw xp:Nat} {s0:e.σ}
theorem xm {As:List (List (List Int))} {d:Rl→Nat} {C:Rl→Option aj} {ps:Value} (P:Pa d C ps As) (xk:∀ (i:Nat) (A:List (List Int)),As[i]? = some A→A.length≤30):kW (opsOf As) As.length:=by
 intro t ht
 obtain⟨A,hA⟩:∃ A,As[t]? = some A:=⟨As[t],List.getElem?_eq_getElem ht⟩
 obtain⟨cap,vs,-,-,-,hvs⟩:=P.out
 have kP:opsOf As t=bX A:=by unfold opsOf;rw[hA];rfl
 rw[kP,l9]
 exact⟨xk t A hA,(oU (hvs t A hA).1).2⟩
set_option maxRecDepth 100000 in
set_option maxHeartbeats 8000000 in
theorem Sj {As:List (List (List Int))} (K:Kt e ex As.length rep aO guard fresh kd nb nw s0 xp) (Q:RS e→Prop) (hstep:∀ r t,t<As.length→Q r→gQ (opsOf As) xp aO fresh As.length r∧Q (RS.pick (opsOf As) xp r t)) (q0:Q (RS.eK (opsOf As) xp (RS.zero s0) As.length)) {x:Nat} {b:Int} (xJ:x%3+1=kd) (hnb:if kd=3 then (1+(b.tmod 4+4).tmod 4:Int)=nb else nb=0) {ps s:Value} {A:List (List Int)} {d:Rl→Nat} {C:Rl→Option aj} {h:PT aj} {n:Nat} (S:St h n d C) (P:Pa d C ps As) (hA:jw d C s A) (Ku:0<As.length∧As.length≤8) (xk:∀ (i:Nat) (A:List (List Int)),As[i]? = some A→A.length≤30) (hl:A.length≤500) (O2:C (20,0)=none) (c8:C (98,0)=none) (c9:C (99,0)=none):
  b9 Tryz.prog OP 8 [.agg ⟨[U8 x,I6 b]⟩,ps,s] h n fun v h' n'=>∃ r' k' d' C',v=pt (d' (40,0))∧Rg rep (opsOf As) As.length d' C' (d' (40,0)) A.length r' k' d' C' h' n'∧Q r'∧∀ a b,62≤a→d' (a,b)=d (a,b)∧C' (a,b)=C (a,b):=by
 have Zt:kd=1∨kd=2∨kd=3:=by omega
 have hx1:(x:Int).tmod 3=((x%3:Nat):Int):=rfl
 have xK:x%3<3:=Nat.mod_lt _ (by decide)
 have wQ:x%3=kd-1:=by omega
 have ok:=xm P xk
 have cp:=Sh (S.junk (B:=some (.cells (PT.ofList .leaf 0 [U8 x,I6 b]) false)) bG bH) P Ku xk
 have b1:=Int.tmod_lt_of_pos b (show (0:Int)<4 by omega)
 have b2:=Int.lt_tmod_of_pos b (show (0:Int)<4 by omega)
 have b3:=Int.tmod_lt_of_pos (b.tmod 4+4) (show (0:Int)<4 by omega)
 have b4:=Int.tmod_nonneg 4 (show 0≤b.tmod 4+4 by omega)
 obtain⟨b5,hb5⟩:∃ b5,(b.tmod 4+4).tmod 4=b5:=⟨_,rfl⟩
 rw[hb5] at b3 b4 hnb
 rw[wQ] at hx1
 clear xK wQ xJ
 refine aC (N:=48) Tryz.func8 rfl rfl fun z hP hO hro hN hQ=>?_
 have z0:((0:Nat):Int)=0:=rfl
 have z1:((1:Nat):Int)=1:=rfl
 have z2:((2:Nat):Int)=2:=rfl
 have z3:((3:Nat):Int)=3:=rfl
 rcases Zt with rfl |rfl |rfl
 ·rw[if_neg (by omega)] at hnb
  subst hnb
  repeat' first |simp(disch:=first |omega |assumption) only[go_sem, *] | (apply xs<;>intro _)<;>try omega
  refine eJ (cp) (by simp only[*]) (by simp only[*]) (by simp only[go_sem, *]) (by simp only[go_sem, *]) ?_
  rintro v h1 n1 ⟨d1,C1,S1,P1,k1⟩
  clear cp
  repeat' first |simp(disch:=first |omega |assumption) only[go_sem, *] | (apply xs<;>intro _)<;>try omega
  have en:=FG K.cq K.F K.G K.Fe K.kind K.xp K.B ok S1 P1 ((k1 20 0 (by omega) (by omega)).2.trans O2)
  simp only[z0,z1,z2,z3] at en
  refine eJ (en) (by simp only[*]) (by simp only[*]) (by simp only[go_sem, *]) (by simp only[go_sem, *]) ?_
  rintro v2 h2 n2 ⟨d2,C2,rfl,S2,R2,k2⟩
  clear en
  obtain⟨I0,-,-,-,q4,q5⟩:=gu K.G K.Fe K.B.idle (ops:=opsOf As) (xp:=xp) As.length
  have g0:Rg rep (opsOf As) As.length d2 C2 (d2 (40,0)) 0 (RS.eK (opsOf As) xp (RS.zero s0) As.length) [] d2 C2 h2 n2:=⟨S2,rfl,R2,Nat.le_refl _,by rw[q5];exact Nat.zero_le _,q4,fun _ _ _=>⟨rfl,rfl⟩⟩
  have Gr:=(hA.of (k1 62 0 (by omega) (by omega)).1 (k1 62 0 (by omega) (by omega)).2).of (k2 62 0 (by omega)).1 (k2 62 0 (by omega)).2
  have hall:∀ a b,62≤a→d2 (a,b)=d (a,b)∧C2 (a,b)=C (a,b):=fun a b c=>⟨(k2 a b (by omega)).1.trans (k1 a b (by omega) (by omega)).1,(k2 a b (by omega)).2.trans (k1 a b (by omega) (by omega)).2⟩
  repeat' first |simp(disch:=first |omega |assumption) only[go_sem, *] | (apply xs<;>intro _)<;>try omega
  refine eJ (MX K ok Q hstep g0 q0 Gr hl (by omega) ((hall 98 0 (by omega)).2.trans c8) ((hall 99 0 (by omega)).2.trans c9)) (by simp only[*]) (by simp only[*]) (by simp only[go_sem, *]) (by simp only[go_sem, *]) ?_
  rintro v3 h3 n3 ⟨⟨c,rfl⟩,r',k',d3,C3,g3,q3⟩
  clear I0 q4 q5 g0 S2 R2 S1 P1 Gr
  repeat' first |simp(disch:=first |omega |assumption) only[go_sem, *] | (apply xs<;>intro _)<;>try omega
  rw[←g3.at_]
  exact⟨r',k',d3,C3,rfl,⟨g3.S,rfl,g3.R,by have:=g3.k;omega,by have:=g3.ev;omega,by have:=g3.n;omega,fun _ _ _=>⟨rfl,rfl⟩⟩,q3,fun a b c=>⟨(g3.ep a b (by omega)).1.trans (hall a b c).1,(g3.ep a b (by omega)).2.trans (hall a b c).2⟩⟩
 ·rw[if_neg (by omega)] at hnb
  subst hnb
  repeat' first |simp(disch:=first |omega |assumption) only[go_sem, *] | (apply xs<;>intro _)<;>try omega
  refine eJ (cp) (by simp only[*]) (by simp only[*]) (by simp only[go_sem, *]) (by simp only[go_sem, *]) ?_
  rintro v h1 n1 ⟨d1,C1,S1,P1,k1⟩
  clear cp
  repeat' first |simp(disch:=first |omega |assumption) only[go_sem, *] | (apply xs<;>intro _)<;>try omega
  have en:=FG K.cq K.F K.G K.Fe K.kind K.xp K.B ok S1 P1 ((k1 20 0 (by omega) (by omega)).2.trans O2)
  simp only[z0,z1,z2,z3] at en
  refine eJ (en) (by simp only[*]) (by simp only[*]) (by simp only[go_sem, *]) (by simp only[go_sem, *]) ?_
  rintro v2 h2 n2 ⟨d2,C2,rfl,S2,R2,k2⟩
  clear en
  obtain⟨I0,-,-,-,q4,q5⟩:=gu K.G K.Fe K.B.idle (ops:=opsOf As) (xp:=xp) As.length
  have g0:Rg rep (opsOf As) As.length d2 C2 (d2 (40,0)) 0 (RS.eK (opsOf As) xp (RS.zero s0) As.length) [] d2 C2 h2 n2:=⟨S2,rfl,R2,Nat.le_refl _,by rw[q5];exact Nat.zero_le _,q4,fun _ _ _=>⟨rfl,rfl⟩⟩
  have Gr:=(hA.of (k1 62 0 (by omega) (by omega)).1 (k1 62 0 (by omega) (by omega)).2).of (k2 62 0 (by omega)).1 (k2 62 0 (by omega)).2
  have hall:∀ a b,62≤a→d2 (a,b)=d (a,b)∧C2 (a,b)=C (a,b):=fun a b c=>⟨(k2 a b (by omega)).1.trans (k1 a b (by omega) (by omega)).1,(k2 a b (by omega)).2.trans (k1 a b (by omega) (by omega)).2⟩
  repeat' first |simp(disch:=first |omega |assumption) only[go_sem, *] | (apply xs<;>intro _)<;>try omega
  refine eJ (MX K ok Q hstep g0 q0 Gr hl (by omega) ((hall 98 0 (by omega)).2.trans c8) ((hall 99 0 (by omega)).2.trans c9)) (by simp only[*]) (by simp only[*]) (by simp only[go_sem, *]) (by simp only[go_sem, *]) ?_
  rintro v3 h3 n3 ⟨⟨c,rfl⟩,r',k',d3,C3,g3,q3⟩
  clear I0 q4 q5 g0 S2 R2 S1 P1 Gr
  repeat' first |simp(disch:=first |omega |assumption) only[go_sem, *] | (apply xs<;>intro _)<;>try omega
  rw[←g3.at_]
  exact⟨r',k',d3,C3,rfl,⟨g3.S,rfl,g3.R,by have:=g3.k;omega,by have:=g3.ev;omega,by have:=g3.n;omega,fun _ _ _=>⟨rfl,rfl⟩⟩,q3,fun a b c=>⟨(g3.ep a b (by omega)).1.trans (hall a b c).1,(g3.ep a b (by omega)).2.trans (hall a b c).2⟩⟩
 ·rw[if_pos rfl] at hnb
  repeat' first |simp(disch:=first |omega |assumption) only[go_sem, *] | (apply xs<;>intro _)<;>try omega
  refine eJ (cp) (by simp only[*]) (by simp only[*]) (by simp only[go_sem, *]) (by simp only[go_sem, *]) ?_
  rintro v h1 n1 ⟨d1,C1,S1,P1,k1⟩
  clear cp
  repeat' first |simp(disch:=first |omega |assumption) only[go_sem, *] | (apply xs<;>intro _)<;>try omega
  have en:=FG K.cq K.F K.G K.Fe K.kind K.xp K.B ok S1 P1 ((k1 20 0 (by omega) (by omega)).2.trans O2)
  simp only[z0,z1,z2,z3] at en
  refine eJ (en) (by simp only[*]) (by simp only[*]) (by simp only[go_sem, *]) (by simp only[go_sem, *]) ?_
  rintro v2 h2 n2 ⟨d2,C2,rfl,S2,R2,k2⟩
  clear en
  obtain⟨I0,-,-,-,q4,q5⟩:=gu K.G K.Fe K.B.idle (ops:=opsOf As) (xp:=xp) As.length
  have g0:Rg rep (opsOf As) As.length d2 C2 (d2 (40,0)) 0 (RS.eK (opsOf As) xp (RS.zero s0) As.length) [] d2 C2 h2 n2:=⟨S2,rfl,R2,Nat.le_refl _,by rw[q5];exact Nat.zero_le _,q4,fun _ _ _=>⟨rfl,rfl⟩⟩
  have Gr:=(hA.of (k1 62 0 (by omega) (by omega)).1 (k1 62 0 (by omega) (by omega)).2).of (k2 62 0 (by omega)).1 (k2 62 0 (by omega)).2
  have hall:∀ a b,62≤a→d2 (a,b)=d (a,b)∧C2 (a,b)=C (a,b):=fun a b c=>⟨(k2 a b (by omega)).1.trans (k1 a b (by omega) (by omega)).1,(k2 a b (by omega)).2.trans (k1 a b (by omega) (by omega)).2⟩
  repeat' first |simp(disch:=first |omega |assumption) only[go_sem, *] | (apply xs<;>intro _)<;>try omega
  refine eJ (MX K ok Q hstep g0 q0 Gr hl (by omega) ((hall 98 0 (by omega)).2.trans c8) ((hall 99 0 (by omega)).2.trans c9)) (by simp only[*]) (by simp only[*]) (by simp only[go_sem, *]) (by simp only[go_sem, *]) ?_
  rintro v3 h3 n3 ⟨⟨c,rfl⟩,r',k',d3,C3,g3,q3⟩
  clear I0 q4 q5 g0 S2 R2 S1 P1 Gr
  repeat' first |simp(disch:=first |omega |assumption) only[go_sem, *] | (apply xs<;>intro _)<;>try omega
  rw[←g3.at_]
  exact⟨r',k',d3,C3,rfl,⟨g3.S,rfl,g3.R,by have:=g3.k;omega,by have:=g3.ev;omega,by have:=g3.n;omega,fun _ _ _=>⟨rfl,rfl⟩⟩,q3,fun a b c=>⟨(g3.ep a b (by omega)).1.trans (hall a b c).1,(g3.ep a b (by omega)).2.trans (hall a b c).2⟩⟩
end Go.Proofs.YtbceiadaihphaaaGreat
