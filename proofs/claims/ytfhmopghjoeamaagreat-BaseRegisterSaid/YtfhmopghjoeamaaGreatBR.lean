/-
  A part of the proof: contracts of inner functions.
-/
import Derived.Test.YtfhmopghjoeamaaGreatBI
set_option linter.unusedVariables false
set_option linter.unusedSimpArgs false
namespace Go.Proofs.YtfhmopghjoeamaaGreat
open Go.Am
theorem DM:Tryz.prog.underlying 3=some (.int .i64):=by kernel_rfl
theorem GD:Tryz.prog.underlying 5=some (.int .u8):=by kernel_rfl
theorem Kl:Tryz.prog.underlying 124=some (.map 3 4):=by kernel_rfl
theorem Ph:Tryz.prog.underlying 211=some (.map 5 214):=by kernel_rfl
theorem Pj:Tryz.prog.underlying 217=some (.map 5 220):=by kernel_rfl
theorem Pk:Tryz.prog.underlying 75=some (.map 3 148):=by kernel_rfl
@[go_sem] theorem lkO {r:Nat} {x:Int} {ok:Bool}:HP Tryz.prog 124 (.map (some r)) (.int .i64 x) ok = .get r (FM Tryz.prog (.int .i64) 4 (.int .i64 x) ok):=QC Kl DM
@[go_sem] theorem muO {r:Nat} {x:Int} {v:Value}:FL Tryz.prog 124 (.map (some r)) (.int .i64 x) v = .get r (yX Tryz.prog r (.int .i64) (.int .i64 x) v):=QD Kl DM
@[go_sem] theorem dlO {ts:List TypeId} {r:Nat} {x:Int}:vl Tryz.prog .delete (124::ts) [.map (some r),.int .i64 x] = .get r (Oo Tryz.prog r (.int .i64) (.int .i64 x)):=dlI Kl DM
@[go_sem] theorem lkT {r:Nat} {x:Int} {ok:Bool}:HP Tryz.prog 211 (.map (some r)) (.int .u8 x) ok = .get r (FM Tryz.prog (.int .u8) 214 (.int .u8 x) ok):=QC Ph GD
@[go_sem] theorem muT {r:Nat} {x:Int} {v:Value}:FL Tryz.prog 211 (.map (some r)) (.int .u8 x) v = .get r (yX Tryz.prog r (.int .u8) (.int .u8 x) v):=QD Ph GD
@[go_sem] theorem lkG {r:Nat} {x:Int} {ok:Bool}:HP Tryz.prog 217 (.map (some r)) (.int .u8 x) ok = .get r (FM Tryz.prog (.int .u8) 220 (.int .u8 x) ok):=QC Pj GD
@[go_sem] theorem muG {r:Nat} {x:Int} {v:Value}:FL Tryz.prog 217 (.map (some r)) (.int .u8 x) v = .get r (yX Tryz.prog r (.int .u8) (.int .u8 x) v):=QD Pj GD
@[go_sem] theorem lkE {r:Nat} {x:Int} {ok:Bool}:HP Tryz.prog 75 (.map (some r)) (.int .i64 x) ok = .get r (FM Tryz.prog (.int .i64) 148 (.int .i64 x) ok):=QC Pk DM
@[go_sem] theorem muE {r:Nat} {x:Int} {v:Value}:FL Tryz.prog 75 (.map (some r)) (.int .i64 x) v = .get r (yX Tryz.prog r (.int .i64) (.int .i64 x) v):=QD Pk DM
attribute [go_sem] FT FU FV
theorem Pm:zeroOf Tryz.prog 148=some (.agg ⟨[.int .i64 0,.bool false]⟩):=by kernel_rfl
theorem Pn:zeroOf Tryz.prog 4=some (.bool false):=by kernel_rfl
@[go_sem] theorem abx {i:Nat} {v:Value}:As Tryz.prog 214 false (some (some (i,v))) = .pure (.value v):=rfl
@[go_sem] theorem aby {i:Nat} {v:Value}:As Tryz.prog 220 false (some (some (i,v))) = .pure (.value v):=rfl
@[go_sem] theorem WV:As Tryz.prog 4 true (some none) = .pure (.value (.tuple ⟨[.bool false,.bool false]⟩)):=by simp only[As,Pn,cond_true]
@[go_sem] theorem WW {i:Nat} {v:Value}:As Tryz.prog 4 true (some (some (i,v))) = .pure (.value (.tuple ⟨[v,.bool true]⟩)):=rfl
@[go_sem] theorem WX:As Tryz.prog 148 true (some none) = .pure (.value (.tuple ⟨[.agg ⟨[.int .i64 0,.bool false]⟩,.bool false]⟩)):=by simp only[As,Pm,cond_true]
@[go_sem] theorem WY {i:Nat} {v:Value}:As Tryz.prog 148 true (some (some (i,v))) = .pure (.value (.tuple ⟨[v,.bool true]⟩)):=rfl
@[go_sem] theorem Pp {r:Nat} {k v:Value} {es:List (Value×Value×Nat)} {c:Nat}:JJ r true k v es c (some none) = .set r (.map (es++[(k,v,c)]) (c+1)) (.pure .skip):=rfl
@[go_sem] theorem Pq {r i:Nat} {k v w:Value} {es:List (Value×Value×Nat)} {c:Nat}:JJ r true k v es c (some (some (i,w))) = .set r (.map (cZ k v es i) c) (.pure .skip):=rfl
@[go_sem] theorem Pr {r c:Nat} {l:List bp} {k:IntKind}:QE r l k c none = .pure (.value (.tuple ⟨[]⟩)):=rfl
@[go_sem] theorem Pt {r c i:Nat} {l:List bp} {k:IntKind} {v:Value}:QE r l k c (some (i,v)) = .set r (.map (bA k (l.eraseIdx i)) c) (.pure (.value (.tuple ⟨[]⟩))):=rfl
@[go_sem] theorem mu0 {r:Nat} {v:Value}:yX Tryz.prog r (.int .u8) (.int .u8 4) v (.map [] 0) = .set r (.map [(.int .u8 4,v,0)] 1) (.pure .skip):=by rfl
@[go_sem] theorem mu1 {r:Nat} {v w:Value}:yX Tryz.prog r (.int .u8) (.int .u8 5) v (.map [(.int .u8 4,w,0)] 1) = .set r (.map [(.int .u8 4,w,0),(.int .u8 5,v,1)] 2) (.pure .skip):=by rfl
@[go_sem] theorem afm {r:Nat} {v w:Value}:yX Tryz.prog r (.int .u8) (.int .u8 7) v (.map [(.int .u8 4,w,0)] 1) = .set r (.map [(.int .u8 4,w,0),(.int .u8 7,v,1)] 2) (.pure .skip):=by rfl
@[go_sem] theorem mu2 {r:Nat} {v w u:Value}:yX Tryz.prog r (.int .u8) (.int .u8 6) v (.map [(.int .u8 4,w,0),(.int .u8 5,u,1)] 2) = .set r (.map [(.int .u8 4,w,0),(.int .u8 5,u,1),(.int .u8 6,v,2)] 3) (.pure .skip):=by rfl
@[go_sem] theorem afn {r:Nat} {v w u:Value}:yX Tryz.prog r (.int .u8) (.int .u8 8) v (.map [(.int .u8 4,w,0),(.int .u8 7,u,1)] 2) = .set r (.map [(.int .u8 4,w,0),(.int .u8 7,u,1),(.int .u8 8,v,2)] 3) (.pure .skip):=by rfl
theorem _root_.Go.Am.St.re {h:PT aj} {n i:Nat} {d:Rl→Nat} {C:Rl→Option aj} {r:Rl} {A B:aj} (S:St h n d (upd C r (some A))) (hi:d r=i):St (h.set i (some B)) n d (upd C r (some B)):=(S.set r B au hi).eq gd rfl
structure Nx (n:Nat) (d:Rl→Nat) (C:Rl→Option aj) (X:List Nat) (W':List Int) (k':Nat) (d':Rl→Nat) (C':Rl→Option aj) (h':PT aj) (n':Nat):Prop where
 le:n≤n'
 st:St h' n' d' C'
 fz:∀ h1 n1,n1≤n→Fz h1 n1 d C→Fz h1 n1 d' C'
 mem:∃ L',kR d' C' W' L' k'
 dM:d' rM=d rM
 dd:∀ a b,2<a→d' (a,b)=d (a,b)
 cc:∀ a b,2<a→a∉X→C' (a,b)=C (a,b)
theorem Nx.refl {n:Nat} {d:Rl→Nat} {C:Rl→Option aj} {X:List Nat} {W L} {k:Nat} {h:PT aj} (S:St h n d C) (M:kR d C W L k):Nx n d C X W k d C h n:=⟨Nat.le_refl _,S,fun _ _ _ F=>F,⟨_,M⟩,rfl,fun _ _ _=>rfl,fun _ _ _ _=>rfl⟩
theorem Nx.trans {n n1 n2:Nat} {d d1 d2:Rl→Nat} {C C1 C2:Rl→Option aj} {X:List Nat} {W1 W2:List Int} {k1 k2:Nat} {h1 h2:PT aj} (a:Nx n d C X W1 k1 d1 C1 h1 n1) (b:Nx n1 d1 C1 X W2 k2 d2 C2 h2 n2):Nx n d C X W2 k2 d2 C2 h2 n2:=
 ⟨Nat.le_trans a.le b.le,b.st,fun h n h1 F=>b.fz h n (Nat.le_trans h1 a.le) (a.fz h n h1 F),b.mem,b.dM.trans a.dM,fun c e h=>(b.dd c e h).trans (a.dd c e h),fun c e h hx=>(b.cc c e h hx).trans (a.cc c e h hx)⟩
theorem Nx.sub {n n1:Nat} {d d1:Rl→Nat} {C C1:Rl→Option aj} {X Y:List Nat} {W1:List Int} {k1:Nat} {h1:PT aj} (a:Nx n d C X W1 k1 d1 C1 h1 n1) (h:∀ x∈X,x∈Y):Nx n d C Y W1 k1 d1 C1 h1 n1:=
 ⟨a.le,a.st,a.fz,a.mem,a.dM,a.dd,fun c e q hx=>a.cc c e q fun q2=>hx (h c q2)⟩
theorem Nx.acc {X:List Nat} {h h':PT aj} {n n' g:Nat} {d:Rl→Nat} {C:Rl→Option aj} {W W':List Int} {L L':List Value} {k:Nat} (S:St h n d C) (M:kR d C W L k) (hg:n≤g) (hn:n≤n') (hl:L'.length=(k+1)*6) (hW:W'.length=W.length) (S':St h' n' (upd d rL g) (jz C (d rW) g W' L' (k+1))):
  Nx n d C X W' (k+1) (upd d rL g) (jz C (d rW) g W' L' (k+1)) h' n':=
 ⟨hn,S',fun h1 n1 q F=>F.mem S M (by omega),⟨_,kR.next (L:=L) hW hl⟩,aq (by decide),fun a b h=>aq (by omega),fun a b h _=>aH h⟩
theorem Nx.set {X:List Nat} {h':PT aj} {n:Nat} {d:Rl→Nat} {C:Rl→Option aj} {W:List Int} {L:List Value} {k t b:Nat} {A B:aj} (M:kR d C W L k) (ht:2<t) (h9:t≠9999) (e:C (t,b)=some A) (S':St h' n d (upd C (t,b) (some B))) (hX:t∈X:=by simp):Nx n d C X W k d (upd C (t,b) (some B)) h' n:=
 ⟨Nat.le_refl _,S',fun h1 n1 q F=>F.set h9 e _,⟨_,M.of fun a ha=>⟨rfl,aq (by omega)⟩⟩,rfl,fun _ _ _=>rfl,fun a c h hx=>aq fun q=>hx (q ▸ hX)⟩
section
variable {h:PT aj} {n:Nat} {d:Rl→Nat} {C:Rl→Option aj} {W:List Int} {L:List Value} {k a:Nat} {th o x:Int}
theorem DN (X:List Nat) (S:St h n d C) (M:kR d C W L k) (hk:k≤100000) (ht:0≤th∧th<64) (ha:a<W.length):
  cT Tryz.prog OB 10 [pt (d rM),I6 th,I6 a] h n fun v h' n'=>∃ d' C',v=oF [U6 W[a],I6 0]∧Nx n d C X W (k+1) d' C' h' n':=by
 refine(OV oM S M hk ht ha).mono ?_
 rintro v h' n' ⟨g,k1,k2,rfl,S'⟩
 exact⟨_,_,rfl,Nx.acc S M k1 (by omega) (by rw[List.length_append,M.len];simp[AH];omega) rfl S'⟩
theorem Km (X:List Nat) (S:St h n d C) (M:kR d C W L k) (hk:k≤100000) (ht:0≤th∧th<64) (ha:a<W.length):
  cT Tryz.prog OB 133 [pt (d rM),I6 th,I6 a,U6 x] h n fun v h' n'=>∃ d' C',v=I6 0∧Nx n d C X (W.set a x) (k+1) d' C' h' n':=by
 refine(Kc oM S M hk ht ha).mono ?_
 rintro v h' n' ⟨g,k1,k2,rfl,S'⟩
 exact⟨_,_,rfl,Nx.acc S M k1 (by omega) (by rw[List.length_append,M.len];simp[AH];omega) List.length_set S'⟩
theorem Pu (X:List Nat) (S:St h n d C) (M:kR d C W L k) (hk:k≤100000) (ht:0≤th∧th<64) (ha:a<W.length) (hc:W[a]=o):
  cT Tryz.prog OB 144 [pt (d rM),I6 th,I6 a,U6 o,U6 x] h n fun v h' n'=>∃ d' C',v=oF [.bool true,I6 0]∧Nx n d C X (W.set a x) (k+1) d' C' h' n':=by
 refine(WC oM S M hk ht ha hc).mono ?_
 rintro v h' n' ⟨g,k1,k2,rfl,S'⟩
 exact⟨_,_,rfl,Nx.acc S M k1 (by omega) (by rw[List.length_append,M.len];simp[AH];omega) List.length_set S'⟩
end
def sH (pb:Nat) (th tw hd w pc:Int) (mp:Nat) (bl fl tr e:Int):List Value:=[pt pb,I6 th,I6 tw,I6 hd,U6 w,U8 pc,.map (some mp),I6 bl,I6 fl,I6 tr,I6 e]
def GF:List bp:=[(4,.func (.func 95) ⟨[]⟩ ⟨[]⟩,0),(5,.func (.func 96) ⟨[]⟩ ⟨[]⟩,1),(6,.func (.func 97) ⟨[]⟩ ⟨[]⟩,2)]
set_option maxRecDepth 100000 in
set_option maxHeartbeats 8000000 in
theorem Ib {h:PT aj} {n:Nat} {d:Rl→Nat} {C:Rl→Option aj} {mv lv p6 ov gv:Value} {q5 th x:Int} (S:St h n d C) (e1:C (75,0)=row [mv,lv,I6 q5,p6,ov,gv]) (ht:0≤th∧th<64) (hx:1≤x∧x≤6) (h5:0≤q5∧q5≤100000):
  cT Tryz.prog OB 57 [pt (d (75,0)),I6 th,I6 x,I6 0] h n fun r h' n'=>∃ p q,n≤q∧n≤p∧p<n'∧r=oF [pt p,I6 0]∧St h' n' (upd (upd d (80,0) p) (81,0) q) (upd (upd C (80,0) (row (sH (d (75,0)) th 0 (q5+x-1) 0 4 q 0 0 0 0))) (81,0) (some (.map (bA .u8 GF) 3))):=by
 have g1:=S.at e1
 have n1:=S.lt e1
 obtain⟨t1,t2⟩:=ht
 obtain⟨x1,x2⟩:=hx
 obtain⟨y1,y2⟩:=h5
 clear e1
 refine aB (N:=55) Tryz.func57 rfl rfl fun z hP hO hro hN hQ=>?_
 repeat' first |simp(maxSteps:=2000000) (disch:=first |omega |assumption) only[go_sem, *] | (apply xs<;>intro _)<;>try omega
 refine⟨n,n+1,by omega,by omega,by omega,rfl,?_⟩
 exact((((((S.new (80,0) _ (Nat.le_refl _) (Nat.lt_succ_self _)).new (81,0) _ (Nat.le_refl _) (Nat.lt_succ_self _)).set (81,0) _ au au).set (81,0) _ au au).set (81,0) _ au au).set (80,0) _ ((aq (by decide)).trans ((aq (by decide)).trans ((aq (by decide)).trans ((aq (by decide)).trans au)))) ((aq (by decide)).trans au)).eq (by simp only[gd];rw[vu (by decide),gd];rfl) rfl
@[go_sem] theorem tk4:aT 4 GF 0=some (0,.func (.func 95) ⟨[]⟩ ⟨[]⟩):=rfl
@[go_sem] theorem tk5:aT 5 GF 0=some (1,.func (.func 96) ⟨[]⟩ ⟨[]⟩):=rfl
@[go_sem] theorem tk6:aT 6 GF 0=some (2,.func (.func 97) ⟨[]⟩ ⟨[]⟩):=rfl
set_option maxRecDepth 100000 in
set_option maxHeartbeats 8000000 in
theorem DP {h:PT aj} {n:Nat} {d:Rl→Nat} {C:Rl→Option aj} {W:List Int} {L:List Value} {k hd mp:Nat} {lv p5 p6 ov gv:Value} {th w0 bl fl tr:Int} (S:St h n d C) (M:kR d C W L k) (e1:C (75,0)=row [pt (d rM),lv,p5,p6,ov,gv]) (e2:C (80,0)=row (sH (d (75,0)) th 0 hd w0 4 mp bl fl tr 0)) (e3:C (81,0)=some (.map (bA .u8 GF) 3)) (hmp:d (81,0)=mp) (ht:0≤th∧th<64) (hh:hd<W.length) (hk:k≤100000) (hw:0≤W[hd]∧W[hd]<18446744073709551616):
  cT Tryz.prog OB 58 [pt (d (80,0))] h n fun r h' n'=>∃ d' C',Nx n d C [80] W (k+1) d' C' h' n'∧C' (80,0)=row (if W[hd].tmod 65536=0 then sH (d (75,0)) th 0 hd W[hd] 0 mp bl fl tr 6 else sH (d (75,0)) th (W[hd].tmod 65536) hd W[hd] 5 mp bl fl tr 0):=by
 have g1:=S.at e1
 have g2:=S.at e2
 have g3:=S.at e3
 have n1:=S.lt e1
 have n2:=S.lt e2
 have n3:=S.lt e3
 have hl:=DN [] S M hk ht hh
 subst hmp
 unfold sH at g2
 generalize hx:W[hd]=x at*
 have w1:=Int.tmod_nonneg (65536:Int) hw.1
 have w2:=Int.tmod_lt_of_pos x (show (0:Int)<65536 by decide)
 refine aB (N:=24) Tryz.func58 rfl rfl fun z hP hO hro hN hQ=>?_
 repeat' first |simp(maxSteps:=2000000) (disch:=first |omega |assumption) only[go_sem, *,uc] | (apply xs<;>intro _)<;>try omega | ((with_reducible refine dA 5 ?_);refine dw 24 5 qE (by first | (simp only[go_sem, *];done) |rfl) (by kernel_rfl) (by kernel_rfl) ?_) | ((with_reducible refine dA 0 ?_);refine dw 24 0 tU (by first | (simp only[go_sem, *];done) |rfl) (by kernel_rfl) (by kernel_rfl) ?_) |refine fun (_ _:List Nat)=>?_ | (first |refine aC Tryz.func98 rfl ?_ ?_ ?_ ?_ |refine aC Tryz.func132 rfl ?_ ?_ ?_ ?_ |refine aC Tryz.func95 rfl ?_ ?_ ?_ ?_ |refine aC Tryz.func128 rfl ?_ ?_ ?_ ?_ |fail)<;>intros
 refine fL (hl) (by simp only[*]) (by simp only[*]) (by simp only[go_sem, *]) (by simp only[go_sem, *]) ?_
 rintro r h2 n2 ⟨d1,C1,rfl,N1⟩
 intro rd wr
 have S2:=N1.st
 obtain⟨L1,M1⟩:=N1.mem
 have oL:=N1.dd 80 0 (by decide)
 have c1:=(N1.cc 80 0 (by decide) (by simp)).trans e2
 have g5:=S2.at c1
 rw[oL] at g5
 unfold sH at g5
 clear g1 g2 g3 hl
 repeat' first |simp(maxSteps:=2000000) (disch:=first |omega |assumption) only[go_sem, *,uc] | (apply xs<;>intro _)<;>try omega | ((with_reducible refine dA 5 ?_);refine dw 24 5 qE (by first | (simp only[go_sem, *];done) |rfl) (by kernel_rfl) (by kernel_rfl) ?_) | ((with_reducible refine dA 0 ?_);refine dw 24 0 tU (by first | (simp only[go_sem, *];done) |rfl) (by kernel_rfl) (by kernel_rfl) ?_) |refine fun (_ _:List Nat)=>?_ | (first |refine aC Tryz.func98 rfl ?_ ?_ ?_ ?_ |refine aC Tryz.func132 rfl ?_ ?_ ?_ ?_ |refine aC Tryz.func95 rfl ?_ ?_ ?_ ?_ |refine aC Tryz.func128 rfl ?_ ?_ ?_ ?_ |fail)<;>intros
 ·exact⟨_,_,(N1.sub (by simp)).trans (Nx.set M1 (by decide) (by decide) c1 (((((S2.set (80,0) _ c1 oL).re oL).re oL).re oL).re oL)),au⟩
 ·exact⟨_,_,(N1.sub (by simp)).trans (Nx.set M1 (by decide) (by decide) c1 (((S2.set (80,0) _ c1 oL).re oL).re oL)),au⟩
end Go.Proofs.YtfhmopghjoeamaaGreat
set_option linter.unusedVariables false
set_option linter.unusedSimpArgs false
namespace Go.Proofs.YtfhmopghjoeamaaGreat
open Go.Am
theorem Ic {x:Int} (h0:0≤x) (h1:x<18446744073709551616):(((BitVec.ofInt 64 x&&&BitVec.ofInt 64 1099511627775).toNat:Nat):Int)=x%1099511627776:=by
 obtain⟨n,rfl⟩:=Int.eq_ofNat_of_zero_le h0
 rw[BitVec.toNat_and,BitVec.toNat_ofInt,BitVec.toNat_ofInt]
 have e1:((n:Int)%((2^64:Nat):Int)).toNat=n:=by omega
 have e2:((1099511627775:Int)%((2^64:Nat):Int)).toNat=2^40-1:=by decide
 rw[e1,e2,Nat.and_two_pow_sub_one_eq_mod]
 omega
theorem mV {t g:Int} (ht:0≤t∧t<65536) (hg:0≤g):(t+65536*g).tdiv 65536=g∧(t+65536*g).tmod 65536=t:=by
 have h:0≤t+65536*g:=by omega
 rw[Int.tdiv_eq_ediv_of_nonneg h,Int.tmod_eq_emod_of_nonneg h]
 omega
set_option maxRecDepth 100000 in
set_option maxHeartbeats 8000000 in
theorem GG {h:PT aj} {n:Nat} {d:Rl→Nat} {C:Rl→Option aj} {W:List Int} {L:List Value} {k mp a:Nat} {lv p5 ov gv:Value} {th t q6 hd w0 bl fl tr:Int} (S:St h n d C) (M:kR d C W L k) (e1:C (75,0)=row [pt (d rM),lv,p5,I6 q6,ov,gv]) (e2:C (80,0)=row (sH (d (75,0)) th t hd w0 5 mp bl fl tr 0)) (e3:C (81,0)=some (.map (bA .u8 GF) 3)) (hmp:d (81,0)=mp) (ht:0≤th∧th<64) (h6:0≤q6∧q6<100000) (WZ:1≤t∧t<65536) (hqa:q6+t-1=(a:Int)) (ha:a<W.length) (hk:k≤100000) (hw:0≤W[a]∧W[a]<65536):
  cT Tryz.prog OB 58 [pt (d (80,0))] h n fun r h' n'=>∃ d' C',Nx n d C [80] W (k+1) d' C' h' n'∧C' (80,0)=row (sH (d (75,0)) th t hd w0 6 mp W[a] fl tr 0):=by
 have g1:=S.at e1
 have g2:=S.at e2
 have g3:=S.at e3
 have n1:=S.lt e1
 have n2:=S.lt e2
 have n3:=S.lt e3
 have hl:=DN [] S M hk ht ha
 subst hmp
 unfold sH at g2
 generalize hx:W[a]=x at*
 refine aB (N:=24) Tryz.func58 rfl rfl fun z hP hO hro hN hQ=>?_
 repeat' first |simp(maxSteps:=2000000) (disch:=first |omega |assumption) only[go_sem, *,mR] | (apply xs<;>intro _)<;>try omega | ((with_reducible refine dA 5 ?_);refine dw 24 5 qE (by first | (simp only[go_sem, *];done) |rfl) (by kernel_rfl) (by kernel_rfl) ?_) | ((with_reducible refine dA 0 ?_);refine dw 39 0 HT (by first | (simp only[go_sem, *];done) |rfl) (by kernel_rfl) (by kernel_rfl) ?_) |refine fun (_ _:List Nat)=>?_ | (first |refine aC Tryz.func98 rfl ?_ ?_ ?_ ?_ |refine aC Tryz.func132 rfl ?_ ?_ ?_ ?_ |refine aC Tryz.func96 rfl ?_ ?_ ?_ ?_ |fail)<;>intros
 refine fL (hl) (by simp only[*]) (by simp only[*]) (by simp only[go_sem, *]) (by simp only[go_sem, *]) ?_
 rintro r h2 n2 ⟨d1,C1,rfl,N1⟩
 intro rd wr
 have S2:=N1.st
 obtain⟨L1,M1⟩:=N1.mem
 have oL:=N1.dd 80 0 (by decide)
 have c1:=(N1.cc 80 0 (by decide) (by simp)).trans e2
 have g5:=S2.at c1
 rw[oL] at g5
 unfold sH at g5
 clear g1 g2 g3 hl
 repeat' first |simp(maxSteps:=2000000) (disch:=first |omega |assumption) only[go_sem, *,mR] | (apply xs<;>intro _)<;>try omega | ((with_reducible refine dA 5 ?_);refine dw 24 5 qE (by first | (simp only[go_sem, *];done) |rfl) (by kernel_rfl) (by kernel_rfl) ?_) | ((with_reducible refine dA 0 ?_);refine dw 39 0 HT (by first | (simp only[go_sem, *];done) |rfl) (by kernel_rfl) (by kernel_rfl) ?_) |refine fun (_ _:List Nat)=>?_ | (first |refine aC Tryz.func98 rfl ?_ ?_ ?_ ?_ |refine aC Tryz.func132 rfl ?_ ?_ ?_ ?_ |refine aC Tryz.func96 rfl ?_ ?_ ?_ ?_ |fail)<;>intros
 exact⟨_,_,(N1.sub (by simp)).trans (Nx.set M1 (by decide) (by decide) c1 ((S2.set (80,0) _ c1 oL).re oL)),au⟩
set_option maxRecDepth 100000 in
set_option maxHeartbeats 8000000 in
theorem Kn {h:PT aj} {n:Nat} {d:Rl→Nat} {C:Rl→Option aj} {W:List Int} {L:List Value} {k hd mp xk b:Nat} {X:List bp} {lv p5 p6 gv:Value} {th t fl tr g:Int} (S:St h n d C) (M:kR d C W L k) (e1:C (75,0)=row [pt (d rM),lv,p5,p6,.map (some (d (76,0))),gv]) (e2:C (80,0)=row (sH (d (75,0)) th t hd (t+65536*g) 6 mp b fl tr 0)) (e3:C (81,0)=some (.map (bA .u8 GF) 3)) (e4:C (76,0)=some (.map (bA .i64 X) xk)) (hmp:d (81,0)=mp) (ht:0≤th∧th<64) (hh:hd<W.length) (hk:k≤100000) (hw:W[hd]=t+65536*g) (WZ:1≤t∧t<65536) (hg:0≤g∧g<1099511627776) (hb:b≤1024) (hX:∀ e∈X,e.1≠t):
  cT Tryz.prog OB 58 [pt (d (80,0))] h n fun r h' n'=>∃ d' C',Nx n d C [80,76] (W.set hd ((b:Int)+65536*((g+1)%1099511627776))) (k+1) d' C' h' n'∧C' (80,0)=row (sH (d (75,0)) th t hd (t+65536*g) 0 mp b fl tr 0)∧C' (76,0)=some (.map (bA .i64 (X++[(t,.bool false,xk)])) (xk+1)):=by
 have g1:=S.at e1
 have g2:=S.at e2
 have g3:=S.at e3
 have g4:=S.at e4
 have n1:=S.lt e1
 have n2:=S.lt e2
 have n3:=S.lt e3
 have hl:=Pu (x:=(b:Int)+65536*((g+1)%1099511627776)) [] S M hk ht hh hw
 subst hmp
 unfold sH at g2
 have hdv:=(mV (t:=t) (g:=g) ⟨by omega,by omega⟩ hg.1).1
 have W0:(((BitVec.ofInt IntKind.u64.bits (g+1)&&&BitVec.ofInt IntKind.u64.bits 1099511627775).toNat:Nat):Int)=(g+1)%1099511627776:=Ic (x:=g+1) (by omega) (by omega)
 have Tj:0≤(g+1)%1099511627776∧(g+1)%1099511627776<1099511627776:=by omega
 obtain⟨hm1,hm2⟩:=Tj
 have hft:aT t X 0=none:=lR hX
 generalize hgg:(g+1)%1099511627776=g' at*
 simp(disch:=omega) only[go_sem] at W0
 refine aB (N:=24) Tryz.func58 rfl rfl fun z hP hO hro hN hQ=>?_
 repeat' first |simp(maxSteps:=2000000) (disch:=first |omega |assumption) only[go_sem, *] | (apply xs<;>intro _)<;>try omega | ((with_reducible refine dA 5 ?_);refine dw 24 5 qE (by first | (simp only[go_sem, *];done) |rfl) (by kernel_rfl) (by kernel_rfl) ?_) | ((with_reducible refine dA 0 ?_);refine dw 58 0 HU (by first | (simp only[go_sem, *];done) |rfl) (by kernel_rfl) (by kernel_rfl) ?_) | ((with_reducible refine dA 1 ?_);refine dw 58 1 HV (by first | (simp only[go_sem, *];done) |rfl) (by kernel_rfl) (by kernel_rfl) ?_) | ((with_reducible refine dA 5 ?_);refine dw 58 5 HW (by first | (simp only[go_sem, *];done) |rfl) (by kernel_rfl) (by kernel_rfl) ?_) | ((with_reducible refine dA 2 ?_);refine dw 46 2 tV (by first | (simp only[go_sem, *];done) |rfl) (by kernel_rfl) (by kernel_rfl) ?_) |refine fun (_ _:List Nat)=>?_ | (first |refine aC Tryz.func98 rfl ?_ ?_ ?_ ?_ |refine aC Tryz.func132 rfl ?_ ?_ ?_ ?_ |refine aC Tryz.func97 rfl ?_ ?_ ?_ ?_ |refine aC Tryz.func131 rfl ?_ ?_ ?_ ?_ |refine aC Tryz.func143 rfl ?_ ?_ ?_ ?_ |refine aC Tryz.func56 rfl ?_ ?_ ?_ ?_ |fail)<;>intros
 refine fL (hl) (by simp only[*]) (by simp only[*]) (by simp only[go_sem, *]) (by simp only[go_sem, *]) ?_
 rintro r h2 n2 ⟨d1,C1,rfl,N1⟩
 intro rd wr
 have S2:=N1.st
 obtain⟨L1,M1⟩:=N1.mem
 have oL:=N1.dd 80 0 (by decide)
 have W5:=N1.dd 75 0 (by decide)
 have Mc:=N1.dd 76 0 (by decide)
 have c1:=(N1.cc 80 0 (by decide) (by simp)).trans e2
 have c2:=(N1.cc 75 0 (by decide) (by simp)).trans e1
 have c3:=(N1.cc 76 0 (by decide) (by simp)).trans e4
 have g5:=S2.at c1
 have g6:=S2.at c2
 have g7:=S2.at c3
 have d17:=S2.df c1 c3 (by decide)
 rw[oL] at g5 d17
 rw[W5] at g6
 rw[Mc] at g7 d17
 unfold sH at g5
 clear g1 g2 g3 g4 hl
 repeat' first |simp(maxSteps:=2000000) (disch:=first |omega |assumption) only[go_sem, *] | (apply xs<;>intro _)<;>try omega | ((with_reducible refine dA 5 ?_);refine dw 24 5 qE (by first | (simp only[go_sem, *];done) |rfl) (by kernel_rfl) (by kernel_rfl) ?_) | ((with_reducible refine dA 0 ?_);refine dw 58 0 HU (by first | (simp only[go_sem, *];done) |rfl) (by kernel_rfl) (by kernel_rfl) ?_) | ((with_reducible refine dA 1 ?_);refine dw 58 1 HV (by first | (simp only[go_sem, *];done) |rfl) (by kernel_rfl) (by kernel_rfl) ?_) | ((with_reducible refine dA 5 ?_);refine dw 58 5 HW (by first | (simp only[go_sem, *];done) |rfl) (by kernel_rfl) (by kernel_rfl) ?_) | ((with_reducible refine dA 2 ?_);refine dw 46 2 tV (by first | (simp only[go_sem, *];done) |rfl) (by kernel_rfl) (by kernel_rfl) ?_) |refine fun (_ _:List Nat)=>?_ | (first |refine aC Tryz.func98 rfl ?_ ?_ ?_ ?_ |refine aC Tryz.func132 rfl ?_ ?_ ?_ ?_ |refine aC Tryz.func97 rfl ?_ ?_ ?_ ?_ |refine aC Tryz.func131 rfl ?_ ?_ ?_ ?_ |refine aC Tryz.func143 rfl ?_ ?_ ?_ ?_ |refine aC Tryz.func56 rfl ?_ ?_ ?_ ?_ |fail)<;>intros
 rw[sv]
 exact⟨_,_,((N1.sub (by simp)).trans (Nx.set M1 (X:=[80,76]) (by decide) (by decide) c3 (S2.set (76,0) _ c3 Mc))).trans (Nx.set (M1.of fun a ha=>⟨rfl,aq (by omega)⟩) (by decide) (by decide) ((aq (by decide)).trans c1) ((S2.set (76,0) _ c3 Mc).set (80,0) _ ((aq (by decide)).trans c1) oL)),au,by rw[aq (by decide),au]⟩
end Go.Proofs.YtfhmopghjoeamaaGreat
set_option linter.unusedVariables false
set_option linter.unusedSimpArgs false
namespace Go.Proofs.YtfhmopghjoeamaaGreat
open Go.Am
def vU (pb:Nat) (th tw hd w pc:Int) (mp:Nat):List Value:=[pt pb,I6 th,I6 tw,I6 hd,U6 w,U8 pc,.map (some mp)]
def Ie:List bp:=[(4,.func (.func 99) ⟨[]⟩ ⟨[]⟩,0),(7,.func (.func 100) ⟨[]⟩ ⟨[]⟩,1),(8,.func (.func 101) ⟨[]⟩ ⟨[]⟩,2)]
@[go_sem] theorem gv4:aT 4 Ie 0=some (0,.func (.func 99) ⟨[]⟩ ⟨[]⟩):=rfl
@[go_sem] theorem gv7:aT 7 Ie 0=some (1,.func (.func 100) ⟨[]⟩ ⟨[]⟩):=rfl
@[go_sem] theorem gv8:aT 8 Ie 0=some (2,.func (.func 101) ⟨[]⟩ ⟨[]⟩):=rfl
set_option maxRecDepth 100000 in
set_option maxHeartbeats 8000000 in
theorem Ko {h:PT aj} {n:Nat} {d:Rl→Nat} {C:Rl→Option aj} {W:List Int} {L:List Value} {k hd mp:Nat} {lv p5 p6 ov gv:Value} {th t w0:Int} (S:St h n d C) (M:kR d C W L k) (e1:C (75,0)=row [pt (d rM),lv,p5,p6,ov,gv]) (e2:C (80,0)=row (vU (d (75,0)) th t hd w0 4 mp)) (e3:C (81,0)=some (.map (bA .u8 Ie) 3)) (hmp:d (81,0)=mp) (ht:0≤th∧th<64) (hh:hd<W.length) (hk:k≤100000):
  cT Tryz.prog OB 61 [pt (d (80,0))] h n fun r h' n'=>∃ d' C',Nx n d C [80] W (k+1) d' C' h' n'∧C' (80,0)=row (vU (d (75,0)) th t hd W[hd] 7 mp):=by
 have g1:=S.at e1
 have g2:=S.at e2
 have g3:=S.at e3
 have n1:=S.lt e1
 have n2:=S.lt e2
 have n3:=S.lt e3
 have hl:=DN [] S M hk ht hh
 subst hmp
 unfold vU at g2
 generalize hx:W[hd]=x at*
 refine aB (N:=24) Tryz.func61 rfl rfl fun z hP hO hro hN hQ=>?_
 repeat' first |simp(maxSteps:=2000000) (disch:=first |omega |assumption) only[go_sem, *] | (apply xs<;>intro _)<;>try omega | ((with_reducible refine dA 5 ?_);refine dw 24 5 sB (by first | (simp only[go_sem, *];done) |rfl) (by kernel_rfl) (by kernel_rfl) ?_) | ((with_reducible refine dA 0 ?_);refine dw 24 0 tU (by first | (simp only[go_sem, *];done) |rfl) (by kernel_rfl) (by kernel_rfl) ?_) |refine fun (_ _:List Nat)=>?_ | (first |refine aC Tryz.func102 rfl ?_ ?_ ?_ ?_ |refine aC Tryz.func132 rfl ?_ ?_ ?_ ?_ |refine aC Tryz.func99 rfl ?_ ?_ ?_ ?_ |refine aC Tryz.func128 rfl ?_ ?_ ?_ ?_ |fail)<;>intros
 refine fL (hl) (by simp only[*]) (by simp only[*]) (by simp only[go_sem, *]) (by simp only[go_sem, *]) ?_
 rintro r h2 n2 ⟨d1,C1,rfl,N1⟩
 intro rd wr
 have S2:=N1.st
 obtain⟨L1,M1⟩:=N1.mem
 have oL:=N1.dd 80 0 (by decide)
 have c1:=(N1.cc 80 0 (by decide) (by simp)).trans e2
 have g5:=S2.at c1
 rw[oL] at g5
 unfold vU at g5
 clear g1 g2 g3 hl
 repeat' first |simp(maxSteps:=2000000) (disch:=first |omega |assumption) only[go_sem, *] | (apply xs<;>intro _)<;>try omega | ((with_reducible refine dA 5 ?_);refine dw 24 5 sB (by first | (simp only[go_sem, *];done) |rfl) (by kernel_rfl) (by kernel_rfl) ?_) | ((with_reducible refine dA 0 ?_);refine dw 24 0 tU (by first | (simp only[go_sem, *];done) |rfl) (by kernel_rfl) (by kernel_rfl) ?_) |refine fun (_ _:List Nat)=>?_ | (first |refine aC Tryz.func102 rfl ?_ ?_ ?_ ?_ |refine aC Tryz.func132 rfl ?_ ?_ ?_ ?_ |refine aC Tryz.func99 rfl ?_ ?_ ?_ ?_ |refine aC Tryz.func128 rfl ?_ ?_ ?_ ?_ |fail)<;>intros
 exact⟨_,_,(N1.sub (by simp)).trans (Nx.set M1 (by decide) (by decide) c1 ((S2.set (80,0) _ c1 oL).re oL)),au⟩
set_option maxRecDepth 100000 in
set_option maxHeartbeats 8000000 in
theorem Kq {h:PT aj} {n:Nat} {d:Rl→Nat} {C:Rl→Option aj} {W:List Int} {L:List Value} {k mp a:Nat} {lv p5 ov gv:Value} {th t q6 hd b g:Int} (S:St h n d C) (M:kR d C W L k) (e1:C (75,0)=row [pt (d rM),lv,p5,I6 q6,ov,gv]) (e2:C (80,0)=row (vU (d (75,0)) th t hd (b+65536*g) 7 mp)) (e3:C (81,0)=some (.map (bA .u8 Ie) 3)) (hmp:d (81,0)=mp) (ht:0≤th∧th<64) (h6:0≤q6∧q6<100000) (WZ:1≤t∧t<65536) (hqa:q6+t-1=(a:Int)) (ha:a<W.length) (hk:k≤100000) (hb:0≤b∧b<65536) (hg:0≤g∧g<1099511627776):
  cT Tryz.prog OB 61 [pt (d (80,0))] h n fun r h' n'=>∃ d' C',Nx n d C [80] (W.set a b) (k+1) d' C' h' n'∧C' (80,0)=row (vU (d (75,0)) th t hd (b+65536*g) 8 mp):=by
 have g1:=S.at e1
 have g2:=S.at e2
 have g3:=S.at e3
 have n1:=S.lt e1
 have n2:=S.lt e2
 have n3:=S.lt e3
 have hl:=Km (x:=b) [] S M hk ht ha
 subst hmp
 unfold vU at g2
 have Tj:=(mV hb hg.1).2
 refine aB (N:=24) Tryz.func61 rfl rfl fun z hP hO hro hN hQ=>?_
 repeat' first |simp(maxSteps:=2000000) (disch:=first |omega |assumption) only[go_sem, *,mR,uc] | (apply xs<;>intro _)<;>try omega | ((with_reducible refine dA 5 ?_);refine dw 24 5 sB (by first | (simp only[go_sem, *];done) |rfl) (by kernel_rfl) (by kernel_rfl) ?_) | ((with_reducible refine dA 0 ?_);refine dw 36 0 Dl (by first | (simp only[go_sem, *];done) |rfl) (by kernel_rfl) (by kernel_rfl) ?_) |refine fun (_ _:List Nat)=>?_ | (first |refine aC Tryz.func102 rfl ?_ ?_ ?_ ?_ |refine aC Tryz.func132 rfl ?_ ?_ ?_ ?_ |refine aC Tryz.func100 rfl ?_ ?_ ?_ ?_ |fail)<;>intros
 refine fL (hl) (by simp only[*]) (by simp only[*]) (by simp only[go_sem, *]) (by simp only[go_sem, *]) ?_
 rintro r h2 n2 ⟨d1,C1,rfl,N1⟩
 intro rd wr
 have S2:=N1.st
 obtain⟨L1,M1⟩:=N1.mem
 have oL:=N1.dd 80 0 (by decide)
 have c1:=(N1.cc 80 0 (by decide) (by simp)).trans e2
 have g5:=S2.at c1
 rw[oL] at g5
 unfold vU at g5
 clear g1 g2 g3 hl
 repeat' first |simp(maxSteps:=2000000) (disch:=first |omega |assumption) only[go_sem, *,mR,uc] | (apply xs<;>intro _)<;>try omega | ((with_reducible refine dA 5 ?_);refine dw 24 5 sB (by first | (simp only[go_sem, *];done) |rfl) (by kernel_rfl) (by kernel_rfl) ?_) | ((with_reducible refine dA 0 ?_);refine dw 36 0 Dl (by first | (simp only[go_sem, *];done) |rfl) (by kernel_rfl) (by kernel_rfl) ?_) |refine fun (_ _:List Nat)=>?_ | (first |refine aC Tryz.func102 rfl ?_ ?_ ?_ ?_ |refine aC Tryz.func132 rfl ?_ ?_ ?_ ?_ |refine aC Tryz.func100 rfl ?_ ?_ ?_ ?_ |fail)<;>intros
 exact⟨_,_,(N1.sub (by simp)).trans (Nx.set M1 (by decide) (by decide) c1 (S2.set (80,0) _ c1 oL)),au⟩
set_option maxRecDepth 100000 in
set_option maxHeartbeats 8000000 in
theorem Kr {h:PT aj} {n:Nat} {d:Rl→Nat} {C:Rl→Option aj} {W:List Int} {L:List Value} {k hd mp xk t j:Nat} {X:List bp} {G:List Int} {lv p5 p6 fv:Value} {th b g x:Int} (S:St h n d C) (M:kR d C W L k) (e1:C (75,0)=row [pt (d rM),lv,p5,p6,.map (some (d (76,0))),.slice (some ⟨d (77,0),0,none⟩) G.length G.length]) (e2:C (80,0)=row (vU (d (75,0)) th t hd (b+65536*g) 8 mp)) (e3:C (81,0)=some (.map (bA .u8 Ie) 3)) (e4:C (76,0)=some (.map (bA .i64 X) xk)) (e5:C (77,0)=row (G.map (.int .i64))) (hmp:d (81,0)=mp) (ht:0≤th∧th<64) (hh:hd<W.length) (hk:k≤100000) (hw:W[hd]=b+65536*g) (WZ:1≤t∧t≤G.length) (wz:G.length≤1024) (hg:0≤g∧g<1099511627776) (hb:0≤b∧b<65536) (hX:aT (t:Int) X 0=some (j,fv)) (W6:G[t-1]? = some x) (hx:0≤x∧x<1000000):
  cT Tryz.prog OB 61 [pt (d (80,0))] h n fun r h' n'=>∃ d' C',Nx n d C [80,76,77] (W.set hd ((t:Int)+65536*((g+1)%1099511627776))) (k+1) d' C' h' n'∧C' (80,0)=row (vU (d (75,0)) th t hd (b+65536*g) 0 mp)∧C' (76,0)=some (.map (bA .i64 (X.eraseIdx j)) xk)∧C' (77,0)=row ((G.set (t-1) (x+1)).map (.int .i64)):=by
 have g1:=S.at e1
 have g2:=S.at e2
 have g3:=S.at e3
 have g4:=S.at e4
 have n1:=S.lt e1
 have n2:=S.lt e2
 have n3:=S.lt e3
 have d20:=S.df e1 e2 (by decide)
 have S1:=S.set (80,0) (.cells (PT.ofList .leaf 0 (vU (d (75,0)) th t hd (b+65536*g) 4 mp)) false) e2 rfl
 have M0:=M.of (d':=d) (C':=upd C (80,0) (row (vU (d (75,0)) th t hd (b+65536*g) 4 mp))) fun a ha=>⟨rfl,aq (by omega)⟩
 have N0:=Nx.set M (X:=[80,76,77]) (by decide) (by decide) e2 S1
 have hl:=Pu (x:=(t:Int)+65536*((g+1)%1099511627776)) [] S1 M0 hk ht hh hw
 subst hmp
 simp only[vU] at g2 hl
 have hdv:=(mV hb hg.1).1
 have W0:(((BitVec.ofInt IntKind.u64.bits (g+1)&&&BitVec.ofInt IntKind.u64.bits 1099511627775).toNat:Nat):Int)=(g+1)%1099511627776:=Ic (x:=g+1) (by omega) (by omega)
 have Tj:0≤(g+1)%1099511627776∧(g+1)%1099511627776<1099511627776:=by omega
 obtain⟨hm1,hm2⟩:=Tj
 have ht1:(t:Int)-1=((t-1:Nat):Int):=by omega
 have hgt:(G.map (Value.int .i64))[t-1]? = some (.int .i64 x):=by rw[List.getElem?_map,W6];rfl
 have hgs:(G.map (Value.int .i64)).set (t-1) (.int .i64 (x+1))=(G.set (t-1) (x+1)).map (.int .i64):=by rw[List.map_set]
 have ht2:((t-1:Nat):Int)<G.length:=by omega
 have J1:(0:Int)≤((t-1:Nat):Int):=by omega
 generalize hgg:(g+1)%1099511627776=g' at*
 simp(disch:=omega) only[go_sem] at W0
 refine aB (N:=24) Tryz.func61 rfl rfl fun z hP hO hro hN hQ=>?_
 repeat' first |simp(maxSteps:=2000000) (disch:=first |omega |assumption) only[go_sem, *] | (apply xs<;>intro _)<;>try omega | ((with_reducible refine dA 5 ?_);refine dw 24 5 sB (by first | (simp only[go_sem, *];done) |rfl) (by kernel_rfl) (by kernel_rfl) ?_) | ((with_reducible refine dA 1 ?_);refine dw 50 1 Dm (by first | (simp only[go_sem, *];done) |rfl) (by kernel_rfl) (by kernel_rfl) ?_) | ((with_reducible refine dA 2 ?_);refine dw 50 2 Dn (by first | (simp only[go_sem, *];done) |rfl) (by kernel_rfl) (by kernel_rfl) ?_) | ((with_reducible refine dA 3 ?_);refine dw 50 3 Dp (by first | (simp only[go_sem, *];done) |rfl) (by kernel_rfl) (by kernel_rfl) ?_) | ((with_reducible refine dA 2 ?_);refine dw 46 2 tV (by first | (simp only[go_sem, *];done) |rfl) (by kernel_rfl) (by kernel_rfl) ?_) |refine fun (_ _:List Nat)=>?_ | (first |refine aC Tryz.func102 rfl ?_ ?_ ?_ ?_ |refine aC Tryz.func132 rfl ?_ ?_ ?_ ?_ |refine aC Tryz.func101 rfl ?_ ?_ ?_ ?_ |refine aC Tryz.func131 rfl ?_ ?_ ?_ ?_ |refine aC Tryz.func143 rfl ?_ ?_ ?_ ?_ |refine aC Tryz.func56 rfl ?_ ?_ ?_ ?_ |fail)<;>intros
 refine fL (hl) (by simp only[*]) (by simp only[*]) (by simp only[go_sem, *]) (by simp only[go_sem, *]) ?_
 rintro r h2 n2 ⟨d1,C1,rfl,N1⟩
 intro rd wr
 have S2:=N1.st
 obtain⟨L1,M1⟩:=N1.mem
 have oL:=N1.dd 80 0 (by decide)
 have W5:=N1.dd 75 0 (by decide)
 have Mc:=N1.dd 76 0 (by decide)
 have dd7:=N1.dd 77 0 (by decide)
 have c1:=(N1.cc 80 0 (by decide) (by simp)).trans au
 have c2:=(N1.cc 75 0 (by decide) (by simp)).trans ((aq (by decide)).trans e1)
 have c3:=(N1.cc 76 0 (by decide) (by simp)).trans ((aq (by decide)).trans e4)
 have c4:=(N1.cc 77 0 (by decide) (by simp)).trans ((aq (by decide)).trans e5)
 have g5:=S2.at c1
 have g6:=S2.at c2
 have g7:=S2.at c3
 have g8:=S2.at c4
 have d17:=S2.df c1 c3 (by decide)
 have d18:=S2.df c1 c4 (by decide)
 have d19:=S2.df c3 c4 (by decide)
 have d16:=S2.df c2 c3 (by decide)
 have d15:=S2.df c2 c4 (by decide)
 rw[oL] at g5 d17 d18
 rw[W5] at g6 d16 d15
 rw[Mc] at g7 d17 d19 d16
 rw[dd7] at g8 d18 d19 d15
 try simp only[vU] at g5
 clear g1 g2 g3 g4 hl S1 M0
 repeat' first |simp(maxSteps:=2000000) (disch:=first |omega |assumption) only[go_sem, *] | (apply xs<;>intro _)<;>try omega | ((with_reducible refine dA 5 ?_);refine dw 24 5 sB (by first | (simp only[go_sem, *];done) |rfl) (by kernel_rfl) (by kernel_rfl) ?_) | ((with_reducible refine dA 1 ?_);refine dw 50 1 Dm (by first | (simp only[go_sem, *];done) |rfl) (by kernel_rfl) (by kernel_rfl) ?_) | ((with_reducible refine dA 2 ?_);refine dw 50 2 Dn (by first | (simp only[go_sem, *];done) |rfl) (by kernel_rfl) (by kernel_rfl) ?_) | ((with_reducible refine dA 3 ?_);refine dw 50 3 Dp (by first | (simp only[go_sem, *];done) |rfl) (by kernel_rfl) (by kernel_rfl) ?_) | ((with_reducible refine dA 2 ?_);refine dw 46 2 tV (by first | (simp only[go_sem, *];done) |rfl) (by kernel_rfl) (by kernel_rfl) ?_) |refine fun (_ _:List Nat)=>?_ | (first |refine aC Tryz.func102 rfl ?_ ?_ ?_ ?_ |refine aC Tryz.func132 rfl ?_ ?_ ?_ ?_ |refine aC Tryz.func101 rfl ?_ ?_ ?_ ?_ |refine aC Tryz.func131 rfl ?_ ?_ ?_ ?_ |refine aC Tryz.func143 rfl ?_ ?_ ?_ ?_ |refine aC Tryz.func56 rfl ?_ ?_ ?_ ?_ |fail)<;>intros
 have T1:=S2.set (76,0) (.map (bA .i64 (X.eraseIdx j)) xk) c3 Mc
 have P1:=Nx.set M1 (X:=[80,76,77]) (by decide) (by decide) c3 T1
 have T2:=T1.set (77,0) (.cells (PT.ofList .leaf 0 ((G.set (t-1) (x+1)).map (.int .i64))) false) ((aq (by decide)).trans c4) dd7
 obtain⟨L2,M2⟩:=P1.mem
 have P2:=Nx.set M2 (X:=[80,76,77]) (by decide) (by decide) ((aq (by decide)).trans c4) T2
 have c5:=((aq (by decide)).trans ((aq (by decide)).trans c1):upd (upd C1 (76,0) (some (.map (bA .i64 (X.eraseIdx j)) xk))) (77,0) (row ((G.set (t-1) (x+1)).map (.int .i64))) (80,0)=_)
 have T3:=T2.set (80,0) (.cells (PT.ofList .leaf 0 (vU (d (75,0)) th t hd (b+65536*g) 0 (d (81,0)))) false) c5 oL
 obtain⟨L3,M3⟩:=P2.mem
 have P3:=Nx.set M3 (X:=[80,76,77]) (by decide) (by decide) c5 T3
 exact⟨_,_,((N0.trans (N1.sub (by simp))).trans P1).trans (P2.trans P3),au,by rw[aq (by decide),aq (by decide),au],by rw[aq (by decide),au]⟩
end Go.Proofs.YtfhmopghjoeamaaGreat
