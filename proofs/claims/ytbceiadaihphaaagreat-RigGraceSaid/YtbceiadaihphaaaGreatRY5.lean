/-
  A part of the proof: contracts of inner functions.
-/
import Derived.Test.YtbceiadaihphaaaGreatRY2
set_option linter.unusedVariables false
set_option linter.unusedSimpArgs false
namespace Go.Proofs.YtbceiadaihphaaaGreat
open Go.Am
structure Kit (e : Eng) (ns : Nat) (rep : e.σ → Nat → (Rl → Nat) → (Rl → Option ABlk) → Prop) (hasv guard fresh : e.σ → Nat → Nat → Prop) (pcE pcW : e.σ → Nat → Int) (kd nb nw : Nat) (s0 : e.σ) (xp : Nat) : Prop where
 hns : 0 < ns ∧ ns ≤ 64
 F : Face e ns rep
 N : FaceN e ns rep pcE pcW
 G : e.Grace ns hasv guard
 Fe : e.Fresh ns hasv guard fresh
 kind : ∀ {s k d C}, rep s k d C → ∃ x z, C (4, 0) = row [x, U8 kd, z]
 B : Start e ns rep kd nb nw s0
 xp : xp = if kd = 3 then 16 else 13
theorem kitF {ns : Nat} (hns : 0 < ns ∧ ns ≤ 64) : Kit (engF ns) ns (RepF ns) (fun _ _ _ => True) guardF freshF (fun _ _ => 13) (fun _ _ => 17) 1 0 ns FS.new 13 :=
 ⟨hns, faceF hns, faceNF, graceF ns, freF ns, fun R => ⟨_, _, R.eng.prcu⟩, startF hns, rfl⟩
theorem kitE {ns : Nat} (hns : 0 < ns ∧ ns ≤ 64) : Kit (engE ns) ns (RepE ns) hasE guardE freshE pcEE pcWE 2 0 (2 * ns) ES.new 13 :=
 ⟨hns, faceE hns, faceNE, graceE ns, freE ns, fun R => ⟨_, _, R.eng.prcu⟩, startE hns, rfl⟩
theorem kitG {ns nb : Nat} (hns : 0 < ns ∧ ns ≤ 64) (hnb : 0 < nb ∧ nb ≤ 16) : Kit (engG ns nb) ns (RepG ns nb) (hasG nb) guardG (freshG nb) pcEG pcWG 3 nb (4 * nb) GS.new 16 :=
 ⟨hns, faceG nb hns, faceNG, graceG hnb.1, freG hnb.1, fun R => by obtain ⟨X, ck, E, _⟩ := R.eng; exact ⟨_, _, E.prcu⟩, startG hns hnb, rfl⟩
end Go.Proofs.YtbceiadaihphaaaGreat
set_option linter.unusedVariables false
set_option linter.unusedSimpArgs false
namespace Go.Proofs.YtbceiadaihphaaaGreat
open Go.Am
variable {e : Eng} {ops : Ops} {xp ns : Nat} {hasv guard fresh : e.σ → Nat → Nat → Prop}
theorem RInv.up {r : RS e} (I : RInv ops xp hasv fresh ns r) : RInv ops xp hasv fresh ns r.up := ⟨I.one, fun k hk => (I.at_ k hk).of rfl rfl rfl rfl rfl rfl, I.val, I.fr, I.fits⟩
theorem beg_ev {r : RS e} {k : Nat} : (RS.beg ops xp r k).ev = r.ev := by
 unfold RS.beg; split
 ·rfl
 ·split
  ·rfl
  ·split
   ·rfl
   ·split <;> rfl
theorem mid_ev {r : RS e} {t : Nat} : (r.mid ops t).ev.length ≤ r.ev.length + 2 := by
 unfold RS.mid; split
 ·show (if _ then _ else _ : List _).length ≤ _
  split
  ·omega
  ·simp
 ·split
  ·show ((if _ then _ else _ : List _) ++ (if _ then _ else _)).length ≤ _
   rw [List.length_append]
   have h1 : ∀ (p : Prop) [Decidable p] (a : Nat × Nat × Nat × Nat), (if p then r.ev else r.ev ++ [a]).length ≤ r.ev.length + 1 := fun p _ a => by split <;> simp
   have h2 : ∀ (p : Prop) [Decidable p] (a : Nat × Nat × Nat × Nat), (if p then ([] : List (Nat × Nat × Nat × Nat)) else [a]).length ≤ 1 := fun p _ a => by split <;> simp
   have := h1 (r.bg t = true) (r.n, t, 3, r.setOf ops t)
   have := h2 (e.wt (e.wstep r.s t) t = true) (r.n, t, 4, r.setOf ops t)
   omega
  ·split
   ·omega
   ·show (r.ev ++ [_]).length ≤ _
    simp
theorem pick_len {r : RS e} {t : Nat} : (RS.pick ops xp r t).ev.length ≤ r.ev.length + 2 ∧ (RS.pick ops xp r t).n = r.n + 1 := by
 unfold RS.pick
 split
 ·rename_i h
  rw [step_mid h]
  have := mid_ev (ops := ops) (r := r) (t := t)
  split
  ·refine ⟨?_, ?_⟩
   ·show (RS.beg ops xp _ t).ev.length ≤ _; rw [beg_ev]; exact this
   ·show (RS.beg ops xp _ t).n + 1 = _; rw [beg_n]; show (r.mid ops t).n + 1 = _; rw [mid_n]
  ·refine ⟨this, ?_⟩
   show (r.mid ops t).n + 1 = _; rw [mid_n]
 ·exact ⟨by show r.ev.length ≤ _; omega, rfl⟩
theorem RInv.pick (G : e.Grace ns hasv guard) (Fr : e.Fresh ns hasv guard fresh) {r : RS e} {t : Nat} (I : RInv ops xp hasv fresh ns r) (ht : t < ns) (hx : xp ≠ 0 ∧ xp ≠ 1) : RInv ops xp hasv fresh ns (RS.pick ops xp r t) := by
 unfold RS.pick
 split
 ·rename_i h; exact (I.step G Fr ht hx h).up
 ·exact I.up
theorem SB.up {r : RS e} (b : SB ops xp hasv guard fresh r) : SB ops xp hasv guard fresh r.up := ⟨b.inv.up, b.idx, b.wt, b.gd, b.inn⟩
theorem SA.up {me : e.σ → Nat → Nat} {v set m : Nat} {r : RS e} (a : SA ops xp hasv fresh me v set r m) : SA ops xp hasv fresh me v set r.up m := ⟨a.inv.up, a.idx, a.wt, a.fr, a.ent, a.val, a.soon⟩
theorem SB.pick (G : e.Grace 3 hasv guard) (Fr : e.Fresh 3 hasv guard fresh) {r : RS e} (b : SB ops xp hasv guard fresh r) {k : Nat} (hk : k < 3) (h0 : k ≠ 0) (hx : xp ≠ 0 ∧ xp ≠ 1) : SB ops xp hasv guard fresh (RS.pick ops xp r k) := by
 unfold RS.pick
 split
 ·rename_i h; exact (b.step G Fr hk h0 hx h).up
 ·exact b.up
theorem SA.pick (G : e.Grace 3 hasv guard) (Fr : e.Fresh 3 hasv guard fresh) {me : e.σ → Nat → Nat} (hme : ∀ s t, e.ent s t = true → 0 < me s t ∧ (e.ent (e.estep s t) t = true → me (e.estep s t) t < me s t)) {r : RS e} {v set m : Nat} (a : SA ops xp hasv fresh me v set r m) (hv : v < 64) (hs : set < 2 ^ 64) (hb : set.testBit v = true) (hx : xp ≠ 0 ∧ xp ≠ 1) :
  0 < m ∧ (SA ops xp hasv fresh me v set (RS.pick ops xp r 0) (m - 1) ∨ ((RS.pick ops xp r 0).idx 0 = 1 ∧ SB ops xp hasv guard fresh (RS.pick ops xp r 0))) := by
 obtain ⟨h1, h2, h3⟩ := a.step G Fr hme hv hs hb hx
 refine ⟨h1, ?_⟩
 unfold RS.pick
 rw [if_pos h2]
 rcases h3 with h3 | h3
 ·exact .inl h3.up
 ·exact .inr ⟨h3.1, h3.2.up⟩
end Go.Proofs.YtbceiadaihphaaaGreat
set_option linter.unusedVariables false
set_option linter.unusedSimpArgs false
namespace Go.Proofs.YtbceiadaihphaaaGreat
open Go.Am
variable {e : Eng} {rep : e.σ → Nat → (Rl → Nat) → (Rl → Option ABlk) → Prop} {hasv guard fresh : e.σ → Nat → Nat → Prop} {pcE pcW : e.σ → Nat → Int} {kd nb nw xp : Nat} {s0 : e.σ}
abbrev ksI : List Ck := [.int .i64]
def IsPicks (d : Rl → Nat) (C : Rl → Option ABlk) (s : Value) (A : List (List Int)) : Prop := RowsOk ksI A ∧ ((s = .slice none 0 0 ∧ A = []) ∨ ∃ cap, s = .slice (some ⟨d (62, 0), 0, none⟩) A.length cap ∧ C (62, 0) = rowr (rowsL ksI A) true)
theorem IsPicks.of {d d' : Rl → Nat} {C C' : Rl → Option ABlk} {s : Value} {A : List (List Int)} (p : IsPicks d C s A) (hd : d' (62, 0) = d (62, 0)) (hC : C' (62, 0) = C (62, 0)) : IsPicks d' C' s A := by
 obtain ⟨p0, p | ⟨cap, p1, p2⟩⟩ := p
 ·exact ⟨p0, .inl p⟩
 ·exact ⟨p0, .inr ⟨cap, by rw [hd]; exact p1, by rw [hC]; exact p2⟩⟩
structure Rg (rep : e.σ → Nat → (Rl → Nat) → (Rl → Option ABlk) → Prop) (ops : Ops) (ns : Nat) (d0 : Rl → Nat) (C0 : Rl → Option ABlk) (p i : Nat) (r : RS e) (k : Nat) (d : Rl → Nat) (C : Rl → Option ABlk) (h : PT ABlk) (n : Nat) : Prop where
 S : St h n d C
 at_ : d (40, 0) = p
 R : RepR rep ops ns (tcell ops d r) r k d C
 k : k ≤ i
 ev : r.ev.length ≤ 2 * i
 n : r.n = i
 oth : ∀ a b, 60 ≤ a → d (a, b) = d0 (a, b) ∧ C (a, b) = C0 (a, b)
theorem Rg.pick {ns : Nat} (K : Kit e ns rep hasv guard fresh pcE pcW kd nb nw s0 xp) {ops : Ops} (ok : OpsOk ops ns) {d0 : Rl → Nat} {C0 : Rl → Option ABlk} {p i k t n : Nat} {x : Int} {r : RS e} {d : Rl → Nat} {C : Rl → Option ABlk} {h : PT ABlk} (g : Rg rep ops ns d0 C0 p i r k d C h n) (I : RInv ops xp hasv fresh ns r) (ht : t < ns) (hx : (x.tmod ns + ns).tmod ns = t) (hi : i ≤ 30000) (c8 : C0 (98, 0) = none) (c9 : C0 (99, 0) = none) :
  EvB Tryz.prog OP 13 [pt p, I6 x] h n fun v h' n' => (∃ pc acc dn, v = tup [.agg ⟨[I6 t, U8 pc, .bool acc, .bool dn, .bool dn]⟩, I6 0]) ∧ ∃ k' d' C', Rg rep ops ns d0 C0 p (i + 1) (RS.pick ops xp r t) k' d' C' h' n' := by
 obtain ⟨S, h40, R, hk, hev, hn, oth⟩ := g
 have en := rpickB K.hns K.F K.N K.G.fits K.kind K.xp ok S R ht hx I.one (I.at_ t ht) (fun k h => (I.val k h).1) (by omega) (by omega) (by omega) ((oth 98 0 (by omega)).2.trans c8) ((oth 99 0 (by omega)).2.trans c9)
 rw [h40] at en
 obtain ⟨kk, v, h', n', q, hv, k', hk', d', C', S', R', X⟩ := en
 obtain ⟨l1, l2⟩ := pick_len (ops := ops) (xp := xp) (r := r) (t := t)
 exact ⟨kk, v, h', n', q, hv, k', d', C', S', X.m.trans h40, R', by omega, by omega, by omega, fun a b c => ⟨(X.x a b c).1.trans (oth a b c).1, (X.x a b c).2.trans (oth a b c).2⟩⟩
theorem Rg.re {ns : Nat} {ops : Ops} {d0 : Rl → Nat} {C0 : Rl → Option ABlk} {p i k n n2 : Nat} {r : RS e} {d : Rl → Nat} {C : Rl → Option ABlk} {h h2 : PT ABlk} (g : Rg rep ops ns d0 C0 p i r k d C h n) (S : St h2 n2 d C) : Rg rep ops ns d0 C0 p i r k d C h2 n2 := ⟨S, g.at_, g.R, g.k, g.ev, g.n, g.oth⟩
theorem xp_ok {ns : Nat} (K : Kit e ns rep hasv guard fresh pcE pcW kd nb nw s0 xp) : xp ≠ 0 ∧ xp ≠ 1 := by
 rw [K.xp]; split <;> decide
end Go.Proofs.YtbceiadaihphaaaGreat
