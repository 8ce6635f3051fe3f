/-
  A part of the proof: contracts of inner functions.
-/
import Derived.Test.YtbceiadaihphaaaGreatRY2
set_option linter.unusedVariables false
set_option linter.unusedSimpArgs false
namespace Go.Proofs.YtbceiadaihphaaaGreat
open Go.Am
structure Kit (e : Eng) (ns : Nat) (rep : e.σ → Nat → (Rl → Nat) → (Rl → Option ABlk) → Prop) (hasv guard fresh : e.σ → Nat → Nat → Prop) (pcE pcW : e.σ → Nat → Int) (kd nb nw : Nat) (s0 : e.σ) (xp : Nat) : Prop where
  hns : 0 < ns ∧ ns ≤ 64
  F : Face e ns rep
  N : FaceN e ns rep pcE pcW
  G : e.Grace ns hasv guard
  Fe : e.Fresh ns hasv guard fresh
  kind : ∀ {s k d C}, rep s k d C → ∃ x z, C (4, 0) = row [x, U8 kd, z]
  B : Start e ns rep kd nb nw s0
  xp : xp = if kd = 3 then 16 else 13
theorem kitF {ns : Nat} (hns : 0 < ns ∧ ns ≤ 64) : Kit (engF ns) ns (RepF ns) (fun _ _ _ => True) guardF freshF (fun _ _ => 13) (fun _ _ => 17) 1 0 ns FS.new 13 :=
  ⟨hns, faceF hns, faceNF, graceF ns, freF ns, fun R => ⟨_, _, R.eng.prcu⟩, startF hns, rfl⟩
theorem kitE {ns : Nat} (hns : 0 < ns ∧ ns ≤ 64) : Kit (engE ns) ns (RepE ns) hasE guardE freshE pcEE pcWE 2 0 (2 * ns) ES.new 13 :=
  ⟨hns, faceE hns, faceNE, graceE ns, freE ns, fun R => ⟨_, _, R.eng.prcu⟩, startE hns, rfl⟩
theorem kitG {ns nb : Nat} (hns : 0 < ns ∧ ns ≤ 64) (hnb : 0 < nb ∧ nb ≤ 16) : Kit (engG ns nb) ns (RepG ns nb) (hasG nb) guardG (freshG nb) pcEG pcWG 3 nb (4 * nb) GS.new 16 :=
  ⟨hns, faceG nb hns, faceNG, graceG hnb.1, freG hnb.1, fun R => by obtain ⟨X, ck, E, _⟩ := R.eng; exact ⟨_, _, E.prcu⟩, startG hns hnb, rfl⟩
end Go.Proofs.YtbceiadaihphaaaGreat
set_option linter.unusedVariables false
set_option linter.unusedSimpArgs false
namespace Go.Proofs.YtbceiadaihphaaaGreat
open Go.Am
variable {e : Eng} {ops : Ops} {xp ns : Nat} {hasv guard fresh : e.σ → Nat → Nat → Prop}
theorem RInv.up {r : RS e} (I : RInv ops xp hasv fresh ns r) : RInv ops xp hasv fresh ns r.up := ⟨I.one, fun k hk => (I.at_ k hk).of rfl rfl rfl rfl rfl rfl, I.val, I.fr, I.fits⟩
theorem beg_ev {r : RS e} {k : Nat} : (RS.beg ops xp r k).ev = r.ev := by
  unfold RS.beg; split
  · rfl
  · split
    · rfl
    · split
      · rfl
      · split <;> rfl
theorem mid_ev {r : RS e} {t : Nat} : (r.mid ops t).ev.length ≤ r.ev.length + 2 := by
  unfold RS.mid; split
  · show (if _ then _ else _ : List _).length ≤ _
    split
    · omega
    · simp
  · split
    · show ((if _ then _ else _ : List _) ++ (if _ then _ else _)).length ≤ _
      rw [List.length_append]
      have h1 : ∀ (p : Prop) [Decidable p] (a : Nat × Nat × Nat × Nat), (if p then r.ev else r.ev ++ [a]).length ≤ r.ev.length + 1 := fun p _ a => by split <;> simp
      have h2 : ∀ (p : Prop) [Decidable p] (a : Nat × Nat × Nat × Nat), (if p then ([] : List (Nat × Nat × Nat × Nat)) else [a]).length ≤ 1 := fun p _ a => by split <;> simp
      have := h1 (r.bg t = true) (r.n, t, 3, r.setOf ops t)
      have := h2 (e.wt (e.wstep r.s t) t = true) (r.n, t, 4, r.setOf ops t)
      omega
    · split
      · omega
      · show (r.ev ++ [_]).length ≤ _
        simp
theorem pick_len {r : RS e} {t : Nat} : (RS.pick ops xp r t).ev.length ≤ r.ev.length + 2 ∧ (RS.pick ops xp r t).n = r.n + 1 := by
  unfold RS.pick
  split
  · rename_i h
    rw [step_mid h]
    have := mid_ev (ops := ops) (r := r) (t := t)
    split
    · refine ⟨?_, ?_⟩
      · show (RS.beg ops xp _ t).ev.length ≤ _; rw [beg_ev]; exact this
      · show (RS.beg ops xp _ t).n + 1 = _; rw [beg_n]; show (r.mid ops t).n + 1 = _; rw [mid_n]
    · refine ⟨this, ?_⟩
      show (r.mid ops t).n + 1 = _; rw [mid_n]
  · exact ⟨by show r.ev.length ≤ _; omega, rfl⟩
theorem RInv.pick (G : e.Grace ns hasv guard) (Fr : e.Fresh ns hasv guard fresh) {r : RS e} {t : Nat} (I : RInv ops xp hasv fresh ns r) (ht : t < ns) (hx : xp ≠ 0 ∧ xp ≠ 1) : RInv ops xp hasv fresh ns (RS.pick ops xp r t) := by
  unfold RS.pick
  split
  · rename_i h; exact (I.step G Fr ht hx h).up
  · exact I.up
theorem SB.up {r : RS e} (b : SB ops xp hasv guard fresh r) : SB ops xp hasv guard fresh r.up := ⟨b.inv.up, b.idx, b.wt, b.gd, b.inn⟩
theorem SA.up {me : e.σ → Nat → Nat} {v set m : Nat} {r : RS e} (a : SA ops xp hasv fresh me v set r m) : SA ops xp hasv fresh me v set r.up m := ⟨a.inv.up, a.idx, a.wt, a.fr, a.ent, a.val, a.soon⟩
theorem SB.pick (G : e.Grace 3 hasv guard) (Fr : e.Fresh 3 hasv guard fresh) {r : RS e} (b : SB ops xp hasv guard fresh r) {k : Nat} (hk : k < 3) (h0 : k ≠ 0) (hx : xp ≠ 0 ∧ xp ≠ 1) : SB ops xp hasv guard fresh (RS.pick ops xp r k) := by
  unfold RS.pick
  split
  · rename_i h; exact (b.step G Fr hk h0 hx h).up
  · exact b.up
theorem SA.pick (G : e.Grace 3 hasv guard) (Fr : e.Fresh 3 hasv guard fresh) {me : e.σ → Nat → Nat} (hme : ∀ s t, e.ent s t = true → 0 < me s t ∧ (e.ent (e.estep s t) t = true → me (e.estep s t) t < me s t)) {r : RS e} {v set m : Nat} (a : SA ops xp hasv fresh me v set r m) (hv : v < 64) (hs : set < 2 ^ 64) (hb : set.testBit v = true) (hx : xp ≠ 0 ∧ xp ≠ 1) :
    0 < m ∧ (SA ops xp hasv fresh me v set (RS.pick ops xp r 0) (m - 1) ∨ ((RS.pick ops xp r 0).idx 0 = 1 ∧ SB ops xp hasv guard fresh (RS.pick ops xp r 0))) := by
  obtain ⟨h1, h2, h3⟩ := a.step G Fr hme hv hs hb hx
  refine ⟨h1, ?_⟩
  unfold RS.pick
  rw [if_pos h2]
  rcases h3 with h3 | h3
  · exact .inl h3.up
  · exact .inr ⟨h3.1, h3.2.up⟩
def opsS (w st : Nat) : Ops := fun t => if t = 0 then [(1, w), (2, 0)] else if t = 1 then [(3, st)] else [(1, w), (2, 0), (3, st)]
theorem opsS_ok {w st : Nat} (hw : w < 64) (hs : st < 2 ^ 64) : OpsOk (opsS w st) 3 := by
  intro t ht
  unfold opsS
  split
  · refine ⟨by simp, fun o ho => ?_⟩
    simp only [List.mem_cons, List.not_mem_nil, or_false] at ho
    rcases ho with rfl | rfl
    · exact ⟨by show 1 < 256; omega, by show w < _; omega⟩
    · exact ⟨by show 2 < 256; omega, by show 0 < _; omega⟩
  · split
    · refine ⟨by simp, fun o ho => ?_⟩
      simp only [List.mem_cons, List.not_mem_nil, or_false] at ho
      subst ho
      exact ⟨by show 3 < 256; omega, hs⟩
    · refine ⟨by simp, fun o ho => ?_⟩
      simp only [List.mem_cons, List.not_mem_nil, or_false] at ho
      rcases ho with rfl | rfl | rfl
      · exact ⟨by show 1 < 256; omega, by show w < _; omega⟩
      · exact ⟨by show 2 < 256; omega, by show 0 < _; omega⟩
      · exact ⟨by show 3 < 256; omega, hs⟩
theorem sa0 {ng : Nat} (G : e.Grace ng hasv guard) (Fr : e.Fresh ng hasv guard fresh) {s0 : e.σ} (idle : ∀ t, e.ent s0 t = false ∧ e.wt s0 t = false ∧ e.inn s0 t = false) {me : e.σ → Nat → Nat} (hmb : ∀ s t, me s t ≤ 10) {w st : Nat} (hw : w < 64) (hs : st ≠ 0) : SA (opsS w st) xp hasv fresh me w st (RS.begs (opsS w st) xp (RS.zero s0) 3) 10 := by
  obtain ⟨I, q1, q2, q3, q4, q5⟩ := begs_inv G Fr idle (ops := opsS w st) (xp := xp) 3
  obtain ⟨f1, f2, f3⟩ := G.fits.enter s0 0 w (idle 0).2.2
  obtain ⟨g1, g2, g3⟩ := G.fits.wait (e.enter s0 0 w) 1 st
  have i1 : e.inn (e.wait (e.enter s0 0 w) 1 st) 2 = false := (g2 2).trans ((f2 2).trans (idle 2).2.2)
  obtain ⟨k1, k2, k3⟩ := G.fits.enter (e.wait (e.enter s0 0 w) 1 st) 2 w i1
  have e1 : RS.beg (opsS w st) xp (RS.zero s0) 0 = { RS.zero s0 with s := e.enter s0 0 w, val := fs (fun _ => 0) 0 w, pc := fs (fun _ => 0) 0 0 } := by
    unfold RS.beg
    rw [show (opsS w st 0)[(RS.zero s0).idx 0]? = some (1, w) from rfl]
    exact if_pos ⟨rfl, hw, (idle 0).2.2⟩
  have e2 : RS.beg (opsS w st) xp (RS.beg (opsS w st) xp (RS.zero s0) 0) 1 = { RS.zero s0 with s := e.wait (e.enter s0 0 w) 1 st, val := fs (fun _ => 0) 0 w, bg := fs (fun _ => false) 1 false, pc := fs (fs (fun _ => 0) 0 0) 1 0 } := by
    rw [e1]
    unfold RS.beg
    rw [show (opsS w st 1)[({ RS.zero s0 with s := e.enter s0 0 w, val := fs (fun _ => 0) 0 w, pc := fs (fun _ => 0) 0 0 } : RS e).idx 1]? = some (3, st) from rfl]
    simp only
    rw [if_neg (by omega), if_neg (by omega)]
    exact if_pos ⟨trivial, hs, (f2 1).trans (idle 1).2.2⟩
  have e3 : RS.begs (opsS w st) xp (RS.zero s0) 3 = { RS.zero s0 with s := e.enter (e.wait (e.enter s0 0 w) 1 st) 2 w, val := fs (fs (fun _ => 0) 0 w) 2 w, bg := fs (fun _ => false) 1 false, pc := fs (fs (fs (fun _ => 0) 0 0) 1 0) 2 0 } := by
    show RS.beg (opsS w st) xp (RS.beg (opsS w st) xp (RS.beg (opsS w st) xp (RS.zero s0) 0) 1) 2 = _
    rw [e2]
    unfold RS.beg
    rw [show (opsS w st 2)[({ RS.zero s0 with s := e.wait (e.enter s0 0 w) 1 st, val := fs (fun _ => 0) 0 w, bg := fs (fun _ => false) 1 false, pc := fs (fs (fun _ => 0) 0 0) 1 0 } : RS e).idx 2]? = some (1, w) from rfl]
    exact if_pos ⟨rfl, hw, i1⟩
  refine ⟨I, ⟨by rw [q3], by rw [q3]⟩, ?_, ?_, ?_, ?_, hmb _ _⟩
  · rw [e3]; exact (k3 1).trans ((g3 1).trans (if_pos rfl))
  · rw [e3]; exact Fr.enter _ _ _ _ _ (Fr.beg _ _ _)
  · rw [e3]; exact (k1 0).trans ((if_neg (by omega)).trans ((g1 0).trans ((f1 0).trans (if_pos rfl))))
  · rw [e3]; show fs (fs (fun _ => 0) 0 w) 2 w 0 = w
    rw [fs_ne (by omega), fs_same]
def meF (_ : FS) (_ : Nat) : Nat := 1
def meE (s : ES) (t : Nat) : Nat := if s.E t = 1 then 2 else 1
def meG (s : GS) (t : Nat) : Nat := match s.S t with | .beg _ => 2 | _ => 1
theorem hmeF {ns : Nat} : ∀ s t, (engF ns).ent s t = true → 0 < meF s t ∧ ((engF ns).ent ((engF ns).estep s t) t = true → meF ((engF ns).estep s t) t < meF s t) := fun s t h => ⟨by unfold meF; omega, fun q => by
  have : fs s.E t false t = true := q
  rw [fs_same] at this; simp at this⟩
theorem hmeE {ns : Nat} : ∀ s t, (engE ns).ent s t = true → 0 < meE s t ∧ ((engE ns).ent ((engE ns).estep s t) t = true → meE ((engE ns).estep s t) t < meE s t) := fun s t h => by
  have e0 : (engE ns).estep s t = if s.E t = 1 then { s with V := fs s.V t (s.A t), E := fs s.E t 2 } else { s with N := fs s.N t (s.N t + 1), E := fs s.E t 0 } := rfl
  unfold meE
  refine ⟨by split <;> omega, fun q => ?_⟩
  rw [e0] at q ⊢
  by_cases c : s.E t = 1
  · rw [if_pos c, if_pos c]
    show (if fs s.E t 2 t = 1 then 2 else 1) < 2
    rw [fs_same]; decide
  · rw [if_neg c] at q
    have q' : decide (fs s.E t 0 t ≠ 0) = true := q
    rw [fs_same] at q'; simp at q'
theorem hmeG {ns nb : Nat} : ∀ s t, (engG ns nb).ent s t = true → 0 < meG s t ∧ ((engG ns nb).ent ((engG ns nb).estep s t) t = true → meG ((engG ns nb).estep s t) t < meG s t) := fun s t h => by
  have h' : (s.S t).ent = true := h
  refine ⟨by unfold meG; split <;> omega, fun q => ?_⟩
  have q' : ((s.goE t).S t).ent = true := q
  show meG (s.goE t) t < meG s t
  unfold meG
  unfold GS.goE at q' ⊢
  cases hS : s.S t with
  | no => rw [hS] at h'; simp [GSec.ent] at h'
  | inn b sd => rw [hS] at h'; simp [GSec.ent] at h'
  | beg b =>
    show (match fs s.S t (.seen b (s.G b)) t with | .beg _ => 2 | _ => 1) < 2
    rw [fs_same]; show 1 < 2; omega
  | seen b sd =>
    rw [hS] at q'
    have q2 : (fs s.S t (.inn b sd) t).ent = true := q'
    rw [fs_same] at q2; simp [GSec.ent] at q2
theorem hmbF : ∀ s t, meF s t ≤ 10 := fun _ _ => by unfold meF; omega
theorem hmbE : ∀ s t, meE s t ≤ 10 := fun _ _ => by unfold meE; split <;> omega
theorem hmbG : ∀ s t, meG s t ≤ 10 := fun _ _ => by unfold meG; split <;> omega
end Go.Proofs.YtbceiadaihphaaaGreat
set_option linter.unusedVariables false
set_option linter.unusedSimpArgs false
namespace Go.Proofs.YtbceiadaihphaaaGreat
open Go.Am
variable {e : Eng} {rep : e.σ → Nat → (Rl → Nat) → (Rl → Option ABlk) → Prop} {hasv guard fresh : e.σ → Nat → Nat → Prop} {pcE pcW : e.σ → Nat → Int} {kd nb nw xp : Nat} {s0 : e.σ}
abbrev ksI : List Ck := [.int .i64]
def IsPicks (d : Rl → Nat) (C : Rl → Option ABlk) (s : Value) (A : List (List Int)) : Prop := RowsOk ksI A ∧ ((s = .slice none 0 0 ∧ A = []) ∨ ∃ cap, s = .slice (some ⟨d (62, 0), 0, none⟩) A.length cap ∧ C (62, 0) = rowr (rowsL ksI A) true)
theorem IsPicks.of {d d' : Rl → Nat} {C C' : Rl → Option ABlk} {s : Value} {A : List (List Int)} (p : IsPicks d C s A) (hd : d' (62, 0) = d (62, 0)) (hC : C' (62, 0) = C (62, 0)) : IsPicks d' C' s A := by
  obtain ⟨p0, p | ⟨cap, p1, p2⟩⟩ := p
  · exact ⟨p0, .inl p⟩
  · exact ⟨p0, .inr ⟨cap, by rw [hd]; exact p1, by rw [hC]; exact p2⟩⟩
structure Rg (rep : e.σ → Nat → (Rl → Nat) → (Rl → Option ABlk) → Prop) (ops : Ops) (ns : Nat) (d0 : Rl → Nat) (C0 : Rl → Option ABlk) (p i : Nat) (r : RS e) (k : Nat) (d : Rl → Nat) (C : Rl → Option ABlk) (h : PT ABlk) (n : Nat) : Prop where
  S : St h n d C
  at_ : d (40, 0) = p
  R : RepR rep ops ns (tcell ops d r) r k d C
  k : k ≤ i
  ev : r.ev.length ≤ 2 * i
  n : r.n = i
  oth : ∀ a b, 60 ≤ a → d (a, b) = d0 (a, b) ∧ C (a, b) = C0 (a, b)
theorem Rg.pick {ns : Nat} (K : Kit e ns rep hasv guard fresh pcE pcW kd nb nw s0 xp) {ops : Ops} (ok : OpsOk ops ns) {d0 : Rl → Nat} {C0 : Rl → Option ABlk} {p i k t n : Nat} {x : Int} {r : RS e} {d : Rl → Nat} {C : Rl → Option ABlk} {h : PT ABlk} (g : Rg rep ops ns d0 C0 p i r k d C h n) (I : RInv ops xp hasv fresh ns r) (ht : t < ns) (hx : (x.tmod ns + ns).tmod ns = t) (hi : i ≤ 30000) (c8 : C0 (98, 0) = none) (c9 : C0 (99, 0) = none) :
    EvB Tryz.prog OP 13 [pt p, I6 x] h n fun v h' n' => (∃ pc acc dn, v = tup [.agg ⟨[I6 t, U8 pc, .bool acc, .bool dn, .bool dn]⟩, I6 0]) ∧ ∃ k' d' C', Rg rep ops ns d0 C0 p (i + 1) (RS.pick ops xp r t) k' d' C' h' n' := by
  obtain ⟨S, h40, R, hk, hev, hn, oth⟩ := g
  have en := rpickB K.hns K.F K.N K.G.fits K.kind K.xp ok S R ht hx I.one (I.at_ t ht) (fun k h => (I.val k h).1) (by omega) (by omega) (by omega) ((oth 98 0 (by omega)).2.trans c8) ((oth 99 0 (by omega)).2.trans c9)
  rw [h40] at en
  obtain ⟨kk, v, h', n', q, hv, k', hk', d', C', S', R', X⟩ := en
  obtain ⟨l1, l2⟩ := pick_len (ops := ops) (xp := xp) (r := r) (t := t)
  exact ⟨kk, v, h', n', q, hv, k', d', C', S', X.m.trans h40, R', by omega, by omega, by omega, fun a b c => ⟨(X.x a b c).1.trans (oth a b c).1, (X.x a b c).2.trans (oth a b c).2⟩⟩
theorem Rg.re {ns : Nat} {ops : Ops} {d0 : Rl → Nat} {C0 : Rl → Option ABlk} {p i k n n2 : Nat} {r : RS e} {d : Rl → Nat} {C : Rl → Option ABlk} {h h2 : PT ABlk} (g : Rg rep ops ns d0 C0 p i r k d C h n) (S : St h2 n2 d C) : Rg rep ops ns d0 C0 p i r k d C h2 n2 := ⟨S, g.at_, g.R, g.k, g.ev, g.n, g.oth⟩
theorem xp_ok {ns : Nat} (K : Kit e ns rep hasv guard fresh pcE pcW kd nb nw s0 xp) : xp ≠ 0 ∧ xp ≠ 1 := by
  rw [K.xp]; split <;> decide
theorem shl_or {x w : Nat} (hx : x < 2 ^ 64) (hw : w < 64) : (BitVec.ofInt 64 (x : Int) ||| BitVec.ofInt 64 (IntKind.u64.wrap (1 * 2 ^ min w 64))).toNat.testBit w = true ∧ (BitVec.ofInt 64 (x : Int) ||| BitVec.ofInt 64 (IntKind.u64.wrap (1 * 2 ^ min w 64))).toNat < 2 ^ 64 := by
  refine ⟨?_, BitVec.isLt _⟩
  have e1 : IntKind.u64.wrap (1 * 2 ^ min w 64) = ((2 ^ w : Nat) : Int) := by
    rw [show min w 64 = w by omega, Int.one_mul]
    have hlt : 2 ^ w < 2 ^ 64 := Nat.pow_lt_pow_right (by decide) hw
    show ((2 : Int) ^ w) % (2 ^ 64 : Int) = _
    rw [Int.emod_eq_of_lt (by exact_mod_cast Nat.zero_le _) (by exact_mod_cast hlt)]
    norm_cast
  rw [e1, BitVec.toNat_or, Nat.testBit_or]
  have e2 : (BitVec.ofInt 64 ((2 ^ w : Nat) : Int)).toNat = 2 ^ w := by
    have hlt : 2 ^ w < 2 ^ 64 := Nat.pow_lt_pow_right (by decide) hw
    rw [BitVec.toNat_ofInt]
    show ((((2 ^ w : Nat) : Int)) % (2 ^ 64 : Nat)).toNat = _
    rw [Int.emod_eq_of_lt (by exact_mod_cast Nat.zero_le _) (by exact_mod_cast hlt)]
    rfl
  rw [e2, Nat.testBit_two_pow_self]
  simp
set_option maxRecDepth 100000 in
set_option maxHeartbeats 8000000 in
theorem staysL (K : Kit e 3 rep hasv guard fresh pcE pcW kd nb nw s0 xp) {me : e.σ → Nat → Nat} (hme : ∀ s t, e.ent s t = true → 0 < me s t ∧ (e.ent (e.estep s t) t = true → me (e.estep s t) t < me s t)) (hmb : ∀ s t, me s t ≤ 10) {x y : Nat} {u : Int} {s : Value} {A : List (List Int)} {d : Rl → Nat} {C : Rl → Option ABlk} {h : PT ABlk} {n : Nat} (S : St h n d C) (hx : x < 2 ^ 64) (hA : IsPicks d C s A) (c20 : C (20, 0) = none) (c8 : C (98, 0) = none) (c9 : C (99, 0) = none) :
    EvB Tryz.prog OP 5 [.agg ⟨[U8 kd, I6 u, I6 nb]⟩, U6 x, U6 y, s] h n fun v h' n' => v = .bool true := by
  have h1 : (y : Int).tmod 64 = ((y % 64 : Nat) : Int) := rfl
  have hv : y % 64 < 64 := Nat.mod_lt _ (by decide)
  generalize y % 64 = w at *
  have h2 : decide ((w : Int) < 0) = false := by simp
  obtain ⟨st, hor⟩ : ∃ st, (BitVec.ofInt IntKind.u64.bits (x : Int) ||| BitVec.ofInt IntKind.u64.bits (IntKind.u64.wrap (1 * 2 ^ min w 64))).toNat = st := ⟨_, rfl⟩
  have hb : st.testBit w = true := by rw [← hor]; exact (shl_or hx hv).1
  have hst : st < 2 ^ 64 := by rw [← hor]; exact (shl_or hx hv).2
  have hs0 : st ≠ 0 := fun q => by rw [q] at hb; simp at hb
  simp only [go_sem] at hor
  refine EvB_run (N := 100) Tryz.func5 rfl rfl fun z hP hO hro hN hQ => ?_
  repeat' first | simp (maxSteps := 2000000) (disch := first | omega | assumption) only [go_sem, *] | (apply xs <;> intro _) <;> try omega | refine fun (_ _ : List Nat) => ?_ | (first | refine inQ Tryz.func17 rfl ?_ ?_ ?_ ?_ | fail) <;> intros
  have hx1 := xp_ok K
  have S1 := ((((S.junk (i := n) (m := n + 1) (B := some (.cells (PT.ofList .leaf 0 [U8 kd, I6 u, I6 nb]) false)) (Nat.le_refl _) (Nat.lt_succ_self _)).new (61, 0) (i := n + 1) (m := n + 1 + 1) (.cells (PT.ofList .leaf 0 [U8 1, U6 w, U8 2, U6 0]) false) (Nat.le_refl _) (Nat.lt_succ_self _)).new (61, 1) (i := n + 1 + 1) (m := n + 1 + 1 + 1) (.cells (PT.ofList .leaf 0 [U8 3, U6 st]) false) (Nat.le_refl _) (Nat.lt_succ_self _)).new (61, 2) (i := n + 1 + 1 + 1) (m := n + 1 + 1 + 1 + 1) (.cells (PT.ofList .leaf 0 [U8 1, U6 w, U8 2, U6 0, U8 3, U6 st]) false) (Nat.le_refl _) (Nat.lt_succ_self _)).new (60, 0) (i := n + 1 + 1 + 1 + 1) (m := n + 1 + 1 + 1 + 1 + 1) (.cells (PT.ofList .leaf 0 [.slice (some ⟨n + 1, 0, none⟩) 2 2, .slice (some ⟨n + 1 + 1, 0, none⟩) 1 1, .slice (some ⟨n + 1 + 1 + 1, 0, none⟩) 3 3]) false) (Nat.le_refl _) (Nat.lt_succ_self _)
  generalize hd9 : upd (upd (upd (upd d (61, 0) _) (61, 1) _) (61, 2) _) (60, 0) _ = d9 at S1
  generalize hC9 : upd (upd (upd (upd C (61, 0) _) (61, 1) _) (61, 2) _) (60, 0) _ = C9 at S1
  have P1 : Progs d9 C9 (.slice (some ⟨n + 1 + 1 + 1 + 1, 0, none⟩) 3 3) (opsS w st) 3 := ⟨3, [.slice (some ⟨n + 1, 0, none⟩) 2 2, .slice (some ⟨n + 1 + 1, 0, none⟩) 1 1, .slice (some ⟨n + 1 + 1 + 1, 0, none⟩) 3 3], false, by rw [← hd9]; simp (disch := first | decide | assumption | omega) only [rM, rW, rL, upd_same, upd_tag, upd_num, memC_ne], by rw [← hC9]; exact upd_same, by simp, fun i hi => by
    match i, hi with
    | 0, _ => exact ⟨_, rfl, .inr ⟨2, _, false, by rw [← hd9]; (simp (disch := first | decide | assumption | omega) only [rM, rW, rL, upd_same, upd_tag, upd_num, memC_ne]) <;> rfl, by rw [← hC9]; (simp (disch := first | decide | assumption | omega) only [rM, rW, rL, upd_same, upd_tag, upd_num, memC_ne]) <;> rfl, Nat.le_refl _, rfl⟩⟩
    | 1, _ => exact ⟨_, rfl, .inr ⟨1, _, false, by rw [← hd9]; (simp (disch := first | decide | assumption | omega) only [rM, rW, rL, upd_same, upd_tag, upd_num, memC_ne]) <;> rfl, by rw [← hC9]; (simp (disch := first | decide | assumption | omega) only [rM, rW, rL, upd_same, upd_tag, upd_num, memC_ne]) <;> rfl, Nat.le_refl _, rfl⟩⟩
    | 2, _ => exact ⟨_, rfl, .inr ⟨3, _, false, by rw [← hd9]; (simp (disch := first | decide | assumption | omega) only [rM, rW, rL, upd_same, upd_tag, upd_num, memC_ne]) <;> rfl, by rw [← hC9]; (simp (disch := first | decide | assumption | omega) only [rM, rW, rL, upd_same, upd_tag, upd_num, memC_ne]) <;> rfl, Nat.le_refl _, rfl⟩⟩⟩
  have h9 : ∀ a b, a ≠ 60 → a ≠ 61 → d9 (a, b) = d (a, b) ∧ C9 (a, b) = C (a, b) := fun a b c1 c2 => ⟨by rw [← hd9]; simp (disch := first | decide | assumption | omega) only [rM, rW, rL, upd_same, upd_tag, upd_num, memC_ne], by rw [← hC9]; simp (disch := first | decide | assumption | omega) only [rM, rW, rL, upd_same, upd_tag, upd_num, memC_ne]⟩
  refine cal (rnewB K.hns K.F K.G K.Fe K.kind K.xp K.B (opsS_ok hv hst) S1 P1 ((h9 20 0 (by omega) (by omega)).2.trans c20)) (by simp only [*]) (by simp only [*]) (by simp only [go_sem, *]) (by simp only [go_sem, *]) ?_
  rintro rr h3 n3 ⟨d1, C1, rfl, S2, R2, k2⟩
  have sa := sa0 (xp := xp) K.G K.Fe K.B.idle hmb hv hs0
  obtain ⟨I0, -, -, -, q4, q5⟩ := begs_inv K.G K.Fe K.B.idle (ops := opsS w st) (xp := xp) 3
  have g0 : Rg rep (opsS w st) 3 d1 C1 (d1 (40, 0)) 0 (RS.begs (opsS w st) xp (RS.zero s0) 3) 0 d1 C1 h3 n3 := ⟨S2, rfl, R2, Nat.le_refl _, by rw [q5]; exact Nat.zero_le _, q4, fun _ _ _ => ⟨rfl, rfl⟩⟩
  have c8' : C1 (98, 0) = none := (k2 98 0 (by omega)).2.trans ((h9 98 0 (by omega) (by omega)).2.trans c8)
  have c9' : C1 (99, 0) = none := (k2 99 0 (by omega)).2.trans ((h9 99 0 (by omega) (by omega)).2.trans c9)
  have hA1 := (hA.of (h9 62 0 (by omega) (by omega)).1 (h9 62 0 (by omega) (by omega)).2).of (k2 62 0 (by omega)).1 (k2 62 0 (by omega)).2
  generalize RS.begs (opsS w st) xp (RS.zero s0) 3 = r0 at *
  clear S1 P1 hd9 hC9 h9 k2 S2 R2 I0 q4 q5 S hA c8 c9 hor c20
  generalize hp : d1 (40, 0) = p at *
  clear hp
  repeat' first | simp (maxSteps := 2000000) (disch := first | omega | assumption) only [go_sem, *] | (apply xs <;> intro _) <;> try omega | refine fun (_ _ : List Nat) => ?_ | (first | refine inQ Tryz.func17 rfl ?_ ?_ ?_ ?_ | fail) <;> intros
  have ok := opsS_ok hv hst
  refine ind_loop (fun t m h' n' => ∃ i : Nat, i ≤ 10 ∧ t = 10 - i ∧ m.n = 100 ∧ m.dfs = [] ∧ m.get 3 = s ∧ m.get 9 = pt p ∧ m.get 11 = I6 i ∧ ∃ j r k d' C', j ≤ i ∧ Rg rep (opsS w st) 3 d1 C1 p j r k d' C' h' n' ∧ (SA (opsS w st) xp hasv fresh me w st r (10 - i) ∨ (r.idx 0 = 1 ∧ SB (opsS w st) xp hasv guard fresh r))) 10 ?_ ?_
  · refine ⟨0, by omega, by omega, ?_⟩
    clear hme hmb ok
    simp (maxSteps := 2000000) (disch := first | omega | assumption) only [go_sem, *]
    exact ⟨0, r0, 0, d1, C1, Nat.le_refl _, g0, .inl sa⟩
  · clear sa g0
    rintro t m h' n' ih ⟨i, hi, rfl, m1, m2, m3, m4, m5, j, r, k, d', C', hj, g, hs⟩
    have en := rindexB g.S g.R (t := 0) (by omega)
    rw [g.at_, show ((0 : Nat) : Int) = 0 from rfl] at en
    rcases Nat.lt_or_ge i 10 with hlt | hge
    · have e7 : (i : Int) < 10 := by omega
      have hci : ((i + 1 : Nat) : Int) = (i : Int) + 1 := by omega
      rcases hs with sa | ⟨hi0, sb⟩
      · obtain ⟨p1, p2⟩ := sa.pick K.G K.Fe hme hv hst hb hx1
        rw [show r.idx 0 = 0 from sa.idx.2, show ((0 : Nat) : Int) = 0 from rfl] at en
        have I := sa.inv
        clear hme hmb sa
        repeat' first | simp (maxSteps := 2000000) (disch := first | omega | assumption) only [go_sem, *] | (apply xs <;> intro _) <;> try omega | refine fun (_ _ : List Nat) => ?_ | (first | refine inQ Tryz.func17 rfl ?_ ?_ ?_ ?_ | fail) <;> intros
        refine cal (en) (by simp only [*]) (by simp only [*]) (by simp only [go_sem, *]) (by simp only [go_sem, *]) ?_
        rintro v h4 n4 ⟨rfl, S4⟩
        clear en
        repeat' first | simp (maxSteps := 2000000) (disch := first | omega | assumption) only [go_sem, *] | (apply xs <;> intro _) <;> try omega | refine fun (_ _ : List Nat) => ?_ | (first | refine inQ Tryz.func17 rfl ?_ ?_ ?_ ?_ | fail) <;> intros
        refine cal (Rg.pick K ok (g.re S4) I (t := 0) (x := 0) (by omega) (by decide) (by omega) c8' c9') (by simp only [*]) (by simp only [*]) (by simp only [go_sem, *]) (by simp only [go_sem, *]) ?_
        rintro v h5 n5 ⟨⟨pc, acc, dn, rfl⟩, k', d5, C5, g5⟩
        clear g S4 I
        repeat' first | simp (maxSteps := 2000000) (disch := first | omega | assumption) only [go_sem, *] | (apply xs <;> intro _) <;> try omega | refine fun (_ _ : List Nat) => ?_ | (first | refine inQ Tryz.func17 rfl ?_ ?_ ?_ ?_ | fail) <;> intros
        refine ih (10 - (i + 1)) _ _ _ (by omega) ⟨i + 1, by omega, rfl, ?_⟩
        rw [hci]
        clear ih ok
        simp (maxSteps := 2000000) (disch := first | omega | assumption) only [go_sem, *]
        refine ⟨j + 1, _, k', d5, C5, by omega, g5, ?_⟩
        rcases p2 with p2 | p2
        · exact .inl (by rw [show 10 - (i + 1) = 10 - i - 1 by omega]; exact p2)
        · exact .inr p2
      · rw [show r.idx 0 = 1 from hi0, show ((1 : Nat) : Int) = 1 from rfl] at en
        clear hme hmb
        repeat' first | simp (maxSteps := 2000000) (disch := first | omega | assumption) only [go_sem, *] | (apply xs <;> intro _) <;> try omega | refine fun (_ _ : List Nat) => ?_ | (first | refine inQ Tryz.func17 rfl ?_ ?_ ?_ ?_ | fail) <;> intros
        refine cal (en) (by simp only [*]) (by simp only [*]) (by simp only [go_sem, *]) (by simp only [go_sem, *]) ?_
        rintro v h4 n4 ⟨rfl, S4⟩
        clear en
        have g5 := g.re S4
        clear g S4
        repeat' first | simp (maxSteps := 2000000) (disch := first | omega | assumption) only [go_sem, *] | (apply xs <;> intro _) <;> try omega | refine fun (_ _ : List Nat) => ?_ | (first | refine inQ Tryz.func17 rfl ?_ ?_ ?_ ?_ | fail) <;> intros
        refine ih (10 - (i + 1)) _ _ _ (by omega) ⟨i + 1, by omega, rfl, ?_⟩
        rw [hci]
        clear ih ok
        simp (maxSteps := 2000000) (disch := first | omega | assumption) only [go_sem, *]
        exact ⟨j, r, k, d', C', by omega, g5, .inr ⟨hi0, sb⟩⟩
    · have sb : SB (opsS w st) xp hasv guard fresh r := by
        rcases hs with sa | hs
        · have := (hme r.s 0 sa.ent).1
          have := sa.soon
          omega
        · exact hs.2
      obtain rfl : i = 10 := by omega
      clear ih hs en hme hmb
      repeat' first | simp (maxSteps := 2000000) (disch := first | omega | assumption) only [go_sem, *] | (apply xs <;> intro _) <;> try omega | refine fun (_ _ : List Nat) => ?_ | (first | refine inQ Tryz.func17 rfl ?_ ?_ ?_ ?_ | fail) <;> intros
      obtain ⟨okA, hA2⟩ := hA1
      obtain ⟨x0, cap, hs'⟩ : ∃ x0 cap, s = .slice x0 A.length cap := by
        rcases hA2 with ⟨rfl, rfl⟩ | ⟨cap, rfl, _⟩
        · exact ⟨_, _, rfl⟩
        · exact ⟨_, _, rfl⟩
      refine ind_loop (fun t m h' n' => ∃ i : Nat, i ≤ 300 ∧ i ≤ A.length ∧ t = 300 - i ∧ m.n = 100 ∧ m.dfs = [] ∧ m.get 3 = s ∧ m.get 9 = pt p ∧ m.get 14 = I6 i ∧ ∃ j r k d' C', j ≤ 10 + i ∧ Rg rep (opsS w st) 3 d1 C1 p j r k d' C' h' n' ∧ SB (opsS w st) xp hasv guard fresh r) 300 ?_ ?_
      · refine ⟨0, by omega, by omega, by omega, ?_⟩
        clear ok
        simp (maxSteps := 2000000) (disch := first | omega | assumption) only [go_sem, *]
        exact ⟨j, r, k, d', C', by omega, g, sb⟩
      · clear sb g m1 m2 m3 m4 m5 hj
        rintro t m h' n' ih ⟨i, hi, hi2, rfl, m1, m2, m3, m4, m5, j, r, k, d', C', hj, g, sb⟩
        by_cases hlt : i < 300 ∧ i < A.length
        · obtain ⟨hl1, hl2⟩ := hlt
          have e7 : (i : Int) < 300 := by omega
          have e8 : (i : Int) < A.length := by omega
          have hci : ((i + 1 : Nat) : Int) = (i : Int) + 1 := by omega
          rcases hA2 with ⟨rfl, rfl⟩ | ⟨cap', hs2, hC⟩
          · simp at hl2
          · obtain ⟨x, hx⟩ : ∃ x, A[i]? = some x := ⟨A[i], List.getElem?_eq_getElem hl2⟩
            obtain ⟨hxl, hxw⟩ := okA x (List.mem_of_getElem? hx)
            have r0 := rowsL_get okA hx 0 (by decide)
            obtain ⟨z, rfl⟩ : ∃ z, x = [z] := by
              match x, hxl with
              | [z], _ => exact ⟨z, rfl⟩
            change (rowsL ksI A)[i * 1]? = some (I6 z) at r0
            rw [Nat.mul_one] at r0
            obtain ⟨rfl, rfl⟩ : x0 = some ⟨d1 (62, 0), 0, none⟩ ∧ cap = cap' := by
              rw [hs'] at hs2; injection hs2 with e1 _ e2; exact ⟨e1, e2⟩
            have gA := g.S.at ((g.oth 62 0 (by omega)).2.trans hC)
            rw [(g.oth 62 0 (by omega)).1] at gA
            have b1 := Int.tmod_lt_of_pos z (show (0 : Int) < 3 by omega)
            have b2 := Int.lt_tmod_of_pos z (show (0 : Int) < 3 by omega)
            have b3 := Int.tmod_lt_of_pos (z.tmod 3 + 3) (show (0 : Int) < 3 by omega)
            have b4 := Int.tmod_nonneg 3 (show 0 ≤ z.tmod 3 + 3 by omega)
            clear hC hx hxw hs2
            by_cases hq0 : (z.tmod 3 + 3).tmod 3 = 0
            · clear ok
              repeat' first | simp (maxSteps := 2000000) (disch := first | omega | assumption) only [go_sem, *] | (apply xs <;> intro _) <;> try omega | refine fun (_ _ : List Nat) => ?_ | (first | refine inQ Tryz.func17 rfl ?_ ?_ ?_ ?_ | fail) <;> intros
              refine ih (300 - (i + 1)) _ _ _ (by omega) ⟨i + 1, by omega, by omega, rfl, ?_⟩
              rw [hci]
              clear ih
              simp (maxSteps := 2000000) (disch := first | omega | assumption) only [go_sem, *]
              exact ⟨j, r, k, d', C', by omega, g, sb⟩
            · obtain ⟨q, hq⟩ : ∃ q : Nat, (z.tmod 3 + 3).tmod 3 = q := ⟨((z.tmod 3 + 3).tmod 3).toNat, by omega⟩
              have en := Rg.pick K ok g sb.inv (t := q) (x := (q : Int)) (by omega) (by
                rw [show ((3 : Nat) : Int) = 3 from rfl]
                have h1 : (q : Int).tmod 3 = q := Int.tmod_eq_of_lt (by omega) (by omega)
                rw [h1]
                have hq3 : q = 0 ∨ q = 1 ∨ q = 2 := by omega
                rcases hq3 with rfl | rfl | rfl <;> rfl) (by omega) c8' c9'
              have sb2 := sb.pick K.G K.Fe (k := q) (by omega) (by omega) hx1
              have hqn : ¬ (q : Int) = 0 := by omega
              clear ok
              repeat' first | simp (maxSteps := 2000000) (disch := first | omega | assumption) only [go_sem, *] | (apply xs <;> intro _) <;> try omega | refine fun (_ _ : List Nat) => ?_ | (first | refine inQ Tryz.func17 rfl ?_ ?_ ?_ ?_ | fail) <;> intros
              refine cal (en) (by simp only [*]) (by simp only [*]) (by simp only [go_sem, *]) (by simp only [go_sem, *]) ?_
              rintro v h5 n5 ⟨⟨pc, acc, dn, rfl⟩, k', d5, C5, g5⟩
              clear g en sb gA
              repeat' first | simp (maxSteps := 2000000) (disch := first | omega | assumption) only [go_sem, *] | (apply xs <;> intro _) <;> try omega | refine fun (_ _ : List Nat) => ?_ | (first | refine inQ Tryz.func17 rfl ?_ ?_ ?_ ?_ | fail) <;> intros
              refine ih (300 - (i + 1)) _ _ _ (by omega) ⟨i + 1, by omega, by omega, rfl, ?_⟩
              rw [hci]
              clear ih
              simp (maxSteps := 2000000) (disch := first | omega | assumption) only [go_sem, *]
              exact ⟨j + 1, _, k', d5, C5, by omega, g5, sb2⟩
        · have e7 : (i : Int) < 300 → ¬ (i : Int) < A.length := fun q => by omega
          have en := rindexB g.S g.R (t := 1) (by omega)
          rw [g.at_, show ((1 : Nat) : Int) = 1 from rfl, show r.idx 1 = 0 from sb.idx, show ((0 : Nat) : Int) = 0 from rfl] at en
          clear ih ok g sb
          repeat' first | simp (maxSteps := 2000000) (disch := first | omega | assumption) only [go_sem, *] | (apply xs <;> intro _) <;> try omega | refine fun (_ _ : List Nat) => ?_ | (first | refine inQ Tryz.func17 rfl ?_ ?_ ?_ ?_ | fail) <;> intros
          all_goals
            refine cal (en) (by simp only [*]) (by simp only [*]) (by simp only [go_sem, *]) (by simp only [go_sem, *]) ?_
            rintro v h4 n4 ⟨rfl, S4⟩
            repeat' first | simp (maxSteps := 2000000) (disch := first | omega | assumption) only [go_sem, *, trueS] | (apply xs <;> intro _) <;> try omega | refine fun (_ _ : List Nat) => ?_ | (first | refine inQ Tryz.func17 rfl ?_ ?_ ?_ ?_ | fail) <;> intros
end Go.Proofs.YtbceiadaihphaaaGreat
set_option linter.unusedVariables false
set_option linter.unusedSimpArgs false
namespace Go.Proofs.YtbceiadaihphaaaGreat
open Go.Am
set_option maxRecDepth 100000 in
set_option maxHeartbeats 8000000 in
theorem staysErr {k x y : Nat} {u b : Int} {s : Value} {d : Rl → Nat} {C : Rl → Option ABlk} {h : PT ABlk} {n : Nat} (hk : k < 256) (hbad : ¬ ((k = 1 ∨ k = 2) ∧ b = 0 ∨ k = 3 ∧ 1 ≤ b ∧ b ≤ 16)) :
    EvB Tryz.prog OP 5 [.agg ⟨[U8 k, I6 u, I6 b]⟩, U6 x, U6 y, s] h n fun v h' n' => v = .bool true := by
  have h1 : (y : Int).tmod 64 = ((y % 64 : Nat) : Int) := rfl
  have hv : y % 64 < 64 := Nat.mod_lt _ (by decide)
  generalize y % 64 = w at *
  have h2 : decide ((w : Int) < 0) = false := by simp
  obtain ⟨st, hor⟩ : ∃ st, (BitVec.ofInt IntKind.u64.bits (x : Int) ||| BitVec.ofInt IntKind.u64.bits (IntKind.u64.wrap (1 * 2 ^ min w 64))).toNat = st := ⟨_, rfl⟩
  simp only [go_sem] at hor
  by_cases c1 : k = 1
  · subst c1
    have hb : ¬ b = 0 := by omega
    refine EvB_run (N := 100) Tryz.func5 rfl rfl fun z hP hO hro hN hQ => ?_
    repeat' first | simp (maxSteps := 2000000) (disch := first | omega | assumption) only [go_sem, *, trueS] | (apply xs <;> intro _) <;> try omega | ((with_reducible refine isD 12 ?_); refine dw 112 12 w15_12 (by first | (simp only [go_sem, *]; done) | rfl) (by kernel_rfl) (by kernel_rfl) ?_) | refine fun (_ _ : List Nat) => ?_ | (first | refine inQ Tryz.func15 rfl ?_ ?_ ?_ ?_ | refine inQ Tryz.func30 rfl ?_ ?_ ?_ ?_ | refine inQ Tryz.func61 rfl ?_ ?_ ?_ ?_ | refine inQ Tryz.func62 rfl ?_ ?_ ?_ ?_ | refine inQ Tryz.func63 rfl ?_ ?_ ?_ ?_ | fail) <;> intros
  by_cases c2 : k = 2
  · subst c2
    have hb : ¬ b = 0 := by omega
    refine EvB_run (N := 100) Tryz.func5 rfl rfl fun z hP hO hro hN hQ => ?_
    repeat' first | simp (maxSteps := 2000000) (disch := first | omega | assumption) only [go_sem, *, trueS] | (apply xs <;> intro _) <;> try omega | ((with_reducible refine isD 12 ?_); refine dw 112 12 w15_12 (by first | (simp only [go_sem, *]; done) | rfl) (by kernel_rfl) (by kernel_rfl) ?_) | refine fun (_ _ : List Nat) => ?_ | (first | refine inQ Tryz.func15 rfl ?_ ?_ ?_ ?_ | refine inQ Tryz.func30 rfl ?_ ?_ ?_ ?_ | refine inQ Tryz.func61 rfl ?_ ?_ ?_ ?_ | refine inQ Tryz.func62 rfl ?_ ?_ ?_ ?_ | refine inQ Tryz.func63 rfl ?_ ?_ ?_ ?_ | fail) <;> intros
  by_cases c3 : k = 3
  · subst c3
    have hb : ¬ b < 1 → 16 < b := by omega
    refine EvB_run (N := 100) Tryz.func5 rfl rfl fun z hP hO hro hN hQ => ?_
    repeat' first | simp (maxSteps := 2000000) (disch := first | omega | assumption) only [go_sem, *, trueS] | (apply xs <;> intro _) <;> try omega | ((with_reducible refine isD 12 ?_); refine dw 112 12 w15_12 (by first | (simp only [go_sem, *]; done) | rfl) (by kernel_rfl) (by kernel_rfl) ?_) | refine fun (_ _ : List Nat) => ?_ | (first | refine inQ Tryz.func15 rfl ?_ ?_ ?_ ?_ | refine inQ Tryz.func30 rfl ?_ ?_ ?_ ?_ | refine inQ Tryz.func61 rfl ?_ ?_ ?_ ?_ | refine inQ Tryz.func62 rfl ?_ ?_ ?_ ?_ | refine inQ Tryz.func63 rfl ?_ ?_ ?_ ?_ | fail) <;> intros
  · have e1 : ¬ (k : Int) = 1 := by omega
    have e2 : ¬ (k : Int) = 2 := by omega
    have e3 : ¬ (k : Int) = 3 := by omega
    clear c1 c2 c3 hbad
    refine EvB_run (N := 100) Tryz.func5 rfl rfl fun z hP hO hro hN hQ => ?_
    repeat' first | simp (maxSteps := 2000000) (disch := first | omega | assumption) only [go_sem, *, trueS] | (apply xs <;> intro _) <;> try omega | ((with_reducible refine isD 12 ?_); refine dw 112 12 w15_12 (by first | (simp only [go_sem, *]; done) | rfl) (by kernel_rfl) (by kernel_rfl) ?_) | refine fun (_ _ : List Nat) => ?_ | (first | refine inQ Tryz.func15 rfl ?_ ?_ ?_ ?_ | refine inQ Tryz.func30 rfl ?_ ?_ ?_ ?_ | refine inQ Tryz.func61 rfl ?_ ?_ ?_ ?_ | refine inQ Tryz.func62 rfl ?_ ?_ ?_ ?_ | refine inQ Tryz.func63 rfl ?_ ?_ ?_ ?_ | fail) <;> intros
theorem stays (k x y : Nat) (u b : Int) (s : Value) (A : List (List Int)) (q : Nat) (h : PT ABlk) (N : Nat) (hW : WfH h N) (hk : k < 256) (hx : x < 2 ^ 64) (hs : IsRows ksI h q s A) :
    EvB Tryz.prog OP 5 [.agg ⟨[U8 k, I6 u, I6 b]⟩, U6 x, U6 y, s] h N fun v h' n' => v = .bool true := by
  obtain ⟨d, C, S, hA, c1, c2, c3⟩ : ∃ d C, St h N d C ∧ IsPicks d C s A ∧ C (20, 0) = none ∧ C (98, 0) = none ∧ C (99, 0) = none := by
    obtain ⟨ok, e | ⟨cap, e1, e2, e3, e4⟩⟩ := hs
    · exact ⟨_, _, St.none (fun _ => 0) hW, ⟨ok, .inl e⟩, rfl, rfl, rfl⟩
    · exact ⟨_, _, St.one (62, 0) hW e4, ⟨ok, .inr ⟨cap, e1, upd_same⟩⟩, upd_tag (by decide), upd_tag (by decide), upd_tag (by decide)⟩
  by_cases hbad : (k = 1 ∨ k = 2) ∧ b = 0 ∨ k = 3 ∧ 1 ≤ b ∧ b ≤ 16
  · rcases hbad with ⟨rfl | rfl, rfl⟩ | ⟨rfl, h1, h2⟩
    · exact staysL (kitF ⟨by omega, by omega⟩) hmeF hmbF S hx hA c1 c2 c3
    · exact staysL (kitE ⟨by omega, by omega⟩) hmeE hmbE S hx hA c1 c2 c3
    · obtain ⟨nb, rfl⟩ : ∃ nb : Nat, b = nb := ⟨b.toNat, by omega⟩
      exact staysL (kitG ⟨by omega, by omega⟩ ⟨by omega, by omega⟩) hmeG hmbG S hx hA c1 c2 c3
  · exact staysErr (d := d) (C := C) hk hbad
end Go.Proofs.YtbceiadaihphaaaGreat
