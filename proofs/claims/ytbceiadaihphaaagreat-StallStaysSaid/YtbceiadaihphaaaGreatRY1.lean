/-
  A part of the proof: contracts of inner functions.
-/
import Derived.Test.YtbceiadaihphaaaGreatRX19
import Derived.Test.YtbceiadaihphaaaGreatRO3
import Derived.Test.YtbceiadaihphaaaGreatRV5
set_option linter.unusedVariables false
set_option linter.unusedSimpArgs false
namespace Go.Proofs.YtbceiadaihphaaaGreat
open Go.Am
variable {e : Eng}
def RS.zero (s0 : e.σ) : RS e := ⟨s0, fun _ => 0, fun _ => 0, fun _ => false, fun _ => 0, 0, []⟩
def RS.begs (ops : Ops) (xp : Nat) (r : RS e) : Nat → RS e
  | 0 => r
  | i + 1 => RS.beg ops xp (RS.begs ops xp r i) i
theorem beg_s {ops : Ops} {xp : Nat} (fit : e.Fits) {r : RS e} {k u : Nat} (c : u ≠ k) : e.ent (RS.beg ops xp r k).s u = e.ent r.s u ∧ e.wt (RS.beg ops xp r k).s u = e.wt r.s u := by
  unfold RS.beg
  split
  · exact ⟨rfl, rfl⟩
  · split
    · rename_i q
      obtain ⟨f1, f2, f3⟩ := fit.enter r.s k _ q.2.2
      exact ⟨(f1 u).trans (if_neg c), f3 u⟩
    · split
      · exact ⟨rfl, rfl⟩
      · split
        · obtain ⟨f1, f2, f3⟩ := fit.wait r.s k _
          exact ⟨f1 u, (f3 u).trans (if_neg c)⟩
        · exact ⟨rfl, rfl⟩
theorem begs_inv {hasv : e.σ → Nat → Nat → Prop} {guard fresh : e.σ → Nat → Nat → Prop} {ng : Nat} (G : e.Grace ng hasv guard) (Fr : e.Fresh ng hasv guard fresh) {s0 : e.σ} (idle : ∀ t, e.ent s0 t = false ∧ e.wt s0 t = false ∧ e.inn s0 t = false) {ops : Ops} {xp : Nat} : ∀ i, RInv ops xp hasv fresh i (RS.begs ops xp (RS.zero s0) i) ∧ (∀ u, i ≤ u → e.ent (RS.begs ops xp (RS.zero s0) i).s u = false ∧ e.wt (RS.begs ops xp (RS.zero s0) i).s u = false) ∧ (∀ u, e.inn (RS.begs ops xp (RS.zero s0) i).s u = false) ∧ (RS.begs ops xp (RS.zero s0) i).idx = (fun _ => 0) ∧ (RS.begs ops xp (RS.zero s0) i).n = 0 ∧ (RS.begs ops xp (RS.zero s0) i).ev = []
  | 0 => by
    refine ⟨⟨fun t => ?_, fun k hk => absurd hk (by omega), fun k h => ?_, fun k v hk => absurd hk (by omega), fun k hk => absurd hk (by omega)⟩, fun u _ => ⟨(idle u).1, (idle u).2.1⟩, fun u => (idle u).2.2, rfl, rfl, rfl⟩
    · obtain ⟨i1, i2, i3⟩ := idle t
      exact ⟨fun q => by rw [show e.ent (RS.begs ops xp (RS.zero s0) 0).s t = false from i1] at q; simp at q, fun _ => i2⟩
    · obtain ⟨i1, i2, i3⟩ := idle k
      rcases h with h | h
      · rw [show e.ent (RS.begs ops xp (RS.zero s0) 0).s k = false from i1] at h; simp at h
      · rw [show e.inn (RS.begs ops xp (RS.zero s0) 0).s k = false from i3] at h; simp at h
  | i + 1 => by
    obtain ⟨I, h1, h2, h3, h4, h5⟩ := begs_inv G Fr idle (ops := ops) (xp := xp) i
    have p : RPre ops xp hasv fresh (i + 1) (RS.begs ops xp (RS.zero s0) i) i := ⟨I.one, fun u hu c => I.at_ u (by omega), h1 i (Nat.le_refl _), I.val, fun u v hu c => I.fr u v (by omega), fun u hu => by rw [h3]; exact Nat.zero_le _⟩
    obtain ⟨I', q1, q2, q3, q4⟩ := RPre.beg G Fr p
    refine ⟨I', fun u hu => ?_, fun u => (q4 u).trans (h2 u), q1.trans h3, q2.trans h4, q3.trans h5⟩
    obtain ⟨b1, b2⟩ := beg_s (ops := ops) (xp := xp) G.fits (r := RS.begs ops xp (RS.zero s0) i) (show u ≠ i by omega)
    obtain ⟨c1, c2⟩ := h1 u (by omega)
    exact ⟨b1.trans c1, b2.trans c2⟩
end Go.Proofs.YtbceiadaihphaaaGreat
set_option linter.unusedVariables false
set_option linter.unusedSimpArgs false
namespace Go.Proofs.YtbceiadaihphaaaGreat
open Go.Am
theorem memNewS {h : PT ABlk} {n b cap : Nat} {d : Rl → Nat} {C : Rl → Option ABlk} {W : List Int} {ro : Bool} (S : St h n d C) (hb : h.get b = rowr (W.map (.int .u64)) ro) (h1 : 0 < W.length) (h2 : W.length ≤ 65536) :
    EvB Tryz.prog OP 31 [.slice (some ⟨b, 0, none⟩) W.length cap] h n fun v h' n' => ∃ d' C', v = tup [pt (d' rM), I6 0] ∧ St h' n' d' C' ∧ IsM d' C' W [] 0 ∧ ∀ a b, 2 < a → d' (a, b) = d (a, b) ∧ C' (a, b) = C (a, b) := by
  obtain ⟨kk, v, h', n', e, rfl, rfl, q1, q2, q3, q4⟩ := memNewB (O := OP) rfl rfl b cap W ro h n S.wf hb h1 h2
  refine ⟨kk, _, h', _, e, _, _, by simp (disch := first | decide | assumption | omega) only [rM, rW, rL, upd_same, upd_tag, upd_num, memC_ne], ((S.kept q3 q4).give rW q2 fun s D c => ?_).give rM q1 fun s D c => ?_, ⟨by simp (disch := first | decide | assumption | omega) only [rM, rW, rL, upd_same, upd_tag, upd_num, memC_ne]; rfl, by simp (disch := first | decide | assumption | omega) only [rM, rW, rL, upd_same, upd_tag, upd_num, memC_ne], .inl ⟨rfl, rfl⟩, rfl⟩, fun a b c => ⟨by simp (disch := first | decide | assumption | omega) only [rM, rW, rL, upd_same, upd_tag, upd_num, memC_ne], by simp (disch := first | decide | assumption | omega) only [rM, rW, rL, upd_same, upd_tag, upd_num, memC_ne]⟩⟩
  · have := S.lt c; omega
  · by_cases c2 : s = rW
    · subst c2; rw [upd_same]; omega
    · rw [upd_ne c2] at c ⊢
      have := S.lt c; omega
theorem IsM.of {d d' : Rl → Nat} {C C' : Rl → Option ABlk} {W : List Int} {L : List Value} {k : Nat} (M : IsM d C W L k) (hd : ∀ a, a < 3 → d' (a, 0) = d (a, 0) ∧ C' (a, 0) = C (a, 0)) : IsM d' C' W L k := by
  obtain ⟨m1, m2, m3, m4⟩ := M
  refine ⟨?_, ?_, ?_, m4⟩
  · rw [(hd 0 (by omega)).2, (hd 1 (by omega)).1, (hd 2 (by omega)).1]; exact m1
  · rw [(hd 1 (by omega)).2]; exact m2
  · rw [(hd 2 (by omega)).2]; exact m3
def FS.new : FS := ⟨fun _ => 0, fun _ => false, fun _ => none⟩
theorem repF_new {ns : Nat} {d : Rl → Nat} {C : Rl → Option ABlk} (M : IsM d C (nl ns fun _ => 0) [] 0) (E : EngF d C 0 ns (nl ns fun _ => 0) (bl ns fun _ => false)) : RepF ns FS.new 0 d C :=
  ⟨⟨[], M⟩, E, fun _ _ => Nat.le_refl _, fun _ _ h => by simp [FS.new] at h, fun _ _ h => by simp [FS.new] at h, fun _ _ _ h => by simp [FS.new] at h⟩
structure Start (e : Eng) (ns : Nat) (rep : e.σ → Nat → (Rl → Nat) → (Rl → Option ABlk) → Prop) (kd nb nw : Nat) (s0 : e.σ) : Prop where
  wpos : 0 < nw ∧ nw ≤ 65536
  wordsB : ∀ {h : PT ABlk} {n : Nat} {d : Rl → Nat} {C : Rl → Option ABlk}, St h n d C → EvB Tryz.prog OP 30 [U8 kd, I6 ns, I6 nb] h n fun r h' n' => r = tup [I6 nw, I6 0] ∧ St h' n' d C
  newB : ∀ {h : PT ABlk} {n : Nat} {d : Rl → Nat} {C : Rl → Option ABlk}, St h n d C → IsM d C (nl nw fun _ => 0) [] 0 → C (20, 0) = none → EvB Tryz.prog OP 32 [pt (d rM), U8 kd, I6 0, I6 ns, I6 nb] h n fun r h' n' => ∃ d' C', r = tup [pt (d' (4, 0)), I6 0] ∧ St h' n' d' C' ∧ rep s0 0 d' C' ∧ d' rM = d rM ∧ ∀ a b, 30 ≤ a → d' (a, b) = d (a, b) ∧ C' (a, b) = C (a, b)
  idle : ∀ t, e.ent s0 t = false ∧ e.wt s0 t = false ∧ e.inn s0 t = false
set_option maxRecDepth 100000 in
set_option maxHeartbeats 4000000 in
theorem startF {ns : Nat} (hns : 0 < ns ∧ ns ≤ 64) : Start (engF ns) ns (RepF ns) 1 0 ns FS.new := by
  refine ⟨by omega, fun {h n d C} S => ?_, fun {h n d C} S M sc => ?_, fun t => ⟨rfl, rfl, rfl⟩⟩
  · obtain ⟨hn1, hn2⟩ := hns
    have hc0 : ¬ (ns : Int) < 1 := by omega
    have hc1 : ¬ (64 : Int) < ns := by omega
    refine EvB_run (N := 41) Tryz.func30 rfl rfl fun z hP hO hro hN hQ => ?_
    repeat' first | simp (maxSteps := 2000000) (disch := first | omega | assumption) only [go_sem, *] | (apply xs <;> intro _) <;> try omega | refine fun (_ _ : List Nat) => ?_ | (first | refine inQ Tryz.func61 rfl ?_ ?_ ?_ ?_ | refine inQ Tryz.func62 rfl ?_ ?_ ?_ ?_ | refine inQ Tryz.func63 rfl ?_ ?_ ?_ ?_ | fail) <;> intros
  · obtain ⟨kk, v, h', n', q, d', C', rfl, S', E, k'⟩ := newFB S M hns nl_length
    refine ⟨kk, _, h', n', q, d', C', rfl, S', repF_new (M.of fun a ha => k' a 0 (by omega) (by omega) (by omega) (by omega)) E, (k' 0 0 (by omega) (by omega) (by omega) (by omega)).1, fun a b c => k' a b (by omega) (by omega) (by omega) (by omega)⟩
set_option maxRecDepth 100000 in
set_option maxHeartbeats 4000000 in
theorem startE {ns : Nat} (hns : 0 < ns ∧ ns ≤ 64) : Start (engE ns) ns (RepE ns) 2 0 (2 * ns) ES.new := by
  refine ⟨by omega, fun {h n d C} S => ?_, fun {h n d C} S M sc => ?_, fun t => ⟨rfl, rfl, rfl⟩⟩
  · obtain ⟨hn1, hn2⟩ := hns
    have hc0 : ¬ (ns : Int) < 1 := by omega
    have hc1 : ¬ (64 : Int) < ns := by omega
    have hc2 : ((2 * ns : Nat) : Int) = 2 * (ns : Int) := by omega
    rw [hc2]
    clear hc2
    refine EvB_run (N := 41) Tryz.func30 rfl rfl fun z hP hO hro hN hQ => ?_
    repeat' first | simp (maxSteps := 2000000) (disch := first | omega | assumption) only [go_sem, *] | (apply xs <;> intro _) <;> try omega | refine fun (_ _ : List Nat) => ?_ | (first | refine inQ Tryz.func61 rfl ?_ ?_ ?_ ?_ | refine inQ Tryz.func62 rfl ?_ ?_ ?_ ?_ | refine inQ Tryz.func63 rfl ?_ ?_ ?_ ?_ | fail) <;> intros
  · obtain ⟨kk, v, h', n', q, d', C', rfl, S', E, k'⟩ := newEB S M hns nl_length
    refine ⟨kk, _, h', n', q, d', C', rfl, S', repE_new (M.of fun a ha => k' a 0 (by omega) (by omega) (by omega) (by omega)) E, (k' 0 0 (by omega) (by omega) (by omega) (by omega)).1, fun a b c => k' a b (by omega) (by omega) (by omega) (by omega)⟩
set_option maxRecDepth 100000 in
set_option maxHeartbeats 4000000 in
theorem startG {ns nb : Nat} (hns : 0 < ns ∧ ns ≤ 64) (hnb : 0 < nb ∧ nb ≤ 16) : Start (engG ns nb) ns (RepG ns nb) 3 nb (4 * nb) GS.new := by
  refine ⟨by omega, fun {h n d C} S => ?_, fun {h n d C} S M sc => ?_, fun t => ⟨rfl, rfl, rfl⟩⟩
  · obtain ⟨hn1, hn2⟩ := hns
    obtain ⟨hn3, hn4⟩ := hnb
    have hc0 : ¬ (ns : Int) < 1 := by omega
    have hc1 : ¬ (64 : Int) < ns := by omega
    have hc2 : ((4 * nb : Nat) : Int) = 4 * (nb : Int) := by omega
    have hc3 : ¬ (nb : Int) < 1 := by omega
    have hc4 : ¬ (16 : Int) < nb := by omega
    rw [hc2]
    clear hc2
    refine EvB_run (N := 41) Tryz.func30 rfl rfl fun z hP hO hro hN hQ => ?_
    repeat' first | simp (maxSteps := 2000000) (disch := first | omega | assumption) only [go_sem, *] | (apply xs <;> intro _) <;> try omega | refine fun (_ _ : List Nat) => ?_ | (first | refine inQ Tryz.func61 rfl ?_ ?_ ?_ ?_ | refine inQ Tryz.func62 rfl ?_ ?_ ?_ ?_ | refine inQ Tryz.func63 rfl ?_ ?_ ?_ ?_ | fail) <;> intros
  · obtain ⟨kk, v, h', n', q, d', C', rfl, S', E, k'⟩ := newGB S M hns hnb nl_length
    refine ⟨kk, _, h', n', q, d', C', rfl, S', repG_new hnb (M.of fun a ha => k' a 0 (by omega) (by omega) (by omega) (by omega)) E ((k' 20 0 (by omega) (by omega) (by omega) (by omega)).2.trans sc), (k' 0 0 (by omega) (by omega) (by omega) (by omega)).1, fun a b c => k' a b (by omega) (by omega) (by omega) (by omega)⟩
end Go.Proofs.YtbceiadaihphaaaGreat
