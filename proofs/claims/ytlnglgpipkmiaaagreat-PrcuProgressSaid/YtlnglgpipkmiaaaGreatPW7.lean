/-
  A part of the proof: contracts of inner functions.
-/
import Derived.Test.YtlnglgpipkmiaaaGreatPW4
import Derived.Test.YtlnglgpipkmiaaaGreatPX6G
import Derived.Test.YtlnglgpipkmiaaaGreatPX3G
set_option linter.unusedVariables false
set_option linter.unusedSimpArgs false
namespace Go.Proofs.YtlnglgpipkmiaaaGreat
open Go.Am
structure Eng.Beg (e : Eng) (I : e.σ → Prop) : Prop where
  enter : ∀ s t v, I s → t < 6 → e.busy s t = false → I (e.enter s t v)
  wait : ∀ s t st, I s → t < 6 → e.busy s t = false → st ≠ 0 → st < 2 ^ 64 → I (e.wait s t st)
theorem begF : engF.Beg IF := by
  refine ⟨fun s t v i ht hb => ?_, fun s t st i ht hb h0 h1 => ?_⟩
  · have hb' : ¬ (s.E t = true ∨ (s.X t).isSome = true ∨ s.N t % 2 = 1) := fun q => by rw [busyF.2 q] at hb; simp at hb
    refine ⟨one_of fun u => ?_, i.x⟩
    have o := oneF i.one u
    refine ⟨fun q => ?_, o.2⟩
    by_cases c : u = t
    · subst c
      refine ⟨by have : ¬ s.N u % 2 = 1 := fun q => hb' (.inr (.inr q)); show s.N u % 2 = 0; omega, ?_⟩
      cases hx : s.X u with
      | none => rfl
      | some x => exact absurd (.inr (.inl (by rw [hx]; rfl))) hb'
    · have q' : fs s.E t true u = true := q
      rw [fs_ne c] at q'; exact o.1 q'
  · have hb' : ¬ (s.E t = true ∨ (s.X t).isSome = true ∨ s.N t % 2 = 1) := fun q => by rw [busyF.2 q] at hb; simp at hb
    refine ⟨one_of fun u => ?_, fun u y hy => ?_⟩
    · have o := oneF i.one u
      by_cases c : u = t
      · subst c
        exact ⟨fun q => absurd (.inl q) hb', fun q => absurd (.inr (.inr q)) hb'⟩
      · exact ⟨fun q => ⟨(o.1 q).1, (fs_ne c).trans (o.1 q).2⟩, fun q => (fs_ne c).trans (o.2 q)⟩
    · by_cases c : u = t
      · subst c
        have hy' : fs s.X u _ u = some y := hy
        rw [fs_same] at hy'
        obtain rfl := Option.some.inj hy'
        exact ⟨by show 0 < 6; omega, rfl, fun q => by simp at q⟩
      · exact i.x u y ((fs_ne c).symm.trans hy)
theorem begE : engE.Beg IE := by
  refine ⟨fun s t v i ht hb => ?_, fun s t st i ht hb h0 h1 => ?_⟩
  · have hb' : ¬ (s.E t ≠ 0 ∨ (s.X t).isSome = true ∨ s.N t % 2 = 1) := fun q => by rw [busyE.2 q] at hb; simp at hb
    refine ⟨one_ofE fun u => ?_, i.x⟩
    have o := oneE i.one u
    refine ⟨fun q => ?_, o.2⟩
    by_cases c : u = t
    · subst c
      refine ⟨by have : ¬ s.N u % 2 = 1 := fun q => hb' (.inr (.inr q)); show s.N u % 2 = 0; omega, ?_⟩
      cases hx : s.X u with
      | none => rfl
      | some x => exact absurd (.inr (.inl (by rw [hx]; rfl))) hb'
    · have q' : fs s.E t 1 u ≠ 0 := q
      rw [fs_ne c] at q'; exact o.1 q'
  · have hb' : ¬ (s.E t ≠ 0 ∨ (s.X t).isSome = true ∨ s.N t % 2 = 1) := fun q => by rw [busyE.2 q] at hb; simp at hb
    refine ⟨one_ofE fun u => ?_, fun u y s2 hy => ?_⟩
    · have o := oneE i.one u
      by_cases c : u = t
      · subst c
        exact ⟨fun q => absurd (.inl q) hb', fun q => absurd (.inr (.inr q)) hb'⟩
      · exact ⟨fun q => ⟨(o.1 q).1, (fs_ne c).trans (o.1 q).2⟩, fun q => (fs_ne c).trans (o.2 q)⟩
    · by_cases c : u = t
      · subst c
        have hy' : fs s.X u _ u = some (y, s2) := hy
        rw [fs_same] at hy'
        obtain ⟨rfl, rfl⟩ := Prod.mk.inj (Option.some.inj hy')
        exact ⟨by show 0 < 6; omega, by show 0 < 3; omega, fun q => absurd rfl q⟩
      · exact i.x u y s2 ((fs_ne c).symm.trans hy)
theorem lefts_length {nb : Nat} {ms : List Nat} : (lefts nb ms).length ≤ nb := by
  unfold lefts
  exact Nat.le_trans (List.length_filter_le _ _) (by rw [List.length_range]; exact Nat.le_refl _)
theorem begG {nb : Nat} (hnb : 0 < nb) : (engG nb).Beg (IG nb) := by
  refine ⟨fun s t v i ht hb => ?_, fun s t st i ht hb h0 h1 => ?_⟩
  · have hb' : ¬ (s.S t ≠ .no ∨ (s.X t).isSome = true) := fun q => by rw [busyG.2 q] at hb; simp at hb
    refine ⟨one_ofG fun u hu => ?_, i.x, i.k⟩
    by_cases c : u = t
    · subst c
      show s.X u = none
      cases hx : s.X u with
      | none => rfl
      | some x => exact absurd (.inr (by rw [hx]; rfl)) hb'
    · have hu' : fs s.S t _ u ≠ .no := hu
      rw [fs_ne c] at hu'; exact oneG i.one u hu'
  · have hb' : ¬ (s.S t ≠ .no ∨ (s.X t).isSome = true) := fun q => by rw [busyG.2 q] at hb; simp at hb
    have hxn : s.X t = none := by
      cases hx : s.X t with
      | none => rfl
      | some x => exact absurd (.inr (by rw [hx]; rfl)) hb'
    refine ⟨one_ofG fun u hu => ?_, fun u y hy => ?_, fun b u hk => ?_⟩
    · have c : u ≠ t := fun q => by subst q; exact hb' (.inl hu)
      exact (fs_ne c).trans (oneG i.one u hu)
    · by_cases c : u = t
      · subst c
        have hy' : fs s.X u _ u = some y := hy
        rw [fs_same] at hy'
        obtain rfl := Option.some.inj hy'
        obtain ⟨b, r, hl⟩ := lefts_some hnb h0 h1
        exact ⟨b, r, hl, by show 0 ≤ 5; omega, lefts_length, fun q => absurd q (Nat.not_succ_le_zero 0)⟩
      · exact i.x u y ((fs_ne c).symm.trans hy)
    · obtain ⟨k1, r, ph, sd, k2, k3⟩ := i.k b u hk
      have c : u ≠ t := fun q => by subst q; rw [hxn] at k2; simp at k2
      exact ⟨k1, r, ph, sd, (fs_ne c).trans k2, k3⟩
def Eng.qact (e : Eng) (s : e.σ) (u v : Nat) : e.σ := if e.ent s u = true then e.estep s u else if e.inn s u = true then e.exit s u else e.estep (e.enter s u v) u
structure Eng.Quiet (e : Eng) (I : e.σ → Prop) (B : Nat) (qok : Nat → Nat → Prop) (P2 : Nat → Nat → Bool → e.σ → Nat → Prop) : Prop where
  start : ∀ s set v q, I s → (∀ t, t < 6 → e.busy s t = false) → set ≠ 0 → set < 2 ^ 64 → v < 64 → (q = true → qok set v) → P2 set v q (e.wstep (e.wait s 5 set) 5) (B - 1)
  act : ∀ s set v m u, P2 set v true s m → u < 5 → P2 set v true (e.qact s u v) m
  wait : ∀ s set v q m, P2 set v q s m → e.wt s 5 = true → 0 < m ∧ P2 set v q (e.wstep s 5) (m - 1)
  others : ∀ s set v q m u, P2 set v q s m → u < 5 → e.wt s u = false
  pos : 0 < B
end Go.Proofs.YtlnglgpipkmiaaaGreat
set_option linter.unusedVariables false
set_option linter.unusedSimpArgs false
namespace Go.Proofs.YtlnglgpipkmiaaaGreat
open Go.Am
structure P2F (set v : Nat) (q : Bool) (s : FS) (m : Nat) : Prop where
  hq : q = false
  no : ∀ u, u < 6 → s.E u = false ∧ s.N u % 2 = 0
  x : ∀ u, u < 5 → s.X u = none
  w : ∀ x, s.X 5 = some x → x.slot < 6 ∧ x.again = false ∧ x.ended = false ∧ 6 - x.slot ≤ m
theorem fw_even {x : FW} {w : Nat} (h : x.again = false) (hw : w % 2 = 0) : x.step 6 w = x.next 6 := by
  have ht : ((w : Nat) : Int).tmod 2 = ((w % 2 : Nat) : Int) := rfl
  unfold FW.step
  rw [if_neg (by rw [h]; simp), if_pos (by rw [ht, hw]; rfl)]
theorem quietF : engF.Quiet IF 6 (fun _ _ => False) P2F := by
  have step : ∀ (s : FS) (x : FW) (set v : Nat) (m : Nat), (∀ u, u < 6 → s.E u = false ∧ s.N u % 2 = 0) → (∀ u, u < 5 → s.X u = none) → s.X 5 = some x → x.slot < 6 → x.again = false → x.ended = false → 6 - x.slot ≤ m → 0 < m ∧ P2F set v false (engF.wstep s 5) (m - 1) := fun s x set v m hno hx5 hx h1 h2 h3 h4 => by
    refine ⟨by omega, ?_⟩
    rw [engF_wstep hx, fw_even h2 (hno x.slot h1).2]
    refine ⟨rfl, hno, fun u hu => (fs_ne (by omega)).trans (hx5 u hu), fun y hy => ?_⟩
    have hy' : (if (x.next 6).ended = true then none else some (x.next 6)) = some y := by
      have q : fs s.X 5 (if (x.next 6).ended = true then none else some (x.next 6)) 5 = some y := hy
      rwa [fs_same] at q
    by_cases c : x.slot + 1 = 6
    · rw [if_pos (show (x.next 6).ended = true from decide_eq_true c)] at hy'; simp at hy'
    · rw [if_neg (show ¬ (x.next 6).ended = true from by rw [show (x.next 6).ended = false from decide_eq_false c]; simp)] at hy'
      obtain rfl := Option.some.inj hy'
      exact ⟨by show x.slot + 1 < 6; omega, rfl, decide_eq_false c, by show 6 - (x.slot + 1) ≤ m - 1; omega⟩
  refine ⟨fun s set v q i h h0 h1 hv hq => ?_, fun s set v m u p hu => absurd p.hq (by simp), fun s set v q m p hw => ?_, fun s set v q m u p hu => ?_, by omega⟩
  · have hb : ∀ t, t < 6 → ¬ (s.E t = true ∨ (s.X t).isSome = true ∨ s.N t % 2 = 1) := fun t ht q => by have := h t ht; rw [busyF.2 q] at this; simp at this
    have hqf : q = false := by cases q with
      | false => rfl
      | true => exact absurd (hq rfl) id
    subst hqf
    have hno : ∀ u, u < 6 → s.E u = false ∧ s.N u % 2 = 0 := fun u hu => ⟨by cases he : s.E u with
      | false => rfl
      | true => exact absurd (.inl he) (hb u hu), by have : ¬ s.N u % 2 = 1 := fun q => hb u hu (.inr (.inr q)); omega⟩
    have hxn : ∀ u, u < 6 → s.X u = none := fun u hu => by
      cases hx : s.X u with
      | none => rfl
      | some x => exact absurd (.inr (.inl (by rw [hx]; rfl))) (hb u hu)
    exact (step (engF.wait s 5 set) ⟨0, false, 0, false⟩ set v 6 hno (fun u hu => (fs_ne (by omega)).trans (hxn u (by omega))) (show fs s.X 5 _ 5 = _ from fs_same) (by show 0 < 6; omega) rfl rfl (by show 6 - 0 ≤ 6; omega)).2
  · obtain ⟨p1, p2, p3, p4⟩ := p
    subst p1
    obtain ⟨x, hx⟩ := Option.isSome_iff_exists.1 (show (s.X 5).isSome = true from hw)
    obtain ⟨a1, a2, a3, a4⟩ := p4 x hx
    exact step s x set v m p2 p3 hx a1 a2 a3 a4
  · show (s.X u).isSome = false
    rw [p.x u hu]; rfl
structure P2E (set v : Nat) (q : Bool) (s : ES) (m : Nat) : Prop where
  hv : v < 64
  hq : q = true → set.testBit v = false
  no : s.E 5 = 0 ∧ s.N 5 % 2 = 0
  odd : ∀ u, s.N u % 2 = 1 → u < 5 → q = true ∧ s.V u = v ∧ s.E u = 0
  ent : ∀ u, s.E u ≠ 0 → u < 5 → q = true ∧ s.A u = v ∧ (s.E u = 1 ∨ s.V u = v)
  x : ∀ u, u < 5 → s.X u = none
  w : ∀ x st, s.X 5 = some (x, st) → st = set ∧ x.slot < 6 ∧ (x.st = 0 ∨ (x.st = 1 ∧ x.slot < 5 ∧ q = true ∧ s.V x.slot = v)) ∧ 2 * (6 - x.slot) - x.st ≤ m
theorem inSet_no {v st : Nat} (hv : v < 64) (h : st.testBit v = false) : inSet (v : Int) (st : Int) = false := by
  unfold inSet
  rw [decide_eq_true ⟨by omega, by omega⟩, Int.toNat_natCast, Int.toNat_natCast, h]; rfl
theorem quietE : engE.Quiet IE 18 (fun set v => set.testBit v = false) P2E := by
  have next : ∀ (s : ES) (z x : EW) (set v : Nat) (q : Bool) (m : Nat), P2E set v q s m → z.slot = x.slot → x.slot < 6 → x.st ≤ 1 → 2 * (6 - x.slot) - x.st ≤ m → P2E set v q ({ s with X := fs s.X 5 (if (z.next 6).st = 3 then none else some (z.next 6, set)) } : ES) (m - 1) := fun s z x set v q m p hz h1 h2 h4 => by
    refine ⟨p.hv, p.hq, p.no, p.odd, p.ent, fun u hu => (fs_ne (by omega)).trans (p.x u hu), fun y s2 hy => ?_⟩
    have hy' : (if (z.next 6).st = 3 then none else some (z.next 6, set)) = some (y, s2) := by
      have q : fs s.X 5 (if (z.next 6).st = 3 then none else some (z.next 6, set)) 5 = some (y, s2) := hy
      rwa [fs_same] at q
    by_cases c : z.slot + 1 = 6
    · have e : (z.next 6).st = 3 := if_pos c
      rw [if_pos e] at hy'
      simp at hy'
    · have e : (z.next 6).st = 0 := if_neg c
      rw [if_neg (by omega)] at hy'
      obtain ⟨rfl, rfl⟩ := Prod.mk.inj (Option.some.inj hy')
      exact ⟨rfl, by show z.slot + 1 < 6; omega, .inl e, by rw [e]; show 2 * (6 - (z.slot + 1)) - 0 ≤ m - 1; omega⟩
  have step : ∀ (s : ES) (x : EW) (set v : Nat) (q : Bool) (m : Nat), P2E set v q s m → s.X 5 = some (x, set) → x.slot < 6 → (x.st = 0 ∨ (x.st = 1 ∧ x.slot < 5 ∧ q = true ∧ s.V x.slot = v)) → 2 * (6 - x.slot) - x.st ≤ m → 0 < m ∧ P2E set v q (engE.wstep s 5) (m - 1) := fun s x set v q m p hx h1 h2 h4 => by
    have ht : ((s.N x.slot : Nat) : Int).tmod 2 = ((s.N x.slot % 2 : Nat) : Int) := rfl
    refine ⟨by rcases h2 with h2 | h2 <;> omega, ?_⟩
    rw [engE_wstep hx]
    rcases h2 with h2 | ⟨h2, h3, hq, hV⟩
    · have hw : s.word x = s.N x.slot := if_neg (by omega)
      unfold EW.step
      rw [if_pos h2, hw, ht]
      by_cases c : s.N x.slot % 2 = 1
      · rw [if_pos (show ((s.N x.slot % 2 : Nat) : Int) = 1 by omega), if_neg (by simp)]
        have h5 : x.slot < 5 := by
          by_cases c5 : x.slot = 5
          · rw [c5] at c; have := p.no.2; omega
          · omega
        obtain ⟨o1, o2, o3⟩ := p.odd x.slot c h5
        refine ⟨p.hv, p.hq, p.no, p.odd, p.ent, fun u hu => (fs_ne (by omega)).trans (p.x u hu), fun y s2 hy => ?_⟩
        have hy' : fs s.X 5 _ 5 = some (y, s2) := hy
        rw [fs_same] at hy'
        obtain ⟨rfl, rfl⟩ := Prod.mk.inj (Option.some.inj hy')
        exact ⟨rfl, h1, .inr ⟨rfl, h5, o1, o2⟩, by show 2 * (6 - x.slot) - 1 ≤ m - 1; omega⟩
      · rw [if_neg (show ¬ ((s.N x.slot % 2 : Nat) : Int) = 1 by omega)]
        exact next s _ x set v q m p rfl h1 (by omega) h4
    · have hw : s.word x = s.V x.slot := if_pos h2
      unfold EW.step
      rw [if_neg (show ¬ x.st = 0 by omega), if_pos h2, hw, hV, inSet_no p.hv (p.hq hq), if_neg (show ¬ false = true by simp)]
      exact next s _ x set v q m p rfl h1 (by omega) h4
  refine ⟨fun s set v q i h h0 h1 hv hq => ?_, fun s set v m u p hu => ?_, fun s set v q m p hw => ?_, fun s set v q m u p hu => ?_, by omega⟩
  · have hb : ∀ t, t < 6 → ¬ (s.E t ≠ 0 ∨ (s.X t).isSome = true ∨ s.N t % 2 = 1) := fun t ht q => by have := h t ht; rw [busyE.2 q] at this; simp at this
    have hE0 : ∀ u, u < 6 → s.E u = 0 := fun u hu => by
      by_cases c : s.E u = 0
      · exact c
      · exact absurd (.inl c) (hb u hu)
    have hN0 : ∀ u, u < 6 → s.N u % 2 = 0 := fun u hu => by have : ¬ s.N u % 2 = 1 := fun q => hb u hu (.inr (.inr q)); omega
    have hxn : ∀ u, u < 6 → s.X u = none := fun u hu => by
      cases hx : s.X u with
      | none => rfl
      | some x => exact absurd (.inr (.inl (by rw [hx]; rfl))) (hb u hu)
    have p : P2E set v q (engE.wait s 5 set) 18 := ⟨hv, hq, ⟨hE0 5 (by omega), hN0 5 (by omega)⟩, fun u hu h5 => by have := hN0 u (by omega); have hu' : s.N u % 2 = 1 := hu; omega, fun u hu h5 => absurd (hE0 u (by omega)) hu, fun u hu => (fs_ne (by omega)).trans (hxn u (by omega)), fun y s2 hy => by
      have hy' : fs s.X 5 _ 5 = some (y, s2) := hy
      rw [fs_same] at hy'
      obtain ⟨rfl, rfl⟩ := Prod.mk.inj (Option.some.inj hy')
      exact ⟨rfl, by show 0 < 6; omega, .inl rfl, by show 2 * (6 - 0) - 0 ≤ 18; omega⟩⟩
    exact (step (engE.wait s 5 set) ⟨0, 0, 0⟩ set v q 18 p (show fs s.X 5 _ 5 = _ from fs_same) (by show 0 < 6; omega) (.inl rfl) (by show 2 * (6 - 0) - 0 ≤ 18; omega)).2
  · unfold Eng.qact
    have p0 := p
    obtain ⟨pv, pq, pno, podd, pent, px, pw⟩ := p
    by_cases he : s.E u = 0
    · rw [if_neg (show ¬ engE.ent s u = true by show ¬ decide (s.E u ≠ 0) = true; rw [he]; simp)]
      by_cases hn : s.N u % 2 = 1
      · rw [if_pos (show engE.inn s u = true from decide_eq_true hn)]
        refine ⟨pv, pq, ⟨pno.1, by show fs s.N u (s.N u + 1) 5 % 2 = 0; rw [fs_ne (by omega)]; exact pno.2⟩, fun w hw h5 => ?_, pent, px, pw⟩
        have hw' : fs s.N u (s.N u + 1) w % 2 = 1 := hw
        by_cases c : w = u
        · subst c; rw [fs_same] at hw'; omega
        · rw [fs_ne c] at hw'; exact podd w hw' h5
      · rw [if_neg (show ¬ engE.inn s u = true by show ¬ decide (s.N u % 2 = 1) = true; simpa using hn)]
        have eq : engE.estep (engE.enter s u v) u = { s with V := fs s.V u v, A := fs s.A u v, E := fs s.E u 2 } := by
          show (if fs s.E u 1 u = 1 then ({ s with E := fs (fs s.E u 1) u 2, A := fs s.A u v, V := fs s.V u (fs s.A u v u) } : ES) else _) = _
          rw [fs_same, if_pos rfl, fs_same]
          congr 1
          funext w
          unfold fs; split <;> rfl
        rw [eq]
        refine ⟨pv, pq, ⟨by show fs s.E u 2 5 = 0; rw [fs_ne (by omega)]; exact pno.1, pno.2⟩, fun w hw h5 => ?_, fun w hw h5 => ?_, px, fun y s2 hy => ?_⟩
        · by_cases c : w = u
          · subst c; exact absurd hw hn
          · show true = true ∧ fs s.V u v w = v ∧ fs s.E u 2 w = 0
            rw [fs_ne c, fs_ne c]; exact podd w hw h5
        · have hw' : fs s.E u 2 w ≠ 0 := hw
          show true = true ∧ fs s.A u v w = v ∧ (fs s.E u 2 w = 1 ∨ fs s.V u v w = v)
          by_cases c : w = u
          · subst c; rw [fs_same, fs_same, fs_same]; exact ⟨rfl, rfl, .inr rfl⟩
          · rw [fs_ne c] at hw'
            rw [fs_ne c, fs_ne c, fs_ne c]; exact pent w hw' h5
        · obtain ⟨w1, w2, w3, w4⟩ := pw y s2 hy
          refine ⟨w1, w2, w3.imp id fun z => ⟨z.1, z.2.1, rfl, ?_⟩, w4⟩
          show fs s.V u v y.slot = v
          unfold fs; split
          · rfl
          · exact z.2.2.2
    · rw [if_pos (show engE.ent s u = true from decide_eq_true he)]
      obtain ⟨e1, e2, e3⟩ := pent u he hu
      have eq : engE.estep s u = if s.E u = 1 then { s with V := fs s.V u (s.A u), E := fs s.E u 2 } else { s with N := fs s.N u (s.N u + 1), E := fs s.E u 0 } := rfl
      rw [eq]
      by_cases c1 : s.E u = 1
      · rw [if_pos c1, e2]
        refine ⟨pv, pq, ⟨by show fs s.E u 2 5 = 0; rw [fs_ne (by omega)]; exact pno.1, pno.2⟩, fun w hw h5 => ?_, fun w hw h5 => ?_, px, fun y s2 hy => ?_⟩
        · by_cases c : w = u
          · subst c; have := (podd w hw h5).2.2; omega
          · show true = true ∧ fs s.V u v w = v ∧ fs s.E u 2 w = 0
            rw [fs_ne c, fs_ne c]; exact podd w hw h5
        · have hw' : fs s.E u 2 w ≠ 0 := hw
          show true = true ∧ s.A w = v ∧ (fs s.E u 2 w = 1 ∨ fs s.V u v w = v)
          by_cases c : w = u
          · subst c; rw [fs_same, fs_same]; exact ⟨rfl, e2, .inr rfl⟩
          · rw [fs_ne c] at hw'
            rw [fs_ne c, fs_ne c]; exact pent w hw' h5
        · obtain ⟨w1, w2, w3, w4⟩ := pw y s2 hy
          refine ⟨w1, w2, w3.imp id fun z => ⟨z.1, z.2.1, rfl, ?_⟩, w4⟩
          show fs s.V u v y.slot = v
          unfold fs; split
          · rfl
          · exact z.2.2.2
      · rw [if_neg c1]
        have eV := e3.resolve_left c1
        refine ⟨pv, pq, ⟨by show fs s.E u 0 5 = 0; rw [fs_ne (by omega)]; exact pno.1, by show fs s.N u (s.N u + 1) 5 % 2 = 0; rw [fs_ne (by omega)]; exact pno.2⟩, fun w hw h5 => ?_, fun w hw h5 => ?_, px, pw⟩
        · have hw' : fs s.N u (s.N u + 1) w % 2 = 1 := hw
          show true = true ∧ s.V w = v ∧ fs s.E u 0 w = 0
          by_cases c : w = u
          · subst c; rw [fs_same]; exact ⟨rfl, eV, rfl⟩
          · rw [fs_ne c] at hw' ⊢; exact podd w hw' h5
        · have hw' : fs s.E u 0 w ≠ 0 := hw
          show true = true ∧ s.A w = v ∧ (fs s.E u 0 w = 1 ∨ s.V w = v)
          have c : w ≠ u := fun q => by subst q; rw [fs_same] at hw'; exact hw' rfl
          rw [fs_ne c] at hw' ⊢; exact pent w hw' h5
  · obtain ⟨⟨x, st⟩, hx⟩ := Option.isSome_iff_exists.1 (show (s.X 5).isSome = true from hw)
    obtain ⟨rfl, a2, a3, a4⟩ := p.w x st hx
    exact step s x st v q m p hx a2 a3 a4
  · show (s.X u).isSome = false
    rw [p.x u hu]; rfl
end Go.Proofs.YtlnglgpipkmiaaaGreat
set_option linter.unusedVariables false
set_option linter.unusedSimpArgs false
namespace Go.Proofs.YtlnglgpipkmiaaaGreat
open Go.Am
def bkt : GSec → Option Nat
  | .no => none
  | .beg b => some b
  | .seen b _ => some b
  | .inn b _ => some b
structure P2G (nb set v : Nat) (q : Bool) (s : GS) (m : Nat) : Prop where
  i : IG nb s
  hv : 0 < nb
  hq : q = true → v % nb ∉ lefts nb (mbs 64 0 set)
  no : s.S 5 = .no
  sec : ∀ u b, u < 5 → bkt (s.S u) = some b → q = true ∧ b = v % nb
  x : ∀ u, u < 5 → s.X u = none
  w : ∀ y, s.X 5 = some y → (∀ b ∈ y.left, b ∈ lefts nb (mbs 64 0 set)) ∧ wmG (some y) ≤ m
theorem P2G.cnt {nb set v m b : Nat} {q : Bool} {s : GS} (p : P2G nb set v q s m) (hb : b ∈ lefts nb (mbs 64 0 set)) (sd : Bool) : s.cnt b sd = 0 := by
  unfold GS.cnt
  rw [List.countP_eq_zero]
  intro u hu
  have hu6 : u < 6 := by simpa using hu
  simp only [decide_eq_true_eq]
  intro hS
  by_cases c : u = 5
  · subst c; rw [p.no] at hS; simp at hS
  · obtain ⟨h1, h2⟩ := p.sec u b (by omega) (by rw [hS]; rfl)
    exact p.hq h1 (h2 ▸ hb)
theorem P2G.step {nb set v m : Nat} {q : Bool} {s : GS} (p : P2G nb set v q s m) (hw : (s.X 5).isSome = true) : 0 < m ∧ P2G nb set v q (s.goW 5) (m - 1) := by
  obtain ⟨x, hx⟩ := Option.isSome_iff_exists.1 hw
  obtain ⟨b, r, l1, l2, l3, l4⟩ := p.i.x 5 x hx
  obtain ⟨w1, w2⟩ := p.w x hx
  obtain ⟨lf, ph, sd⟩ := x
  simp only at l1
  subst l1
  obtain ⟨g1, g2, g3, g4, g5⟩ := goW_cases p.i (by omega) hx
  have hK : 1 ≤ ph ∨ s.K b = none := by
    by_cases c : 1 ≤ ph
    · exact .inl c
    · right
      cases hk : s.K b with
      | none => rfl
      | some u =>
        obtain ⟨k1, r2, ph2, sd2, k2, k3⟩ := p.i.k b u hk
        by_cases cu : u = 5
        · subst cu
          rw [hx] at k2
          obtain ⟨-, e2, -⟩ := GW.mk.inj (Option.some.inj k2)
          omega
        · rw [p.x u (by omega)] at k2; simp at k2
  have hd := g3 (fun sd => p.cnt (w1 b (by simp)) sd) hK
  rw [hx] at hd
  refine ⟨by omega, g1, p.hv, p.hq, by rw [g4]; exact p.no, fun u b' hu hb => p.sec u b' hu (by rw [← g4]; exact hb), fun u hu => (g5 u (by omega)).trans (p.x u hu), fun y hy => ⟨fun b' hb' => w1 b' (goW_left hx hy b' hb'), ?_⟩⟩
  rw [hy] at hd; omega
theorem quietG {nb : Nat} (hnb : 0 < nb) : (engG nb).Quiet (IG nb) (6 * nb) (fun set v => v % nb ∉ lefts nb (mbs 64 0 set)) (P2G nb) := by
  refine ⟨fun s set v q i h h0 h1 hv hq => ?_, fun s set v m u p hu => ?_, fun s set v q m p hw => p.step hw, fun s set v q m u p hu => ?_, by omega⟩
  · have hb : ∀ t, t < 6 → ¬ (s.S t ≠ .no ∨ (s.X t).isSome = true) := fun t ht q => by have := h t ht; rw [busyG.2 q] at this; simp at this
    have hS : ∀ u, u < 6 → s.S u = .no := fun u hu => by
      by_cases c : s.S u = .no
      · exact c
      · exact absurd (.inl c) (hb u hu)
    have hxn : ∀ u, u < 6 → s.X u = none := fun u hu => by
      cases hx : s.X u with
      | none => rfl
      | some x => exact absurd (.inr (by rw [hx]; rfl)) (hb u hu)
    have p : P2G nb set v q ((engG nb).wait s 5 set) (6 * nb) := ⟨(begG hnb).wait s 5 set i (by omega) (h 5 (by omega)) h0 h1, hnb, hq, hS 5 (by omega), fun u b hu hb' => by
      have hb2 : bkt (s.S u) = some b := hb'
      rw [hS u (by omega)] at hb2; simp [bkt] at hb2, fun u hu => (fs_ne (by omega)).trans (hxn u (by omega)), fun y hy => by
      have hy' : fs s.X 5 (some ⟨lefts nb (mbs 64 0 set), 0, false⟩) 5 = some y := hy
      rw [fs_same] at hy'
      obtain rfl := Option.some.inj hy'
      have hl := lefts_length (nb := nb) (ms := mbs 64 0 set)
      exact ⟨fun b hb => hb, by show 6 * (lefts nb (mbs 64 0 set)).length - 0 ≤ 6 * nb; omega⟩⟩
    exact (p.step (show (fs s.X 5 _ 5).isSome = true by rw [fs_same]; rfl)).2
  · have hxu : s.X u = none := p.x u hu
    have key : ∀ g, bkt g = none ∨ bkt g = some (v % nb) → IG nb ({ s with S := fs s.S u g } : GS) → P2G nb set v true ({ s with S := fs s.S u g } : GS) m := fun g hg hi =>
      ⟨hi, p.hv, p.hq, (fs_ne (by omega)).trans p.no, fun w b hw hb => by
        have hb' : bkt (fs s.S u g w) = some b := hb
        by_cases c : w = u
        · subst c
          rw [fs_same] at hb'
          rcases hg with hg | hg
          · rw [hg] at hb'; simp at hb'
          · rw [hg] at hb'; exact ⟨rfl, (Option.some.inj hb').symm⟩
        · rw [fs_ne c] at hb'; exact p.sec w b hw hb', p.x, p.w⟩
    have hi : ∀ g, IG nb ({ s with S := fs s.S u g } : GS) := fun g => ⟨one_ofG fun w hw => by
      by_cases c : w = u
      · subst c; exact hxu
      · have hw' : fs s.S u g w ≠ .no := hw
        rw [fs_ne c] at hw'; exact oneG p.i.one w hw', p.i.x, p.i.k⟩
    have hb0 := fun b => p.sec u b hu
    unfold Eng.qact
    cases hS : s.S u with
    | no =>
      rw [if_neg (show ¬ (s.S u).ent = true by rw [hS]; simp [GSec.ent]), if_neg (show ¬ (s.S u).isIn = true by rw [hS]; simp [GSec.isIn])]
      have e : (engG nb).estep ((engG nb).enter s u v) u = { s with S := fs s.S u (.seen (v % nb) (s.G (v % nb))) } := by
        show (({ s with S := fs s.S u (.beg (v % nb)) } : GS).goE u) = _
        rw [goE_beg (b := v % nb) (show fs s.S u (.beg (v % nb)) u = _ from fs_same)]
        show ({ s with S := fs (fs s.S u (.beg (v % nb))) u (.seen (v % nb) (s.G (v % nb))) } : GS) = _
        congr 1
        funext w
        unfold fs; split <;> rfl
      rw [e]
      exact key _ (.inr rfl) (hi _)
    | beg b =>
      rw [if_pos (show (s.S u).ent = true by rw [hS]; rfl)]
      rw [show (engG nb).estep s u = _ from goE_beg hS]
      obtain ⟨-, rfl⟩ := hb0 b (by rw [hS]; rfl)
      exact key _ (.inr rfl) (hi _)
    | seen b sd =>
      rw [if_pos (show (s.S u).ent = true by rw [hS]; rfl)]
      rw [show (engG nb).estep s u = _ from goE_seen hS]
      obtain ⟨-, rfl⟩ := hb0 b (by rw [hS]; rfl)
      exact key _ (.inr rfl) (hi _)
    | inn b sd =>
      rw [if_neg (show ¬ (s.S u).ent = true by rw [hS]; simp [GSec.ent]), if_pos (show (s.S u).isIn = true by rw [hS]; rfl)]
      exact key _ (.inl rfl) (hi _)
  · show (s.X u).isSome = false
    rw [p.x u hu]; rfl
end Go.Proofs.YtlnglgpipkmiaaaGreat
