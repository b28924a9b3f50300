/- What the functions of the claim compute, and that it is as the claim says: part 5 of 5. -/
import Derived.Test.YtbomgfbfnkfamaaCRises3
import Derived.Test.YtbomgfbfnkfamaaWWords
import Derived.Test.YtbomgfbfnkfamaaWMore
import Derived.OpenShut
import Derived.Test.YtbomgfbfnkfamaaRows
import Derived.WalkKit
import Derived.ProofKit
import Derived.ShutString
import Derived.ChangeOld
import Derived.Below
import Derived.SizedLaws
import Derived.Test.YtbomgfbfnkfamaaWSized
section
set_option linter.unusedVariables false
namespace Go.Proofs.Ytbomgfbfnkfamaa.Mp
open Go.RowKit Go.Proofs.YtbomgfbfnkfamaaW.PrintWords Go.Proofs.YtbomgfbfnkfamaaW.PrintMore Go.Proofs.Ytbomgfbfnkfamaa.PAll

theorem lawOf_j1 {p0 p1 g0 g1 s0 s1 : Int} (hp : 0 ≤ p0 ∧ p0 ≤ p1 ∧ p1 ≤ 1000000) (hg : 1 ≤ g0 ∧ g0 ≤ g1 ∧ g1 ≤ 1000000) (hs : -1000000 ≤ s0 ∧ s0 ≤ s1 ∧ s1 ≤ 1000000) (t f0 f1 q0 q1 : Int) (hf : 0 ≤ f0 ∧ f0 ≤ f1 ∧ f1 ≤ 1000000) (hq : 0 ≤ q0 ∧ q0 ≤ q1 ∧ q1 ≤ 1000000) :
    ∃ g0' g1' s', LawOk p0 p1 g0' g1' s0 s1 f0 f1 q0 q1 ∧ ∀ k, thermionkit_LawOf.j1 (k + 1) t p0 p1 g0 g1 s0 s1 f0 f1 q0 q1 = some (p0, p1, g0', g1', s0, s1, f0, f1, q0, q1, s') := by
  obtain ⟨b, t7, e7⟩ := one_f t (n := 8) (by omega) (by omega)
  cases b with
  | true =>
    obtain ⟨v, t8, e8, v1, v2⟩ := between_f t7 (lo := 1) (hi := 400) (by omega) (by omega) (by omega)
    exact ⟨1, v, t8, ⟨hp, ⟨by omega, v1, by omega⟩, hs, hf, hq⟩, fun k => by simp only [thermionkit_LawOf.j1, e7, Option.bind_some, if_true, e8]⟩
  | false => exact ⟨g0, g1, t7, ⟨hp, hg, hs, hf, hq⟩, fun k => by simp only [thermionkit_LawOf.j1, e7, Option.bind_some, Bool.false_eq_true, if_false]⟩
theorem j0_eq (k : Nat) (t p0 p1 g0 g1 s0 s1 f0 f1 q0 q1 : Int) : thermionkit_LawOf.j0 (k + 1) t p0 p1 g0 g1 s0 s1 f0 f1 q0 q1 = (thermionkit_Dice_One.f t 2).bind fun b => if b.1 = true then thermionkit_LawOf.j1 k b.2 p0 p1 g0 g1 s0 s1 f0 f1 1000000 1000000 else thermionkit_LawOf.j1 k b.2 p0 p1 g0 g1 s0 s1 f0 f1 q0 q1 := by
  rw [thermionkit_LawOf.j0]
theorem lawOf_j0 {p0 p1 g0 g1 s0 s1 : Int} (hp : 0 ≤ p0 ∧ p0 ≤ p1 ∧ p1 ≤ 1000000) (hg : 1 ≤ g0 ∧ g0 ≤ g1 ∧ g1 ≤ 1000000) (hs : -1000000 ≤ s0 ∧ s0 ≤ s1 ∧ s1 ≤ 1000000) (t f0 f1 q0 q1 : Int) (hf : 0 ≤ f0 ∧ f0 ≤ f1 ∧ f1 ≤ 1000000) (hq : 0 ≤ q0 ∧ q0 ≤ q1 ∧ q1 ≤ 1000000) :
    ∃ g0' g1' q0' q1' s', LawOk p0 p1 g0' g1' s0 s1 f0 f1 q0' q1' ∧ ∀ k, thermionkit_LawOf.j0 (k + 1 + 1) t p0 p1 g0 g1 s0 s1 f0 f1 q0 q1 = some (p0, p1, g0', g1', s0, s1, f0, f1, q0', q1', s') := by
  obtain ⟨b, t7, e7⟩ := one_f t (n := 2) (by omega) (by omega)
  cases b with
  | true =>
    obtain ⟨g0', g1', s', hl, hk⟩ := lawOf_j1 hp hg hs t7 f0 f1 1000000 1000000 hf ⟨by decide, by decide, by decide⟩
    exact ⟨g0', g1', 1000000, 1000000, s', hl, fun k => by rw [j0_eq, e7, Option.bind_some, if_pos rfl]; exact hk k⟩
  | false =>
    obtain ⟨g0', g1', s', hl, hk⟩ := lawOf_j1 hp hg hs t7 f0 f1 q0 q1 hf hq
    exact ⟨g0', g1', _, _, s', hl, fun k => by rw [j0_eq, e7, Option.bind_some, if_neg (by simp)]; exact hk k⟩
/-- A law with the next dice, of which all is as it should be. -/
theorem lawOf_f (s : Int) : ∃ p0 p1 g0 g1 s0 s1 f0 f1 q0 q1 s', LawOk p0 p1 g0 g1 s0 s1 f0 f1 q0 q1 ∧ ∀ k, 2 ≤ k → thermionkit_LawOf.f k s = some (p0, p1, g0, g1, s0, s1, f0, f1, q0, q1, s') := by
  obtain ⟨p0, p1, t1, e1, a⟩ := range_f s (lo := 1000) (hi := 90000) (by omega) (by omega) (by omega)
  obtain ⟨g0, g1, t2, e2, b⟩ := range_f t1 (lo := 5000) (hi := 60000) (by omega) (by omega) (by omega)
  obtain ⟨s0, s1, t3, e3, c⟩ := range_f t2 (lo := -800) (hi := 800) (by omega) (by omega) (by omega)
  obtain ⟨f0, f1, t4, e4, d⟩ := range_f t3 (lo := 2000) (hi := 60000) (by omega) (by omega) (by omega)
  obtain ⟨q0, q1, t5, e5, h⟩ := range_f t4 (lo := 500000) (hi := 1000000) (by omega) (by omega) (by omega)
  obtain ⟨o, t6, e6⟩ := one_f t5 (n := 3) (by omega) (by omega)
  have hp : 0 ≤ p0 ∧ p0 ≤ p1 ∧ p1 ≤ 1000000 := by omega
  have hg : 1 ≤ g0 ∧ g0 ≤ g1 ∧ g1 ≤ 1000000 := by omega
  have hs : -1000000 ≤ s0 ∧ s0 ≤ s1 ∧ s1 ≤ 1000000 := by omega
  have hf : 0 ≤ f0 ∧ f0 ≤ f1 ∧ f1 ≤ 1000000 := by omega
  have hq : 0 ≤ q0 ∧ q0 ≤ q1 ∧ q1 ≤ 1000000 := by omega
  cases o with
  | true =>
    obtain ⟨g0', g1', q0', q1', s', hl, hk⟩ := lawOf_j0 hp hg hs t6 1000000 1000000 q0 q1 ⟨by decide, by decide, by decide⟩ hq
    refine ⟨_, _, _, _, _, _, _, _, _, _, s', hl, fun k h => ?_⟩
    obtain ⟨k, rfl⟩ : ∃ j, k = j + 1 + 1 := ⟨k - 2, by omega⟩
    unfold thermionkit_LawOf.f
    rw [e1, Option.bind_some]
    dsimp only
    rw [e2, Option.bind_some]
    dsimp only
    rw [e3, Option.bind_some]
    dsimp only
    rw [e4, Option.bind_some]
    dsimp only
    rw [e5, Option.bind_some]
    dsimp only
    rw [e6, Option.bind_some, if_pos rfl]
    dsimp only
    exact hk k
  | false =>
    obtain ⟨g0', g1', q0', q1', s', hl, hk⟩ := lawOf_j0 hp hg hs t6 f0 f1 q0 q1 hf hq
    refine ⟨_, _, _, _, _, _, _, _, _, _, s', hl, fun k h => ?_⟩
    obtain ⟨k, rfl⟩ : ∃ j, k = j + 1 + 1 := ⟨k - 2, by omega⟩
    unfold thermionkit_LawOf.f
    rw [e1, Option.bind_some]
    dsimp only
    rw [e2, Option.bind_some]
    dsimp only
    rw [e3, Option.bind_some]
    dsimp only
    rw [e4, Option.bind_some]
    dsimp only
    rw [e5, Option.bind_some]
    dsimp only
    rw [e6, Option.bind_some, if_neg (by simp)]
    dsimp only
    exact hk k
theorem within_ok {a b lo hi : Int} (h1 : lo ≤ a) (h2 : a ≤ b) (h3 : b ≤ hi) : curve_within.f a b lo hi = some 0 := by
  unfold curve_within.f
  repeat (first | rw [if_neg (by omega)] | rw [if_pos (by omega)] | rfl)
theorem checkLaw_ok {p0 p1 g0 g1 s0 s1 f0 f1 q0 q1 : Int} (h : LawOk p0 p1 g0 g1 s0 s1 f0 f1 q0 q1) : curve_CheckLaw.f p0 p1 g0 g1 s0 s1 f0 f1 q0 q1 = some 0 := by
  obtain ⟨hp, hg, hs, hf, hq⟩ := h
  unfold curve_CheckLaw.f
  rw [within_ok (by omega) (by omega) (by omega), within_ok (by omega) (by omega) (by omega), within_ok (by omega) (by omega) (by omega), within_ok (by omega) (by omega) (by omega), within_ok (by omega) (by omega) (by omega)]
  rfl
theorem volts_ok {grid plate : Int} (h : Volts grid plate) : curve_voltages.f grid plate = some true := by
  obtain ⟨a, b, c, d⟩ := h
  unfold curve_voltages.f
  repeat (first | rw [if_pos (by omega)] | rw [if_neg (by omega)])
  simp; omega
/-- The current of a right law at right voltages. -/
theorem Current_f {p0 p1 g0 g1 s0 s1 f0 f1 q0 q1 grid plate : Int} (h : LawOk p0 p1 g0 g1 s0 s1 f0 f1 q0 q1) (hv : Volts grid plate) :
    ∃ K, ∀ k, K ≤ k → curve_Current.f k p0 p1 g0 g1 s0 s1 f0 f1 q0 q1 grid plate = some (cLo p0 g1 s0 f0 q0 grid plate, cHi p1 g0 s1 f1 q1 grid plate, 0) := by
  obtain ⟨K, hK⟩ := current_f h hv
  refine ⟨K, fun k hk => ?_⟩
  unfold curve_Current.f curve_asked.f
  rw [checkLaw_ok h]
  simp only [Option.bind_some, if_true]
  rw [volts_ok hv]
  simp only [Option.bind_some, if_true]
  rw [hK k hk]
  rfl
theorem mod_f (n : Int) {m : Int} (h0 : 1 ≤ m) (h1 : m ≤ 4000000000000000000) : ∃ r, thermionkit_Mod.f n m = some r ∧ 0 ≤ r ∧ r < m := by
  have c := Int.tmod_lt_of_pos n (show 0 < m by omega)
  have d : -m < Int.tmod n m := by
    have := Int.tmod_lt_of_pos (-n) (show 0 < m by omega)
    rw [Int.neg_tmod] at this; omega
  unfold thermionkit_Mod.f
  rw [if_neg (by omega), if_neg (by omega)]
  split
  · exact ⟨_, rfl, by rw [wrap64_id (by omega) (by omega)]; omega⟩
  · exact ⟨_, rfl, by omega⟩

/-! ### narrower laws, greater voltages -/
theorem dLo_mono {g1 s0 grid plate g1' s0' grid' plate' : Int} (hg : 1 ≤ g1') (hg' : g1' ≤ g1) (hs : s0 ≤ s0') (hgr : grid ≤ grid') (hp0 : 0 ≤ plate) (hp : plate ≤ plate') : dLo g1 s0 grid plate ≤ dLo g1' s0' grid' plate' := by
  unfold dLo
  apply clamp_mono
  have h : 1000 * plate / g1 ≤ 1000 * plate' / g1' := down_frac (by omega) (by omega) (by
    have a : 1000 * plate * g1' ≤ 1000 * plate * g1 := Int.mul_le_mul_of_nonneg_left hg' (by omega)
    have b : 1000 * plate * g1 ≤ 1000 * plate' * g1 := Int.mul_le_mul_of_nonneg_right (by omega) (by omega)
    omega)
  omega
theorem dHi_mono {g0 s1 grid plate g0' s1' grid' plate' : Int} (hg : 1 ≤ g0') (hg' : g0' ≤ g0) (hs : s1 ≤ s1') (hgr : grid ≤ grid') (hp0 : 0 ≤ plate) (hp : plate ≤ plate') : dHi g0 s1 grid plate ≤ dHi g0' s1' grid' plate' := by
  unfold dHi
  apply clamp_mono
  have h : up (1000 * plate) g0 ≤ up (1000 * plate') g0' := up_frac (by omega) (by omega) (by
    have a : 1000 * plate * g0' ≤ 1000 * plate * g0 := Int.mul_le_mul_of_nonneg_left hg' (by omega)
    have b : 1000 * plate * g0 ≤ 1000 * plate' * g0 := Int.mul_le_mul_of_nonneg_right (by omega) (by omega)
    omega)
  omega
theorem dLo_le_dHi {g0 g1 s0 s1 grid plate : Int} (hg : 1 ≤ g0) (hg' : g0 ≤ g1) (hs : s0 ≤ s1) (hp0 : 0 ≤ plate) : dLo g1 s0 grid plate ≤ dHi g0 s1 grid plate := by
  unfold dLo dHi
  apply clamp_mono
  have h : 1000 * plate / g1 ≤ 1000 * plate / g0 := down_frac (by omega) (by omega) (Int.mul_le_mul_of_nonneg_left hg' (by omega))
  have h2 := down_le_up (1000 * plate) (show 0 < g0 by omega)
  omega
theorem endLo_mono {p f q r p' f' q' r' : Int} (hp0 : 0 ≤ p) (hp : p ≤ p') (hf0 : 0 ≤ f) (hf : f ≤ f') (hq0 : 0 ≤ q) (hq : q ≤ q') (hr0 : 0 ≤ r) (hr : r ≤ r') : endLo p f q r ≤ endLo p' f' q' r' := by
  unfold endLo
  have a : p * r / 1000000 ≤ p' * r' / 1000000 := Int.ediv_le_ediv (by omega) (Int.mul_le_mul hp hr hr0 (by omega))
  have a0 := Int.ediv_nonneg (Int.mul_nonneg hp0 hr0) (show (0 : Int) ≤ 1000000 by omega)
  have b := mn_mono a hf
  have b0 := (mn_bounds (n := f) a0 hf0 (Int.le_refl _)).1
  exact Int.ediv_le_ediv (by omega) (Int.mul_le_mul hq b b0 (by omega))
theorem endHi_mono {p f q r p' f' q' r' : Int} (hp0 : 0 ≤ p) (hp : p ≤ p') (hf0 : 0 ≤ f) (hf : f ≤ f') (hq0 : 0 ≤ q) (hq : q ≤ q') (hr0 : 0 ≤ r) (hr : r ≤ r') : endHi p f q r ≤ endHi p' f' q' r' := by
  unfold endHi
  have a : up (p * r) 1000000 ≤ up (p' * r') 1000000 := up_mono (by omega) (Int.mul_le_mul hp hr hr0 (by omega))
  have h1 := down_le_up (p * r) (show (0 : Int) < 1000000 by omega)
  have a0 := Int.ediv_nonneg (Int.mul_nonneg hp0 hr0) (show (0 : Int) ≤ 1000000 by omega)
  have b := mn_mono a hf
  have b0 := (mn_bounds (a := up (p * r) 1000000) (n := f) (by omega) hf0 (Int.le_refl _)).1
  exact up_mono (by omega) (Int.mul_le_mul hq b b0 (by omega))
/-- The lower end rises with all numbers but the gain. -/
theorem cLo_mono {p0 g1 s0 f0 q0 grid plate p0' g1' s0' f0' q0' grid' plate' : Int} (hp0 : 0 ≤ p0) (hp : p0 ≤ p0') (hg : 1 ≤ g1') (hg' : g1' ≤ g1) (hs : s0 ≤ s0') (hf0 : 0 ≤ f0) (hf : f0 ≤ f0') (hq0 : 0 ≤ q0) (hq : q0 ≤ q0') (hgr : grid ≤ grid') (hpl0 : 0 ≤ plate) (hpl : plate ≤ plate') :
    cLo p0 g1 s0 f0 q0 grid plate ≤ cLo p0' g1' s0' f0' q0' grid' plate' := by
  unfold cLo
  have hd := dLo_mono hg hg' hs hgr hpl0 hpl
  have b := clamp_bounds (grid + s0 + 1000 * plate / g1)
  have b' := clamp_bounds (grid' + s0' + 1000 * plate' / g1')
  have hr := rt_mono (a := dLo g1 s0 grid plate) (b := dLo g1' s0' grid' plate') b.1 hd b'.2
  exact endLo_mono hp0 hp hf0 hf hq0 hq (rt_le b.1 b.2).1 hr
theorem cHi_mono {p1 g0 s1 f1 q1 grid plate p1' g0' s1' f1' q1' grid' plate' : Int} (hp0 : 0 ≤ p1) (hp : p1 ≤ p1') (hg : 1 ≤ g0') (hg' : g0' ≤ g0) (hs : s1 ≤ s1') (hf0 : 0 ≤ f1) (hf : f1 ≤ f1') (hq0 : 0 ≤ q1) (hq : q1 ≤ q1') (hgr : grid ≤ grid') (hpl0 : 0 ≤ plate) (hpl : plate ≤ plate') :
    cHi p1 g0 s1 f1 q1 grid plate ≤ cHi p1' g0' s1' f1' q1' grid' plate' := by
  unfold cHi
  have hd := dHi_mono hg hg' hs hgr hpl0 hpl
  have b := clamp_bounds (grid + s1 + up (1000 * plate) g0)
  have b' := clamp_bounds (grid' + s1' + up (1000 * plate') g0')
  have hr := rtUp_mono (a := dHi g0 s1 grid plate) (b := dHi g0' s1' grid' plate') b.1 hd b'.2
  have h1 := rtUp_bounds (n := dHi g0 s1 grid plate) b.1 b.2
  have h2 := rt_le (n := dHi g0 s1 grid plate) b.1 b.2
  exact endHi_mono hp0 hp hf0 hf hq0 hq (Int.le_trans h2.1 h1.1) hr
theorem cLo_le_cHi {p0 p1 g0 g1 s0 s1 f0 f1 q0 q1 grid plate : Int} (h : LawOk p0 p1 g0 g1 s0 s1 f0 f1 q0 q1) (hpl : 0 ≤ plate) : cLo p0 g1 s0 f0 q0 grid plate ≤ cHi p1 g0 s1 f1 q1 grid plate := by
  obtain ⟨hp, hg, hs, hf, hq⟩ := h
  have hd := dLo_le_dHi (grid := grid) (plate := plate) hg.1 hg.2.1 hs.2.1 hpl
  have b : 0 ≤ dLo g1 s0 grid plate ∧ dLo g1 s0 grid plate ≤ 1000000 := clamp_bounds _
  have b' : 0 ≤ dHi g0 s1 grid plate ∧ dHi g0 s1 grid plate ≤ 1000000 := clamp_bounds _
  have hr := rt_mono b.1 hd b'.2
  have h1 := rtUp_bounds b'.1 b'.2
  have h2 := rt_le b.1 b.2
  unfold cLo cHi
  generalize rt (dLo g1 s0 grid plate * dLo g1 s0 grid plate * dLo g1 s0 grid plate) = r at *
  generalize rtUp (dHi g0 s1 grid plate * dHi g0 s1 grid plate * dHi g0 s1 grid plate) = s at *
  have e := endLo_mono (p' := p1) (f' := f1) (q' := q1) (r' := s) hp.1 hp.2.1 hf.1 hf.2.1 hq.1 hq.2.1 h2.1 (by omega)
  refine Int.le_trans e ?_
  unfold endLo endHi
  have a := down_le_up (p1 * s) (show (0 : Int) < 1000000 by omega)
  have c := mn_mono a (Int.le_refl f1)
  have d : q1 * mn (p1 * s / 1000000) f1 ≤ q1 * mn (up (p1 * s) 1000000) f1 := Int.mul_le_mul_of_nonneg_left c (by omega)
  exact Int.le_trans (Int.ediv_le_ediv (by omega) d) (down_le_up _ (by omega))
end Go.Proofs.Ytbomgfbfnkfamaa.Mp
end
section
set_option linter.unusedVariables false
namespace Go.Proofs.Ytbomgfbfnkfamaa.Mp
open Go.RowKit Go.Proofs.YtbomgfbfnkfamaaW.PrintWords Go.Proofs.YtbomgfbfnkfamaaW.PrintMore Go.Proofs.Ytbomgfbfnkfamaa.PAll

theorem lawOk_alone {p : Int} (h0 : 0 ≤ p) (h1 : p ≤ 1000) : LawOk p p 1000 1000 0 0 1000000 1000000 1000000 1000000 :=
  ⟨by omega, by omega, by omega, by omega, by omega⟩
theorem sq_of_mul {p r g : Int} (h : r * r ≤ g * g * g) : (p * r) * (p * r) ≤ p * p * g * g * g := by
  have h1 : (p * p) * (r * r) ≤ (p * p) * (g * g * g) := Int.mul_le_mul_of_nonneg_left h (by
    rcases Int.le_total 0 p with a | a
    · exact Int.mul_nonneg a a
    · exact Int.mul_nonneg_of_nonpos_of_nonpos a a)
  have e1 : (p * r) * (p * r) = (p * p) * (r * r) := by grind
  have e2 : p * p * g * g * g = (p * p) * (g * g * g) := by grind
  omega
theorem sq_of_mul' {p r g : Int} (h : g * g * g ≤ r * r) : p * p * g * g * g ≤ (p * r) * (p * r) := by
  have h1 : (p * p) * (g * g * g) ≤ (p * p) * (r * r) := Int.mul_le_mul_of_nonneg_left h (by
    rcases Int.le_total 0 p with a | a
    · exact Int.mul_nonneg a a
    · exact Int.mul_nonneg_of_nonpos_of_nonpos a a)
  have e1 : (p * r) * (p * r) = (p * p) * (r * r) := by grind
  have e2 : p * p * g * g * g = (p * p) * (g * g * g) := by grind
  omega
theorem clamp_id {n : Int} (h0 : 0 ≤ n) (h1 : n ≤ 1000000) : clamp n = n := by unfold clamp; rw [if_neg (by omega), if_neg (by omega)]
/-- All that is asked of the current of an exact law. -/
theorem roots_plain {p g : Int} (hp0 : 0 ≤ p) (hp : p ≤ 1000) (hg0 : 1 ≤ g) (hg : g ≤ 10000) :
    0 ≤ cLo p 1000 0 1000000 1000000 g 0 ∧ cHi p 1000 0 1000000 1000000 g 0 ≤ 1001 ∧ 0 ≤ cHi p 1000 0 1000000 1000000 g 0
    ∧ cLo p 1000 0 1000000 1000000 g 0 ≤ 1001
    ∧ (1000000 * cLo p 1000 0 1000000 1000000 g 0) * (1000000 * cLo p 1000 0 1000000 1000000 g 0) ≤ p * p * g * g * g
    ∧ p * p * g * g * g ≤ (1000000 * cHi p 1000 0 1000000 1000000 g 0) * (1000000 * cHi p 1000 0 1000000 1000000 g 0)
    ∧ cHi p 1000 0 1000000 1000000 g 0 - cLo p 1000 0 1000000 1000000 g 0 ≤ 2
    ∧ 0 ≤ cHi p 1000 0 1000000 1000000 g 0 - cLo p 1000 0 1000000 1000000 g 0 := by
  have d1 : dLo 1000 0 g 0 = g := by
    unfold dLo; rw [show g + 0 + 1000 * 0 / 1000 = g by omega]; exact clamp_id (by omega) (by omega)
  have d2 : dHi 1000 0 g 0 = g := by
    unfold dHi; rw [show up (1000 * 0) 1000 = 0 by decide, show g + 0 + 0 = g by omega]; exact clamp_id (by omega) (by omega)
  have hr := rt_is (n := g) (by omega) (by omega)
  have hs := rtUp_bounds (n := g) (by omega) (by omega)
  obtain ⟨r0, r1, r2⟩ := hr
  obtain ⟨s0, s1, s2, s3⟩ := hs
  unfold cLo cHi
  rw [d1, d2]
  have hc : g * g * g ≤ 10000 * 10000 * 10000 := cube_mono (by omega) hg
  generalize rt (g * g * g) = r at *
  generalize rtUp (g * g * g) = s at *
  have hr6 : r ≤ 1000000 := by
    have := lt_of_sq (a := r) (b := 1000001) (by omega) (by omega)
    omega
  have hs6 : s ≤ 1000001 := by omega
  have m1 := mul_bounds hp0 hp r0 hr6
  have m2 := mul_bounds hp0 hp (show 0 ≤ s by omega) hs6
  have mrs : p * s ≤ p * (r + 1) := Int.mul_le_mul_of_nonneg_left s1 hp0
  rw [Int.mul_add, Int.mul_one] at mrs
  have a1 := Int.ediv_mul_le (p * r) (show (1000000 : Int) ≠ 0 by omega)
  have a2 := Int.lt_ediv_add_one_mul_self (p * r) (show (0 : Int) < 1000000 by omega)
  have b1 := up_ge (p * s) (show (0 : Int) < 1000000 by omega)
  have b2 := up_lt (p * s) (show (0 : Int) < 1000000 by omega)
  have q1 := sq_of_mul (p := p) r1
  have q2 := sq_of_mul' (p := p) s2
  have hL : endLo p 1000000 1000000 r = p * r / 1000000 := by
    unfold endLo mn; rw [if_neg (by omega)]; omega
  have hH : endHi p 1000000 1000000 s = up (p * s) 1000000 := by
    have e : mn (up (p * s) 1000000) 1000000 = up (p * s) 1000000 := by unfold mn; rw [if_neg (by omega)]
    unfold endHi; rw [e]
    generalize up (p * s) 1000000 = u at *
    unfold up; omega
  rw [hL, hH]
  have hmono : p * r ≤ p * s := Int.mul_le_mul_of_nonneg_left s0 hp0
  generalize p * r / 1000000 = L at *
  generalize up (p * s) 1000000 = H at *
  have hL0 : 0 ≤ L := by omega
  have hH0 : 0 ≤ H := by omega
  have c1 : (1000000 * L) * (1000000 * L) ≤ (p * r) * (p * r) := sq_le (by omega) (by omega)
  have c2 : (p * s) * (p * s) ≤ (1000000 * H) * (1000000 * H) := sq_le (by omega) (by omega)
  exact ⟨by omega, by omega, by omega, by omega, by omega, by omega, by omega, by omega⟩
theorem roots_f (a b : Int) : ∃ K, ∀ k, K ≤ k → thermionlaw02_roots.f k a b = some true := by
  obtain ⟨p, ep, p0, p1⟩ := mod_f a (m := 1001) (by omega) (by omega)
  obtain ⟨g, eg, g0, g1⟩ := mod_f b (m := 10000) (by omega) (by omega)
  have hw : wrap64 (1 + g) = 1 + g := wrap64_id (by omega) (by omega)
  obtain ⟨K, hK⟩ := Current_f (grid := 1 + g) (plate := 0) (lawOk_alone (p := p) p0 (by omega)) ⟨by omega, by omega, by omega, by omega⟩
  obtain ⟨c1, c2, c3, c4, c5, c6, c7, c8⟩ := roots_plain (p := p) (g := 1 + g) p0 (by omega) (by omega) (by omega)
  refine ⟨K, fun k hk => ?_⟩
  unfold thermionlaw02_roots.f thermionlaw02_alone.f
  rw [ep, Option.bind_some, eg, Option.bind_some]
  simp only [Option.bind_some]
  rw [hw, hK k hk]
  simp only [Option.bind_some]
  generalize cLo p 1000 0 1000000 1000000 (1 + g) 0 = L at *
  generalize cHi p 1000 0 1000000 1000000 (1 + g) 0 = H at *
  have d1 := mul_bounds c1 c4 c1 c4
  have d2 := mul_bounds c3 c2 c3 c2
  have e1 := mul_bounds p0 (show p ≤ 1000 by omega) p0 (show p ≤ 1000 by omega)
  have e2 := mul_bounds e1.1 e1.2 (show 0 ≤ 1 + g by omega) (show 1 + g ≤ 10000 by omega)
  have e3 := mul_bounds e2.1 e2.2 (show 0 ≤ 1 + g by omega) (show 1 + g ≤ 10000 by omega)
  have e4 := mul_bounds e3.1 e3.2 (show 0 ≤ 1 + g by omega) (show 1 + g ≤ 10000 by omega)
  have f1 := mul_bounds (show 0 ≤ 1000000 * L by omega) (show 1000000 * L ≤ 1001000000 by omega) (show 0 ≤ 1000000 * L by omega) (show 1000000 * L ≤ 1001000000 by omega)
  have f2 := mul_bounds (show 0 ≤ 1000000 * H by omega) (show 1000000 * H ≤ 1001000000 by omega) (show 0 ≤ 1000000 * H by omega) (show 1000000 * H ≤ 1001000000 by omega)
  rw [wrap64_id (x := 1000000 * L) (by omega) (by omega), wrap64_id (x := 1000000 * H) (by omega) (by omega), wrap64_id (x := p * p) (by omega) (by omega), wrap64_id (x := p * p * (1 + g)) (by omega) (by omega), wrap64_id (x := p * p * (1 + g) * (1 + g)) (by omega) (by omega), wrap64_id (x := p * p * (1 + g) * (1 + g) * (1 + g)) (by omega) (by omega), wrap64_id (x := 1000000 * L * (1000000 * L)) (by omega) (by omega), wrap64_id (x := 1000000 * H * (1000000 * H)) (by omega) (by omega), wrap64_id (x := H - L) (by omega) (by omega)]
  rw [if_pos trivial, if_pos c1, if_pos c2, if_pos c5, if_pos c6]
  simp only [Option.some.injEq, decide_eq_true_eq]
  exact c7
end Go.Proofs.Ytbomgfbfnkfamaa.Mp
end
section
set_option linter.unusedVariables false
namespace Go.Proofs.Ytbomgfbfnkfamaa.Mp
open Go.RowKit Go.Proofs.YtbomgfbfnkfamaaW.PrintWords Go.Proofs.YtbomgfbfnkfamaaW.PrintMore Go.Proofs.Ytbomgfbfnkfamaa.PAll

set_option maxRecDepth 100000 in
theorem awake_ok : Ev thermionlaw02_awake.f true := Ev.of thermionlaw02_awake.mono (k := 100) (by kernel_rfl)
theorem awake_at : ∃ K, ∀ k, K ≤ k → thermionlaw02_awake.f k = some true := awake_ok
end Go.Proofs.Ytbomgfbfnkfamaa.Mp
end
section
set_option linter.unusedVariables false
namespace Go.Proofs.Ytbomgfbfnkfamaa.Mp
open Go.RowKit Go.Proofs.YtbomgfbfnkfamaaW.PrintWords Go.Proofs.YtbomgfbfnkfamaaW.PrintMore Go.Proofs.Ytbomgfbfnkfamaa.PAll

theorem rises (l0 : List Int) (a1 a2 a3 : Int) : ∃ k, thermionlaw02_CurveRises.f k l0 a1 a2 a3 = some true := by
  obtain ⟨s, hs⟩ := newDice_f l0
  obtain ⟨p0, p1, g0, g1, s0, s1, f0, f1, q0, q1, s', hl, hlk⟩ := lawOf_f s
  obtain ⟨g, eg, gb0, gb1⟩ := mod_f a1 (m := 20000) (by omega) (by omega)
  obtain ⟨pl, ep, pb0, pb1⟩ := mod_f a2 (m := 400000) (by omega) (by omega)
  obtain ⟨b, eb, bb0, bb1⟩ := mod_f a3 (m := 3000) (by omega) (by omega)
  obtain ⟨K1, h1⟩ := Current_f (grid := g - 10000) (plate := pl) hl ⟨by omega, by omega, by omega, by omega⟩
  obtain ⟨K2, h2⟩ := Current_f (grid := g - 10000 + b) (plate := pl) hl ⟨by omega, by omega, by omega, by omega⟩
  obtain ⟨K3, h3⟩ := Current_f (grid := g - 10000) (plate := pl + b) hl ⟨by omega, by omega, by omega, by omega⟩
  obtain ⟨K0, h0⟩ := roots_f a2 a1
  obtain ⟨K4, h4⟩ := awake_at
  refine ⟨K0 + K1 + K2 + K3 + K4 + 2, ?_⟩
  have hk0 := h0 (K0 + K1 + K2 + K3 + K4 + 2) (by omega)
  have hk1 := h1 (K0 + K1 + K2 + K3 + K4 + 2) (by omega)
  have hk2 := h2 (K0 + K1 + K2 + K3 + K4 + 2) (by omega)
  have hk3 := h3 (K0 + K1 + K2 + K3 + K4 + 2) (by omega)
  have hk4 := h4 (K0 + K1 + K2 + K3 + K4 + 2) (by omega)
  have hk5 := hlk (K0 + K1 + K2 + K3 + K4 + 2) (by omega)
  clear h0 h1 h2 h3 h4 hlk
  generalize K0 + K1 + K2 + K3 + K4 + 2 = k at *
  have w1 : wrap64 (g - 10000) = g - 10000 := wrap64_id (by omega) (by omega)
  have w2 : wrap64 (g - 10000 + b) = g - 10000 + b := wrap64_id (by omega) (by omega)
  have w3 : wrap64 (pl + b) = pl + b := wrap64_id (by omega) (by omega)
  have hp := hl.p
  have hg := hl.g
  have hsh := hl.s
  have hf := hl.f
  have hq := hl.q
  have m1 := cLo_le_cHi (grid := g - 10000) (plate := pl) hl pb0
  have m2 : cLo p0 g1 s0 f0 q0 (g - 10000) pl ≤ cLo p0 g1 s0 f0 q0 (g - 10000 + b) pl := cLo_mono (by omega) (by omega) (by omega) (by omega) (by omega) (by omega) (by omega) (by omega) (by omega) (by omega) (by omega) (by omega)
  have m3 : cHi p1 g0 s1 f1 q1 (g - 10000) pl ≤ cHi p1 g0 s1 f1 q1 (g - 10000 + b) pl := cHi_mono (by omega) (by omega) (by omega) (by omega) (by omega) (by omega) (by omega) (by omega) (by omega) (by omega) (by omega) (by omega)
  have m4 : cLo p0 g1 s0 f0 q0 (g - 10000) pl ≤ cLo p0 g1 s0 f0 q0 (g - 10000) (pl + b) := cLo_mono (by omega) (by omega) (by omega) (by omega) (by omega) (by omega) (by omega) (by omega) (by omega) (by omega) (by omega) (by omega)
  have m5 : cHi p1 g0 s1 f1 q1 (g - 10000) pl ≤ cHi p1 g0 s1 f1 q1 (g - 10000) (pl + b) := cHi_mono (by omega) (by omega) (by omega) (by omega) (by omega) (by omega) (by omega) (by omega) (by omega) (by omega) (by omega) (by omega)
  unfold thermionlaw02_CurveRises.f
  rw [hk0, Option.bind_some, if_pos rfl, hs, Option.bind_some, hk5, Option.bind_some]
  dsimp only
  rw [eg, Option.bind_some, ep, Option.bind_some, eb, Option.bind_some, w1, w2, w3, hk1, Option.bind_some, hk2, Option.bind_some, hk3, Option.bind_some]
  dsimp only
  rw [if_pos rfl, if_pos rfl, if_pos rfl, if_pos m1, if_pos m2, if_pos m3, if_pos m4, if_pos m5, hk4]
  rfl
end Go.Proofs.Ytbomgfbfnkfamaa.Mp
end
section
namespace Go.Proofs.Ytbomgfbfnkfamaa.Pure
open Go.RowKit Go.Proofs.Ytbomgfbfnkfamaa.PAll Go.Proofs.YtbomgfbfnkfamaaW.PrintWords Go.Proofs.YtbomgfbfnkfamaaW.PrintLast

theorem CurveRises : thermionlaw02_CurveRises.Pure := fun l0 a1 a2 a3 _ _ _ _ _ _ => Go.Proofs.Ytbomgfbfnkfamaa.Mp.rises l0 a1 a2 a3

end Go.Proofs.Ytbomgfbfnkfamaa.Pure
end
section
namespace Go.Proofs.Ytbomgfbfnkfamaa.curveRises
open Go.ChangeShapes Go.WideShapes Go.ChangeAt Go.RowKit
open Go.ChangeMaps (open_string shut_string)
set_option linter.unusedVariables false
theorem own : ownKnob Try.prog.godebug = none := by kernel_rfl
theorem laidOut : laidOutB Try.prog = true := by kernel_rfl
def IsRow (k : IntKind) (w : World) (a : Option Addr) (len cap : Nat) (zs : List Int) : Prop :=
  (a = none ∧ len = 0 ∧ cap = 0 ∧ zs = []) ∨
  ∃ x, a = some x ∧ len ≤ cap ∧ cap ≤ maxLen ∧ zs.length = cap ∧ (∀ i, i < zs.length → w.cell? (x.add i) = some (.int k (zs.getD i 0))) ∧ ∀ n ∈ zs, (Lit.int k n).wf = true
set_option maxRecDepth 100000 in
theorem lifted (os : Os) (started : os.Started) (H : Type) (enc : TypeId × Value → H) :
    ReturnsInHanded {} Try.checked os 4 .any (Rows.curveRisesSpec.pre6 enc Try.prog Try.f4 Rows.curveRisesRow.domain false) (Rows.curveRisesSpec.post enc Try.prog Try.f4 false true false false) := by
  refine returnsInHanded_of_change_sized (C := Try.checked) own started (by kernel_rfl) Try.func4
    (ChangeSpec.witness6 (enc := enc) (C := Try.checked) false ⟨#[], #[.slice none 0 0, .int .i64 0, .int .i64 0, .int .i64 0], []⟩ 8 (by kernel_rfl) (by kernel_rfl) (by kernel_rfl) (by kernel_rfl)) ?_
  intro W base args ds gs before hval0 hW hcnd hsz0 _
  have hsz : (DataW.weightsEach Try.prog (Try.f4.params.toList ++ Rows.curveRisesSpec.plain.varTypes Try.prog) (ds ++ gs)).all (· ≤ reachBytes) = true := hsz0
  have hval : ∀ (j : Nat) t v, Try.f4.params[j]? = some t → args[j]? = some v → Value.okWide Try.prog W .any base t v := hval0
  have hW' := hW
  obtain ⟨p, q, hA0, hV, rfl, hfz, hnd⟩ := hW
  have hA : DataW.TrodAll enc Try.prog W 0 (fun _ => true) true Try.f4.params.toList args.toList ds p := hA0
  rw [Try.params4] at hA hval hsz
  obtain ⟨v0, vs0, d0, ds0, p0, q0, hargs, rfl, rfl, h0, r0⟩ := trodAll_cons hA
  obtain ⟨v1, vs1, d1, ds1, p1, q1, rfl, rfl, rfl, h1, r1⟩ := trodAll_cons r0
  obtain ⟨v2, vs2, d2, ds2, p2, q2, rfl, rfl, rfl, h2, r2⟩ := trodAll_cons r1
  obtain ⟨v3, vs3, d3, ds3, p3, q3, rfl, rfl, rfl, h3, r3⟩ := trodAll_cons r2
  obtain ⟨rfl, rfl, rfl⟩ := trodAll_nil r3
  obtain rfl : args = #[v0, v1, v2, v3] := by cases args; simp_all
  obtain ⟨rfl, rfl⟩ := trodVars_none hV
  obtain ⟨a0, len0, cap0, rfl⟩ := okWide_slice Try.underlying22 (hval 0 22 v0 rfl rfl)
  have k0 := h0
  have lt0 : ∀ x ∈ p0, x.block < W.heap.size := by obtain ⟨m, hm⟩ := k0; exact DataW.trod_lt m _ _ _ hm
  obtain ⟨z0, w0⟩ : ∃ zs, IsRow .i64 W a0 len0 cap0 zs := by
    obtain ⟨fuel, hf⟩ := h0
    rcases open_ints Try.underlying22 Try.underlying3 (by kernel_rfl) hf with ⟨hcs, _⟩ | ⟨x, l, c, zs, hcs, _, hl, hm, hz, _, hcell, hwz⟩
    · simp [Value.cells] at hcs
      obtain ⟨rfl, rfl, rfl⟩ := hcs
      exact ⟨[], .inl ⟨rfl, rfl, rfl, rfl⟩⟩
    · simp [Value.cells] at hcs
      obtain ⟨rfl, rfl, rfl⟩ := hcs
      exact ⟨zs, .inr ⟨_, rfl, hl, hm, by simpa using hz, hcell, hwz⟩⟩
  have y0 : len0 * 8 ≤ 140737488351232 := Go.Proofs.YtbomgfbfnkfamaaW.PrintWords.sized_ints hsz (j := 0) (t := 22) rfl rfl Try.underlying22 Try.underlying3 (by kernel_rfl) (by kernel_rfl) h0
  obtain ⟨a1, rfl, rfl, rfl, w1⟩ := open_int Try.underlying3 (hval 1 3 v1 rfl rfl) h1
  obtain ⟨a2, rfl, rfl, rfl, w2⟩ := open_int Try.underlying3 (hval 2 3 v2 rfl rfl) h2
  obtain ⟨a3, rfl, rfl, rfl, w3⟩ := open_int Try.underlying3 (hval 3 3 v3 rfl rfl) h3
  clear hA0 hval0 hsz0 hsz
  refine (PAll.thermionlaw02_CurveRises.walk Pure.CurveRises a0 len0 cap0 z0 a1 a2 a3 W w0 y0 w1 w2 w3).mono fun e W' ⟨he, bel⟩ => ?_
  subst he
  exact ⟨_, rfl, _, _, _, [], _, [], hW', trodAll_mk1 (shut_bool Try.underlying4 _), (trodAll_cons_mk (Below.trod laidOut (by kernel_rfl) (of_decide_eq_true (by kernel_rfl)) k0 bel lt0) (trodAll_cons_mk (shut_int Try.underlying3 w1) (trodAll_cons_mk (shut_int Try.underlying3 w2) (trodAll_cons_mk (shut_int Try.underlying3 w3) trodAll_mk0)))), rfl, bel.frame _, fun h => by cases h⟩
theorem over : Rows.curveRisesRow.holds Try.pinned (OpenSpec.ofChange Rows.curveRisesSpec) :=
  OpenClaim.holds_of_wide 4 Try.f4 rfl rfl rfl rfl rfl rfl rfl ⟨rfl, rfl, rfl, rfl, rfl⟩ rfl rfl rfl rfl rfl (by kernel_rfl) Try.func4 (by kernel_rfl)
    (of_decide_eq_true (by kernel_rfl)) (by unfold Func.isWrapper; first | (rw [if_pos (by decide +kernel)]; kernel_rfl) | (rw [if_neg (by decide +kernel)]; exact ⟨rfl, rfl⟩))
    (fun os started H enc _ => lifted os started H enc)
theorem proved : Rows.CurveRisesSaid := over
#print axioms proved
end Go.Proofs.Ytbomgfbfnkfamaa.curveRises
namespace Go.Proofs.Ytbomgfbfnkfamaa
/-- The row, under a short name, for the claim. -/
theorem curveRises_holds : Rows.CurveRisesSaid := curveRises.proved
end Go.Proofs.Ytbomgfbfnkfamaa
end
