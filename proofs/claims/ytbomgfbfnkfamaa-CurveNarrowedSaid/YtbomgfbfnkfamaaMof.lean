/- Families of laws, and families that are made, as numbers. -/
import Derived.Test.YtbomgfbfnkfamaaMfam
set_option linter.unusedVariables false
set_option linter.unusedSimpArgs false
namespace Go.Proofs.Ytbomgfbfnkfamaa.I

theorem dLo_mono {g1 s0 grid plate g1' s0' grid' plate' : Int} (hg : 1 ≤ g1') (hg' : g1' ≤ g1) (hs : s0 ≤ s0') (hgr : grid ≤ grid') (hp0 : 0 ≤ plate) (hp : plate ≤ plate') : dLo g1 s0 grid plate ≤ dLo g1' s0' grid' plate' := by
  unfold dLo
  apply clamp_mono
  have h : 1000 * plate / g1 ≤ 1000 * plate' / g1' := down_frac (by omega) (by omega) (by
    have a : 1000 * plate * g1' ≤ 1000 * plate * g1 := Int.mul_le_mul_of_nonneg_left hg' (by omega)
    have b : 1000 * plate * g1 ≤ 1000 * plate' * g1 := Int.mul_le_mul_of_nonneg_right (by omega) (by omega)
    omega)
  omega
theorem dHi_mono {g0 s1 grid plate g0' s1' grid' plate' : Int} (hg : 1 ≤ g0') (hg' : g0' ≤ g0) (hs : s1 ≤ s1') (hgr : grid ≤ grid') (hp0 : 0 ≤ plate) (hp : plate ≤ plate') : dHi g0 s1 grid plate ≤ dHi g0' s1' grid' plate' := by
  unfold dHi
  apply clamp_mono
  have h : up (1000 * plate) g0 ≤ up (1000 * plate') g0' := up_frac (by omega) (by omega) (by
    have a : 1000 * plate * g0' ≤ 1000 * plate * g0 := Int.mul_le_mul_of_nonneg_left hg' (by omega)
    have b : 1000 * plate * g0 ≤ 1000 * plate' * g0 := Int.mul_le_mul_of_nonneg_right (by omega) (by omega)
    omega)
  omega
theorem dLo_le_dHi {g0 g1 s0 s1 grid plate : Int} (hg : 1 ≤ g0) (hg' : g0 ≤ g1) (hs : s0 ≤ s1) (hp0 : 0 ≤ plate) : dLo g1 s0 grid plate ≤ dHi g0 s1 grid plate := by
  unfold dLo dHi
  apply clamp_mono
  have h : 1000 * plate / g1 ≤ 1000 * plate / g0 := down_frac (by omega) (by omega) (Int.mul_le_mul_of_nonneg_left hg' (by omega))
  have h2 := down_le_up (1000 * plate) (show 0 < g0 by omega)
  omega
theorem endLo_mono {p f q r p' f' q' r' : Int} (hp0 : 0 ≤ p) (hp : p ≤ p') (hf0 : 0 ≤ f) (hf : f ≤ f') (hq0 : 0 ≤ q) (hq : q ≤ q') (hr0 : 0 ≤ r) (hr : r ≤ r') : endLo p f q r ≤ endLo p' f' q' r' := by
  unfold endLo
  have a : p * r / 1000000 ≤ p' * r' / 1000000 := Int.ediv_le_ediv (by omega) (Int.mul_le_mul hp hr hr0 (by omega))
  have a0 := Int.ediv_nonneg (Int.mul_nonneg hp0 hr0) (show (0 : Int) ≤ 1000000 by omega)
  have b := mn_mono a hf
  have b0 := (mn_bounds (n := f) a0 hf0 (Int.le_refl _)).1
  exact Int.ediv_le_ediv (by omega) (Int.mul_le_mul hq b b0 (by omega))
theorem endHi_mono {p f q r p' f' q' r' : Int} (hp0 : 0 ≤ p) (hp : p ≤ p') (hf0 : 0 ≤ f) (hf : f ≤ f') (hq0 : 0 ≤ q) (hq : q ≤ q') (hr0 : 0 ≤ r) (hr : r ≤ r') : endHi p f q r ≤ endHi p' f' q' r' := by
  unfold endHi
  have a : up (p * r) 1000000 ≤ up (p' * r') 1000000 := up_mono (by omega) (Int.mul_le_mul hp hr hr0 (by omega))
  have h1 := down_le_up (p * r) (show (0 : Int) < 1000000 by omega)
  have a0 := Int.ediv_nonneg (Int.mul_nonneg hp0 hr0) (show (0 : Int) ≤ 1000000 by omega)
  have b := mn_mono a hf
  have b0 := (mn_bounds (a := up (p * r) 1000000) (n := f) (by omega) hf0 (Int.le_refl _)).1
  exact up_mono (by omega) (Int.mul_le_mul hq b b0 (by omega))
/-- The lower end rises with all numbers but the gain. -/
theorem cLo_mono {p0 g1 s0 f0 q0 grid plate p0' g1' s0' f0' q0' grid' plate' : Int} (hp0 : 0 ≤ p0) (hp : p0 ≤ p0') (hg : 1 ≤ g1') (hg' : g1' ≤ g1) (hs : s0 ≤ s0') (hf0 : 0 ≤ f0) (hf : f0 ≤ f0') (hq0 : 0 ≤ q0) (hq : q0 ≤ q0') (hgr : grid ≤ grid') (hpl0 : 0 ≤ plate) (hpl : plate ≤ plate') :
    cLo p0 g1 s0 f0 q0 grid plate ≤ cLo p0' g1' s0' f0' q0' grid' plate' := by
  unfold cLo
  have hd := dLo_mono hg hg' hs hgr hpl0 hpl
  have b := clamp_bounds (grid + s0 + 1000 * plate / g1)
  have b' := clamp_bounds (grid' + s0' + 1000 * plate' / g1')
  have hr := rt_mono (a := dLo g1 s0 grid plate) (b := dLo g1' s0' grid' plate') b.1 hd b'.2
  exact endLo_mono hp0 hp hf0 hf hq0 hq (rt_le b.1 b.2).1 hr
theorem cHi_mono {p1 g0 s1 f1 q1 grid plate p1' g0' s1' f1' q1' grid' plate' : Int} (hp0 : 0 ≤ p1) (hp : p1 ≤ p1') (hg : 1 ≤ g0') (hg' : g0' ≤ g0) (hs : s1 ≤ s1') (hf0 : 0 ≤ f1) (hf : f1 ≤ f1') (hq0 : 0 ≤ q1) (hq : q1 ≤ q1') (hgr : grid ≤ grid') (hpl0 : 0 ≤ plate) (hpl : plate ≤ plate') :
    cHi p1 g0 s1 f1 q1 grid plate ≤ cHi p1' g0' s1' f1' q1' grid' plate' := by
  unfold cHi
  have hd := dHi_mono hg hg' hs hgr hpl0 hpl
  have b := clamp_bounds (grid + s1 + up (1000 * plate) g0)
  have b' := clamp_bounds (grid' + s1' + up (1000 * plate') g0')
  have hr := rtUp_mono (a := dHi g0 s1 grid plate) (b := dHi g0' s1' grid' plate') b.1 hd b'.2
  have h1 := rtUp_bounds (n := dHi g0 s1 grid plate) b.1 b.2
  have h2 := rt_le (n := dHi g0 s1 grid plate) b.1 b.2
  exact endHi_mono hp0 hp hf0 hf hq0 hq (Int.le_trans h2.1 h1.1) hr
theorem cLo_le_cHi {p0 p1 g0 g1 s0 s1 f0 f1 q0 q1 grid plate : Int} (h : LawOk p0 p1 g0 g1 s0 s1 f0 f1 q0 q1) (hpl : 0 ≤ plate) : cLo p0 g1 s0 f0 q0 grid plate ≤ cHi p1 g0 s1 f1 q1 grid plate := by
  obtain ⟨hp, hg, hs, hf, hq⟩ := h
  have hd := dLo_le_dHi (grid := grid) (plate := plate) hg.1 hg.2.1 hs.2.1 hpl
  have b : 0 ≤ dLo g1 s0 grid plate ∧ dLo g1 s0 grid plate ≤ 1000000 := clamp_bounds _
  have b' : 0 ≤ dHi g0 s1 grid plate ∧ dHi g0 s1 grid plate ≤ 1000000 := clamp_bounds _
  have hr := rt_mono b.1 hd b'.2
  have h1 := rtUp_bounds b'.1 b'.2
  have h2 := rt_le b.1 b.2
  unfold cLo cHi
  generalize rt (dLo g1 s0 grid plate * dLo g1 s0 grid plate * dLo g1 s0 grid plate) = r at *
  generalize rtUp (dHi g0 s1 grid plate * dHi g0 s1 grid plate * dHi g0 s1 grid plate) = s at *
  have e := endLo_mono (p' := p1) (f' := f1) (q' := q1) (r' := s) hp.1 hp.2.1 hf.1 hf.2.1 hq.1 hq.2.1 h2.1 (by omega)
  refine Int.le_trans e ?_
  unfold endLo endHi
  have a := down_le_up (p1 * s) (show (0 : Int) < 1000000 by omega)
  have c := mn_mono a (Int.le_refl f1)
  have d : q1 * min (p1 * s / 1000000) f1 ≤ q1 * min (up (p1 * s) 1000000) f1 := Int.mul_le_mul_of_nonneg_left c (by omega)
  exact Int.le_trans (Int.ediv_le_ediv (by omega) d) (down_le_up _ (by omega))
theorem cLo_bounds {p0 p1 g0 g1 s0 s1 f0 f1 q0 q1 grid plate : Int} (h : LawOk p0 p1 g0 g1 s0 s1 f0 f1 q0 q1) : 0 ≤ cLo p0 g1 s0 f0 q0 grid plate := by
  obtain ⟨hp, hg, hs, hf, hq⟩ := h
  have b : 0 ≤ dLo g1 s0 grid plate ∧ dLo g1 s0 grid plate ≤ 1000000 := clamp_bounds _
  have r := rt_le b.1 b.2
  have L := endLo_bounds (p := p0) (f := f0) (q := q0) (by omega) (by omega) (by omega) (by omega) (by omega) (by omega) r.1 r.2
  unfold cLo
  omega
theorem cHi_bounds {p0 p1 g0 g1 s0 s1 f0 f1 q0 q1 grid plate : Int} (h : LawOk p0 p1 g0 g1 s0 s1 f0 f1 q0 q1) : cHi p1 g0 s1 f1 q1 grid plate ≤ 1000000 := by
  obtain ⟨hp, hg, hs, hf, hq⟩ := h
  have b : 0 ≤ dHi g0 s1 grid plate ∧ dHi g0 s1 grid plate ≤ 1000000 := clamp_bounds _
  have r := rt_le b.1 b.2
  have r2 := rtUp_bounds b.1 b.2
  have L := endHi_bounds (p := p1) (f := f1) (q := q1) (r := rtUp (dHi g0 s1 grid plate * dHi g0 s1 grid plate * dHi g0 s1 grid plate)) (by omega) (by omega) (by omega) (by omega) (by omega) (by omega) (by omega) (by omega)
  unfold cHi
  omega
/-- A law within another one. -/
structure SubLaw (p0 p1 g0 g1 s0 s1 f0 f1 q0 q1 p0' p1' g0' g1' s0' s1' f0' f1' q0' q1' : Int) : Prop where
  p : p0 ≤ p0' ∧ p0' ≤ p1' ∧ p1' ≤ p1
  g : g0 ≤ g0' ∧ g0' ≤ g1' ∧ g1' ≤ g1
  s : s0 ≤ s0' ∧ s0' ≤ s1' ∧ s1' ≤ s1
  f : f0 ≤ f0' ∧ f0' ≤ f1' ∧ f1' ≤ f1
  q : q0 ≤ q0' ∧ q0' ≤ q1' ∧ q1' ≤ q1
theorem SubLaw.ok {p0 p1 g0 g1 s0 s1 f0 f1 q0 q1 p0' p1' g0' g1' s0' s1' f0' f1' q0' q1' : Int} (h : LawOk p0 p1 g0 g1 s0 s1 f0 f1 q0 q1)
    (k : SubLaw p0 p1 g0 g1 s0 s1 f0 f1 q0 q1 p0' p1' g0' g1' s0' s1' f0' f1' q0' q1') : LawOk p0' p1' g0' g1' s0' s1' f0' f1' q0' q1' := by
  obtain ⟨a, b, c, d, e⟩ := h
  obtain ⟨a', b', c', d', e'⟩ := k
  exact ⟨by omega, by omega, by omega, by omega, by omega⟩
theorem within_lo {p0 p1 g0 g1 s0 s1 f0 f1 q0 q1 p0' p1' g0' g1' s0' s1' f0' f1' q0' q1' grid plate : Int} (h : LawOk p0 p1 g0 g1 s0 s1 f0 f1 q0 q1)
    (k : SubLaw p0 p1 g0 g1 s0 s1 f0 f1 q0 q1 p0' p1' g0' g1' s0' s1' f0' f1' q0' q1') (hp : 0 ≤ plate) :
    cLo p0 g1 s0 f0 q0 grid plate ≤ cLo p0' g1' s0' f0' q0' grid plate ∧ cHi p1' g0' s1' f1' q1' grid plate ≤ cHi p1 g0 s1 f1 q1 grid plate
    ∧ dLo g1 s0 grid plate ≤ dLo g1' s0' grid plate ∧ dHi g0' s1' grid plate ≤ dHi g0 s1 grid plate := by
  obtain ⟨a, b, c, d, e⟩ := h
  obtain ⟨a', b', c', d', e'⟩ := k
  refine ⟨?_, ?_, ?_, ?_⟩
  · exact cLo_mono (by omega) (by omega) (by omega) (by omega) (by omega) (by omega) (by omega) (by omega) (by omega) (by omega) (by omega) (by omega)
  · exact cHi_mono (by omega) (by omega) (by omega) (by omega) (by omega) (by omega) (by omega) (by omega) (by omega) (by omega) (by omega) (by omega)
  · exact dLo_mono (by omega) (by omega) (by omega) (by omega) hp (by omega)
  · exact dHi_mono (by omega) (by omega) (by omega) (by omega) hp (by omega)

end Go.Proofs.Ytbomgfbfnkfamaa.I
