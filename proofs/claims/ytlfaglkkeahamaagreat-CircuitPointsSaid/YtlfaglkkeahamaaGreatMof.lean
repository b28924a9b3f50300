/- Families of laws, and families that are made, as numbers. -/
import Derived.Test.YtlfaglkkeahamaaGreatMfam
set_option linter.unusedVariables false
set_option linter.unusedSimpArgs false
namespace Go.Proofs.YtlfaglkkeahamaaGreat.I

theorem dLo_mono {g1 s0 grid plate g1' s0' grid' plate' : Int} (hg : 1 ≤ g1') (hg' : g1' ≤ g1) (hs : s0 ≤ s0') (hgr : grid ≤ grid') (hp0 : 0 ≤ plate) (hp : plate ≤ plate') : dLo g1 s0 grid plate ≤ dLo g1' s0' grid' plate' := by
  unfold dLo
  apply clamp_mono
  have h : 1000 * plate / g1 ≤ 1000 * plate' / g1' := down_frac (by omega) (by omega) (by
    have a : 1000 * plate * g1' ≤ 1000 * plate * g1 := Int.mul_le_mul_of_nonneg_left hg' (by omega)
    have b : 1000 * plate * g1 ≤ 1000 * plate' * g1 := Int.mul_le_mul_of_nonneg_right (by omega) (by omega)
    omega)
  omega
theorem dHi_mono {g0 s1 grid plate g0' s1' grid' plate' : Int} (hg : 1 ≤ g0') (hg' : g0' ≤ g0) (hs : s1 ≤ s1') (hgr : grid ≤ grid') (hp0 : 0 ≤ plate) (hp : plate ≤ plate') : dHi g0 s1 grid plate ≤ dHi g0' s1' grid' plate' := by
  unfold dHi
  apply clamp_mono
  have h : up (1000 * plate) g0 ≤ up (1000 * plate') g0' := up_frac (by omega) (by omega) (by
    have a : 1000 * plate * g0' ≤ 1000 * plate * g0 := Int.mul_le_mul_of_nonneg_left hg' (by omega)
    have b : 1000 * plate * g0 ≤ 1000 * plate' * g0 := Int.mul_le_mul_of_nonneg_right (by omega) (by omega)
    omega)
  omega
theorem dLo_le_dHi {g0 g1 s0 s1 grid plate : Int} (hg : 1 ≤ g0) (hg' : g0 ≤ g1) (hs : s0 ≤ s1) (hp0 : 0 ≤ plate) : dLo g1 s0 grid plate ≤ dHi g0 s1 grid plate := by
  unfold dLo dHi
  apply clamp_mono
  have h : 1000 * plate / g1 ≤ 1000 * plate / g0 := down_frac (by omega) (by omega) (Int.mul_le_mul_of_nonneg_left hg' (by omega))
  have h2 := down_le_up (1000 * plate) (show 0 < g0 by omega)
  omega
theorem endLo_mono {p f q r p' f' q' r' : Int} (hp0 : 0 ≤ p) (hp : p ≤ p') (hf0 : 0 ≤ f) (hf : f ≤ f') (hq0 : 0 ≤ q) (hq : q ≤ q') (hr0 : 0 ≤ r) (hr : r ≤ r') : endLo p f q r ≤ endLo p' f' q' r' := by
  unfold endLo
  have a : p * r / 1000000 ≤ p' * r' / 1000000 := Int.ediv_le_ediv (by omega) (Int.mul_le_mul hp hr hr0 (by omega))
  have a0 := Int.ediv_nonneg (Int.mul_nonneg hp0 hr0) (show (0 : Int) ≤ 1000000 by omega)
  have b := mn_mono a hf
  have b0 := (mn_bounds (n := f) a0 hf0 (Int.le_refl _)).1
  exact Int.ediv_le_ediv (by omega) (Int.mul_le_mul hq b b0 (by omega))
theorem endHi_mono {p f q r p' f' q' r' : Int} (hp0 : 0 ≤ p) (hp : p ≤ p') (hf0 : 0 ≤ f) (hf : f ≤ f') (hq0 : 0 ≤ q) (hq : q ≤ q') (hr0 : 0 ≤ r) (hr : r ≤ r') : endHi p f q r ≤ endHi p' f' q' r' := by
  unfold endHi
  have a : up (p * r) 1000000 ≤ up (p' * r') 1000000 := up_mono (by omega) (Int.mul_le_mul hp hr hr0 (by omega))
  have h1 := down_le_up (p * r) (show (0 : Int) < 1000000 by omega)
  have a0 := Int.ediv_nonneg (Int.mul_nonneg hp0 hr0) (show (0 : Int) ≤ 1000000 by omega)
  have b := mn_mono a hf
  have b0 := (mn_bounds (a := up (p * r) 1000000) (n := f) (by omega) hf0 (Int.le_refl _)).1
  exact up_mono (by omega) (Int.mul_le_mul hq b b0 (by omega))
/-- The lower end rises with all numbers but the gain. -/
theorem cLo_mono {p0 g1 s0 f0 q0 grid plate p0' g1' s0' f0' q0' grid' plate' : Int} (hp0 : 0 ≤ p0) (hp : p0 ≤ p0') (hg : 1 ≤ g1') (hg' : g1' ≤ g1) (hs : s0 ≤ s0') (hf0 : 0 ≤ f0) (hf : f0 ≤ f0') (hq0 : 0 ≤ q0) (hq : q0 ≤ q0') (hgr : grid ≤ grid') (hpl0 : 0 ≤ plate) (hpl : plate ≤ plate') :
    cLo p0 g1 s0 f0 q0 grid plate ≤ cLo p0' g1' s0' f0' q0' grid' plate' := by
  unfold cLo
  have hd := dLo_mono hg hg' hs hgr hpl0 hpl
  have b := clamp_bounds (grid + s0 + 1000 * plate / g1)
  have b' := clamp_bounds (grid' + s0' + 1000 * plate' / g1')
  have hr := rt_mono (a := dLo g1 s0 grid plate) (b := dLo g1' s0' grid' plate') b.1 hd b'.2
  exact endLo_mono hp0 hp hf0 hf hq0 hq (rt_le b.1 b.2).1 hr
theorem cHi_mono {p1 g0 s1 f1 q1 grid plate p1' g0' s1' f1' q1' grid' plate' : Int} (hp0 : 0 ≤ p1) (hp : p1 ≤ p1') (hg : 1 ≤ g0') (hg' : g0' ≤ g0) (hs : s1 ≤ s1') (hf0 : 0 ≤ f1) (hf : f1 ≤ f1') (hq0 : 0 ≤ q1) (hq : q1 ≤ q1') (hgr : grid ≤ grid') (hpl0 : 0 ≤ plate) (hpl : plate ≤ plate') :
    cHi p1 g0 s1 f1 q1 grid plate ≤ cHi p1' g0' s1' f1' q1' grid' plate' := by
  unfold cHi
  have hd := dHi_mono hg hg' hs hgr hpl0 hpl
  have b := clamp_bounds (grid + s1 + up (1000 * plate) g0)
  have b' := clamp_bounds (grid' + s1' + up (1000 * plate') g0')
  have hr := rtUp_mono (a := dHi g0 s1 grid plate) (b := dHi g0' s1' grid' plate') b.1 hd b'.2
  have h1 := rtUp_bounds (n := dHi g0 s1 grid plate) b.1 b.2
  have h2 := rt_le (n := dHi g0 s1 grid plate) b.1 b.2
  exact endHi_mono hp0 hp hf0 hf hq0 hq (Int.le_trans h2.1 h1.1) hr
theorem cLo_le_cHi {p0 p1 g0 g1 s0 s1 f0 f1 q0 q1 grid plate : Int} (h : LawOk p0 p1 g0 g1 s0 s1 f0 f1 q0 q1) (hpl : 0 ≤ plate) : cLo p0 g1 s0 f0 q0 grid plate ≤ cHi p1 g0 s1 f1 q1 grid plate := by
  obtain ⟨hp, hg, hs, hf, hq⟩ := h
  have hd := dLo_le_dHi (grid := grid) (plate := plate) hg.1 hg.2.1 hs.2.1 hpl
  have b : 0 ≤ dLo g1 s0 grid plate ∧ dLo g1 s0 grid plate ≤ 1000000 := clamp_bounds _
  have b' : 0 ≤ dHi g0 s1 grid plate ∧ dHi g0 s1 grid plate ≤ 1000000 := clamp_bounds _
  have hr := rt_mono b.1 hd b'.2
  have h1 := rtUp_bounds b'.1 b'.2
  have h2 := rt_le b.1 b.2
  unfold cLo cHi
  generalize rt (dLo g1 s0 grid plate * dLo g1 s0 grid plate * dLo g1 s0 grid plate) = r at *
  generalize rtUp (dHi g0 s1 grid plate * dHi g0 s1 grid plate * dHi g0 s1 grid plate) = s at *
  have e := endLo_mono (p' := p1) (f' := f1) (q' := q1) (r' := s) hp.1 hp.2.1 hf.1 hf.2.1 hq.1 hq.2.1 h2.1 (by omega)
  refine Int.le_trans e ?_
  unfold endLo endHi
  have a := down_le_up (p1 * s) (show (0 : Int) < 1000000 by omega)
  have c := mn_mono a (Int.le_refl f1)
  have d : q1 * min (p1 * s / 1000000) f1 ≤ q1 * min (up (p1 * s) 1000000) f1 := Int.mul_le_mul_of_nonneg_left c (by omega)
  exact Int.le_trans (Int.ediv_le_ediv (by omega) d) (down_le_up _ (by omega))
theorem cLo_bounds {p0 p1 g0 g1 s0 s1 f0 f1 q0 q1 grid plate : Int} (h : LawOk p0 p1 g0 g1 s0 s1 f0 f1 q0 q1) : 0 ≤ cLo p0 g1 s0 f0 q0 grid plate := by
  obtain ⟨hp, hg, hs, hf, hq⟩ := h
  have b : 0 ≤ dLo g1 s0 grid plate ∧ dLo g1 s0 grid plate ≤ 1000000 := clamp_bounds _
  have r := rt_le b.1 b.2
  have L := endLo_bounds (p := p0) (f := f0) (q := q0) (by omega) (by omega) (by omega) (by omega) (by omega) (by omega) r.1 r.2
  unfold cLo
  omega
theorem cHi_bounds {p0 p1 g0 g1 s0 s1 f0 f1 q0 q1 grid plate : Int} (h : LawOk p0 p1 g0 g1 s0 s1 f0 f1 q0 q1) : cHi p1 g0 s1 f1 q1 grid plate ≤ 1000000 := by
  obtain ⟨hp, hg, hs, hf, hq⟩ := h
  have b : 0 ≤ dHi g0 s1 grid plate ∧ dHi g0 s1 grid plate ≤ 1000000 := clamp_bounds _
  have r := rt_le b.1 b.2
  have r2 := rtUp_bounds b.1 b.2
  have L := endHi_bounds (p := p1) (f := f1) (q := q1) (r := rtUp (dHi g0 s1 grid plate * dHi g0 s1 grid plate * dHi g0 s1 grid plate)) (by omega) (by omega) (by omega) (by omega) (by omega) (by omega) (by omega) (by omega)
  unfold cHi
  omega
theorem fam_of {p0 p1 g0 g1 s0 s1 f0 f1 q0 q1 : Int} (h : LawOk p0 p1 g0 g1 s0 s1 f0 f1 q0 q1) {grid plate : List Int} (hg : LinesOk (-1000000) 1000000 grid) (hp : LinesOk 0 1000000 plate)
    (l0 : 1 ≤ grid.length) (l1 : grid.length ≤ 40) (m0 : 1 ≤ plate.length) (m1 : plate.length ≤ 40) : FamOk grid plate (tabOf (cLo p0 g1 s0 f0 q0) grid plate) (tabOf (cHi p1 g0 s1 f1 q1) grid plate) := by
  have hl := h
  obtain ⟨a, b, c, d, e⟩ := h
  refine ⟨hg, hp, l0, l1, m0, m1, tabOf_tab _ _ _, tabOf_tab _ _ _, fun i k hi hk => ?_, fun i k hi hk => ?_, fun i k hi hk => ?_⟩
  · rw [vc_tabOf _ hi hk, vc_tabOf _ hi hk]
    exact ⟨cLo_bounds hl, cLo_le_cHi hl (hp.bnd k hk).1, cHi_bounds hl⟩
  · rw [vc_tabOf _ hi hk, vc_tabOf _ hi hk, vc_tabOf _ (by omega) hk, vc_tabOf _ (by omega) hk]
    have h1 := hg.asc i (i + 1) (by omega) hi
    have h2 := hp.bnd k hk
    exact ⟨cLo_mono (by omega) (by omega) (by omega) (by omega) (by omega) (by omega) (by omega) (by omega) (by omega) (by omega) (by omega) (by omega), cHi_mono (by omega) (by omega) (by omega) (by omega) (by omega) (by omega) (by omega) (by omega) (by omega) (by omega) (by omega) (by omega)⟩
  · rw [vc_tabOf _ hi hk, vc_tabOf _ hi hk, vc_tabOf _ hi (by omega), vc_tabOf _ hi (by omega)]
    have h1 := hp.asc k (k + 1) (by omega) hk
    have h2 := hp.bnd k (by omega)
    exact ⟨cLo_mono (by omega) (by omega) (by omega) (by omega) (by omega) (by omega) (by omega) (by omega) (by omega) (by omega) (by omega) (by omega), cHi_mono (by omega) (by omega) (by omega) (by omega) (by omega) (by omega) (by omega) (by omega) (by omega) (by omega) (by omega) (by omega)⟩
/-- A place of a row, behind a table. -/
structure PlaceOk (i : Nat) (tl th : List (List Int)) (rl rh : List Int) (k : Nat) : Prop where
  lo : 0 ≤ nth rl k ∧ nth rl k ≤ 60 + 20 * i
  hi : nth rl k ≤ nth rh k ∧ nth rh k ≤ 100 + 200 * i
  up : 0 < i → vc tl (i - 1) k ≤ nth rl k ∧ vc th (i - 1) k ≤ nth rh k
  left : 0 < k → nth rl (k - 1) ≤ nth rl k ∧ nth rh (k - 1) ≤ nth rh k
structure RowOk (i : Nat) (tl th : List (List Int)) (rl rh : List Int) : Prop where
  len : rh.length = rl.length
  at_ : ∀ k, k < rl.length → PlaceOk i tl th rl rh k
structure TabsOk (m : Nat) (tl th : List (List Int)) : Prop where
  len : th.length = tl.length
  lo : ∀ i, i < tl.length → (tl.getD i []).length = m
  row : ∀ i, i < tl.length → RowOk i tl th (tl.getD i []) (th.getD i [])
theorem nth_snoc {l : List Int} {a : Int} {k : Nat} (h : k < l.length) : nth (l ++ [a]) k = nth l k := by
  unfold nth; rw [List.getD_eq_getElem?_getD, List.getD_eq_getElem?_getD, List.getElem?_append_left h]
theorem nth_last {l : List Int} {a : Int} : nth (l ++ [a]) l.length = a := by
  unfold nth; rw [List.getD_eq_getElem?_getD, List.getElem?_append_right (Nat.le_refl _)]; simp
theorem getD_snoc {α : Type} {l : List α} {a d : α} {k : Nat} (h : k < l.length) : (l ++ [a]).getD k d = l.getD k d := by
  rw [List.getD_eq_getElem?_getD, List.getD_eq_getElem?_getD, List.getElem?_append_left h]
theorem getD_last {α : Type} {l : List α} {a d : α} : (l ++ [a]).getD l.length d = a := by
  rw [List.getD_eq_getElem?_getD, List.getElem?_append_right (Nat.le_refl _)]; simp
theorem RowOk.nil (i : Nat) (tl th : List (List Int)) : RowOk i tl th [] [] := ⟨rfl, fun k h => by simp at h⟩
theorem RowOk.snoc {i : Nat} {tl th : List (List Int)} {rl rh : List Int} (h : RowOk i tl th rl rh) {a b : Int} (h1 : 0 ≤ a ∧ a ≤ 60 + 20 * i) (h2 : a ≤ b ∧ b ≤ 100 + 200 * i)
    (h3 : 0 < i → vc tl (i - 1) rl.length ≤ a ∧ vc th (i - 1) rl.length ≤ b) (h4 : 0 < rl.length → nth rl (rl.length - 1) ≤ a ∧ nth rh (rl.length - 1) ≤ b) : RowOk i tl th (rl ++ [a]) (rh ++ [b]) := by
  have hl := h.len
  refine ⟨by simp [hl], fun k hk => ?_⟩
  simp only [List.length_append, List.length_cons, List.length_nil] at hk
  rcases Nat.lt_or_ge k rl.length with c | c
  · obtain ⟨p1, p2, p3, p4⟩ := h.at_ k c
    refine ⟨?_, ?_, fun q => ?_, fun q => ?_⟩
    · rw [nth_snoc c]; exact p1
    · rw [nth_snoc c, nth_snoc (by omega)]; exact p2
    · rw [nth_snoc c, nth_snoc (by omega)]; exact p3 q
    · rw [nth_snoc c, nth_snoc (by omega), nth_snoc (by omega), nth_snoc (by omega)]; exact p4 q
  · obtain rfl : k = rl.length := by omega
    have e1 : nth (rl ++ [a]) rl.length = a := nth_last
    have e2 : nth (rh ++ [b]) rl.length = b := by rw [← hl]; exact nth_last
    refine ⟨?_, ?_, fun q => ?_, fun q => ?_⟩
    · rw [e1]; exact h1
    · rw [e1, e2]; exact h2
    · rw [e1, e2]; exact h3 q
    · rw [e1, e2, nth_snoc (by omega), nth_snoc (by omega)]; exact h4 q
theorem TabsOk.nil (m : Nat) : TabsOk m [] [] := ⟨rfl, fun i h => by simp at h, fun i h => by simp at h⟩
theorem TabsOk.snoc {m : Nat} {tl th : List (List Int)} (h : TabsOk m tl th) {rl rh : List Int} (hr : RowOk tl.length tl th rl rh) (hm : rl.length = m) : TabsOk m (tl ++ [rl]) (th ++ [rh]) := by
  have hl := h.len
  have keep : ∀ i, i < tl.length + 1 → ∀ a b, RowOk i tl th a b → RowOk i (tl ++ [rl]) (th ++ [rh]) a b := by
    intro i hi a b hab
    refine ⟨hab.len, fun k hk => ?_⟩
    obtain ⟨p1, p2, p3, p4⟩ := hab.at_ k hk
    refine ⟨p1, p2, fun q => ?_, p4⟩
    unfold vc
    rw [getD_snoc (by omega), getD_snoc (by omega)]
    exact p3 q
  refine ⟨by simp [hl], fun i hi => ?_, fun i hi => ?_⟩
  · simp only [List.length_append, List.length_cons, List.length_nil] at hi
    rcases Nat.lt_or_ge i tl.length with c | c
    · rw [getD_snoc c]; exact h.lo i c
    · obtain rfl : i = tl.length := by omega
      rw [getD_last]; exact hm
  · simp only [List.length_append, List.length_cons, List.length_nil] at hi
    rcases Nat.lt_or_ge i tl.length with c | c
    · rw [getD_snoc c, getD_snoc (by omega)]; exact keep i (by omega) _ _ (h.row i c)
    · obtain rfl : i = tl.length := by omega
      rw [getD_last, show (th ++ [rh]).getD tl.length [] = rh by rw [← hl]; exact getD_last]
      exact keep _ (by omega) _ _ hr
theorem TabsOk.fam {g p : List Int} {tl th : List (List Int)} (h : TabsOk p.length tl th) (hn : tl.length = g.length) (hg : LinesOk (-1000000) 1000000 g) (hp : LinesOk 0 1000000 p) (g0 : 1 ≤ g.length) (g1 : g.length ≤ 40) (p0 : 1 ≤ p.length) (p1 : p.length ≤ 40) : FamOk g p tl th := by
  have hl := h.len
  have hh : ∀ i, i < tl.length → (th.getD i []).length = p.length := fun i hi => by rw [(h.row i hi).len, h.lo i hi]
  have at_ : ∀ i k, i < g.length → k < p.length → PlaceOk i tl th (tl.getD i []) (th.getD i []) k := fun i k hi hk => (h.row i (by omega)).at_ k (by rw [h.lo i (by omega)]; exact hk)
  refine ⟨hg, hp, g0, g1, p0, p1, ⟨hn, fun i hi => h.lo i (by omega)⟩, ⟨by omega, fun i hi => hh i (by omega)⟩, fun i k hi hk => ?_, fun i k hi hk => ?_, fun i k hi hk => ?_⟩
  · obtain ⟨q1, q2, _, _⟩ := at_ i k hi hk
    unfold vc
    unfold nth at q1 q2
    omega
  · obtain ⟨_, _, q3, _⟩ := at_ (i + 1) k hi hk
    exact q3 (by omega)
  · obtain ⟨_, _, _, q4⟩ := at_ i (k + 1) hi hk
    exact q4 (by omega)

end Go.Proofs.YtlfaglkkeahamaaGreat.I
