/- Growth, mismatch and seals of valid stuffs. -/
import Derived.Test.YtpbadgghhiommaaGtruly
import Derived.Test.YtpbadgghhiommaaGawake
set_option linter.unusedVariables false
set_option maxHeartbeats 8000000
set_option linter.unusedSimpArgs false
namespace Go.Proofs.Ytpbadgghhiommaa.I
open Go.Ideal

theorem bare_rg (a b : Int) : Bare (rgI a b) := .aggL (.cons (.int _ _) (.cons (.int _ _) .nil))
theorem bare_err (e a b : Int) : Bare (errRg e a b) := .tupleL (.cons (bare_rg _ _) (.cons (.int _ _) .nil))
theorem zif_0 (n : Int) : zif 0 n = n := if_pos rfl
theorem Growth_at {b : Int} {zs : List Zone} (hb0 : 1 ≤ b) (hb1 : b ≤ 1000000000) (h : ZOk zs) {u v : Int} (hu : 0 ≤ u) (hu1 : u ≤ 2000) (hv : 0 ≤ v) (hv1 : v ≤ 2000) (H : Heap) : Ev T (.call (.func (.func 47) [] []) [stuffI b zs, .int .i64 u, .int .i64 v] H) (.call (errRg 0 (gLo zs u v) (gHi zs u v)) H) := by
  have k := Growth_ok b zs (by have := h.len; omega) u v H
  have e : growE b zs u v = 0 := by
    unfold growE Outs
    rw [if_neg (by rw [check_ok hb0 hb1 h]; simp), if_neg (by omega)]
  rw [e, zif_0, zif_0] at k
  exact k
theorem pair_ok {a b : Int} {x y : List Zone} (ha0 : 1 ≤ a) (ha1 : a ≤ 1000000000) (hx : ZOk x) (hb0 : 1 ≤ b) (hb1 : b ≤ 1000000000) (hy : ZOk y) {u v : Int} (hu : 0 ≤ u) (hu1 : u ≤ 2000) (hv : 0 ≤ v) (hv1 : v ≤ 2000) : pairE a x b y u v = 0 := by
  unfold pairE Outs
  rw [if_neg (by rw [check_ok ha0 ha1 hx]; simp), if_neg (by rw [check_ok hb0 hb1 hy]; simp), if_neg (by omega)]
theorem Mismatch_at {a b : Int} {x y : List Zone} (ha0 : 1 ≤ a) (ha1 : a ≤ 1000000000) (hx : ZOk x) (hb0 : 1 ≤ b) (hb1 : b ≤ 1000000000) (hy : ZOk y) {u v : Int} (hu : 0 ≤ u) (hu1 : u ≤ 2000) (hv : 0 ≤ v) (hv1 : v ≤ 2000) (H : Heap) :
    Ev T (.call (.func (.func 45) [] []) [stuffI a x, stuffI b y, .int .i64 u, .int .i64 v] H) (.call (errRg 0 (mLo x y u v) (mHi x y u v)) H) := by
  have k := Mismatch_ok a x b y (by have := hx.len; omega) (by have := hy.len; omega) u v H
  rw [pair_ok ha0 ha1 hx hb0 hb1 hy hu hu1 hv hv1, zif_0, zif_0] at k
  exact k
theorem rMismatch_at {a b : Int} {x y : List Zone} (ha0 : 1 ≤ a) (ha1 : a ≤ 1000000000) (hx : ZOk x) (hb0 : 1 ≤ b) (hb1 : b ≤ 1000000000) (hy : ZOk y) {u v : Int} (hu : 0 ≤ u) (hu1 : u ≤ 2000) (hv : 0 ≤ v) (hv1 : v ≤ 2000) (H : Heap) :
    Ev T (.call (.func (.func 40) [] []) [stuffI a x, stuffI b y, .int .i64 u, .int .i64 v] H) (.call (errRg 0 (mLo x y u v) (mHi x y u v)) H) := by
  have k := rMismatch_ok a x b y (by have := hx.len; omega) (by have := hy.len; omega) u v H
  rw [pair_ok ha0 ha1 hx hb0 hb1 hy hu hu1 hv hv1, zif_0, zif_0] at k
  exact k
theorem m_bound {x y : List Zone} (hx : ZOk x) (hy : ZOk y) {u v : Int} (hu : 0 ≤ u) (hu1 : u ≤ 2000) (hv : 0 ≤ v) (hv1 : v ≤ 2000) : -400000000 ≤ mLo x y u v ∧ mLo x y u v ≤ 400000000 ∧ -400000000 ≤ mHi x y u v ∧ mHi x y u v ≤ 400000000 := by
  have b1 := gLo_bound hx hu hu1 hv hv1
  have b2 := gLo_bound hy hu hu1 hv hv1
  unfold mLo mHi
  omega
theorem Seal_at {a b : Int} {x y : List Zone} (ha0 : 1 ≤ a) (ha1 : a ≤ 1000000000) (hx : ZOk x) (hb0 : 1 ≤ b) (hb1 : b ≤ 1000000000) (hy : ZOk y) {s f : Int} (hf : 0 ≤ f) (hfs : f ≤ s) (hs : s ≤ 2000) (H : Heap) :
    Ev T (.call (.func (.func 41) [] []) [stuffI a x, stuffI b y, .int .i64 s, .int .i64 f] H) (.call (ierr (sealV a x b y s f).1 (sealV a x b y s f).2 0) H) := by
  have k := Seal_ok a x b y (by have := hx.len; omega) (by have := hy.len; omega) s f H
  have e : sealE a x b y s f = 0 := by
    unfold sealE
    rw [pair_ok ha0 ha1 hx hb0 hb1 hy (by omega) hs hf (by omega), if_neg (by simp), if_neg (by omega)]
  rw [e, zif_0, zif_0] at k
  exact k
theorem sealG_facts {x y : List Zone} {s lim : Int} : ∀ (n : Nat) (t v a : Int), v = 1 ∨ v = 3 → ((sealG x y s lim n t v a).1 = 1 → v = 1 ∧ ∀ t', t - n < t' → t' ≤ t → Hld x y s lim t') ∧ ((sealG x y s lim n t v a).1 = 2 → t - n < (sealG x y s lim n t v a).2 ∧ (sealG x y s lim n t v a).2 ≤ t ∧ Brk x y s lim (sealG x y s lim n t v a).2) ∧
    ((sealG x y s lim n t v a).1 = 1 ∨ (sealG x y s lim n t v a).1 = 2 ∨ (sealG x y s lim n t v a).1 = 3)
  | 0, t, v, a, hv => by
    refine ⟨fun h => ⟨h, fun t' h1 h2 => by omega⟩, fun h => ?_, ?_⟩
    · simp only [sealG] at h; omega
    · simp only [sealG]; omega
  | n + 1, t, v, a, hv => by
    simp only [sealG]
    split
    · rename_i h
      exact ⟨fun q => by simp at q, fun _ => ⟨by dsimp only; omega, Int.le_refl _, h⟩, by simp⟩
    · rename_i hb
      split
      · rename_i h
        have ih := sealG_facts (x := x) (y := y) (s := s) (lim := lim) n (t - 1) 3 t (.inr rfl)
        refine ⟨fun q => ?_, fun q => ?_, ih.2.2⟩
        · have := (ih.1 q).1; omega
        · have := ih.2.1 q; exact ⟨by omega, by omega, this.2.2⟩
      · rename_i h
        have ih := sealG_facts (x := x) (y := y) (s := s) (lim := lim) n (t - 1) v a hv
        refine ⟨fun q => ?_, fun q => ?_, ih.2.2⟩
        · obtain ⟨h1, h2⟩ := ih.1 q
          refine ⟨h1, fun t' a1 a2 => ?_⟩
          by_cases c : t' = t
          · subst c
            exact Classical.byContradiction fun z => h ⟨h1, z⟩
          · exact h2 t' (by omega) (by omega)
        · have := ih.2.1 q; exact ⟨by omega, by omega, this.2.2⟩
theorem sealV_facts (a : Int) (x : List Zone) (b : Int) (y : List Zone) {s f : Int} (hfs : f ≤ s) : ((sealV a x b y s f).1 = 1 → ∀ t, f ≤ t → t ≤ s → Hld x y s (min a b) t) ∧ ((sealV a x b y s f).1 = 2 → f ≤ (sealV a x b y s f).2 ∧ (sealV a x b y s f).2 ≤ s ∧ Brk x y s (min a b) (sealV a x b y s f).2) ∧ ((sealV a x b y s f).1 = 1 ∨ (sealV a x b y s f).1 = 2 ∨ (sealV a x b y s f).1 = 3) := by
  have h := sealG_facts (x := x) (y := y) (s := s) (lim := min a b) (s - f + 1).toNat s 1 0 (.inl rfl)
  refine ⟨fun q t h1 h2 => (h.1 q).2 t (by omega) h2, fun q => ?_, h.2.2⟩
  have := h.2.1 q
  exact ⟨by show f ≤ (sealG x y s (min a b) (s - f + 1).toNat s 1 0).2; omega, this.2.1, this.2.2⟩

end Go.Proofs.Ytpbadgghhiommaa.I
