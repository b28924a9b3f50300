/- Nets that are made of numbers. -/
import Derived.Test.YtlfaglkkeahamaaGreatNawake
import Derived.Test.YtlfaglkkeahamaaGreatKfamof
set_option linter.unusedVariables false
set_option maxHeartbeats 16000000
set_option linter.unusedSimpArgs false
namespace Go.Proofs.YtlfaglkkeahamaaGreat.I
open Go.Ideal

theorem About_any (s n by_ lo hi : Int) (h : lo ≤ hi) (h0 : -1000000 ≤ lo) (h1 : hi ≤ 1000000) (n0 : -1000000 ≤ n) (n1 : n ≤ 1000000) (b0 : 0 ≤ by_) (b1 : by_ ≤ 1000000) : ∃ (r : Rg) (s' : Int), r.Ok lo hi ∧ r.hi ≤ max n lo + by_ ∧
    ∀ (H : Heap) (b : Nat), H b = S1 s → Ev T (.call (.func (.func 70) [] []) [.ptr b 0 0, .int .i64 n, .int .i64 by_, .int .i64 lo, .int .i64 hi] H) (.call r.I (H.set b (S1 s'))) := by
  have key := run_one_some T70 (i := 0) (off := 0) (args := [.int .i64 n, .int .i64 by_, .int .i64 lo, .int .i64 hi]) (s := S1 s) (P := fun v z => ∃ (r : Rg) (s' : Int), v = r.I ∧ z = S1 s' ∧ r.Ok lo hi ∧ r.hi ≤ max n lo + by_)
    (nn_cons (nn_int _ _) (nn_cons (nn_int _ _) (nn_cons (nn_int _ _) (nn_cons (nn_int _ _) nn_none)))) (S1_no _) (by
    have q := One_any s 2 (by omega)
    obtain ⟨w, s1, k0⟩ := q
    have q := Upto_any s1 (by_ + 1) (by omega)
    obtain ⟨x, s2, x0, x1, k1⟩ := q
    have q := Upto_any s2 (by_ + 1) (by omega)
    obtain ⟨y, s3, y0, y1, k2⟩ := q
    cases w
    · repeat' ((conv => whnf); first | (refine CallP.one (fun H hb => k0 H _ hb) rfl ?_) | (refine CallP.one (fun H hb => k1 H _ hb) rfl ?_) | (refine CallP.one (fun H hb => k2 H _ hb) rfl ?_) | (first | refine condP.dec (fun h => ?_) (fun h => ?_) | refine condP.eq (fun h => ?_) (fun h => ?_) | refine condP.ne (fun h => ?_) (fun h => ?_)) | (refine .i64 (by omega) (by omega) ?_) | (refine onSome.intro (idx_fs rfl rfl (by omega) (by omega) (fun _ => rfl)) ?_) | (refine onSome.intro (load_fs rfl (by omega) (by omega) rfl) ?_) | (refine And.intro rfl ?_))
      conv => whnf
      exact .intro (Rg.I ⟨max lo (min (max n lo) hi - x), min hi (min (max n lo) hi + y)⟩) (S1 s3) ⟨_, s3, rfl, rfl, ⟨by dsimp only; omega, by dsimp only; omega, by dsimp only; omega⟩, by dsimp only; omega⟩ (Rg.I_no _) (S1_no _) (.one (.inl rfl) rfl rfl (.refl _) (Rg.I_no _))
    · repeat' ((conv => whnf); first | (refine CallP.one (fun H hb => k0 H _ hb) rfl ?_) | (first | refine condP.dec (fun h => ?_) (fun h => ?_) | refine condP.eq (fun h => ?_) (fun h => ?_) | refine condP.ne (fun h => ?_) (fun h => ?_)) | (refine .i64 (by omega) (by omega) ?_) | (refine onSome.intro (idx_fs rfl rfl (by omega) (by omega) (fun _ => rfl)) ?_) | (refine onSome.intro (load_fs rfl (by omega) (by omega) rfl) ?_) | (refine And.intro rfl ?_))
      conv => whnf
      exact .intro (Rg.I ⟨min (max n lo) hi, min (max n lo) hi⟩) (S1 s1) ⟨_, s1, rfl, rfl, ⟨by dsimp only; omega, by dsimp only; omega, by dsimp only; omega⟩, by dsimp only; omega⟩ (Rg.I_no _) (S1_no _) (.one (.inl rfl) rfl rfl (.refl _) (Rg.I_no _)))
  obtain ⟨v, z, ⟨r, s', rfl, rfl, h1, h2⟩, _, _, k⟩ := key
  exact ⟨r, s', h1, h2, fun H b hb => k H b hb⟩
end Go.Proofs.YtlfaglkkeahamaaGreat.I
