/- Growth of glass. -/
import Derived.Test.YtpbadgghhiommaaGmath
set_option linter.unusedVariables false
set_option maxHeartbeats 4000000
set_option linter.unusedSimpArgs false
namespace Go.Proofs.Ytpbadgghhiommaa.I
open Go.Ideal

def zoneI (z : Zone) : IV := .agg (zr z)
theorem zr_no (z : Zone) : ∀ x ∈ zr z, Noname x := nn_cons (.int _ _) (nn_cons (.int _ _) (nn_cons (.int _ _) (nn_cons (.int _ _) (nn_cons (.int _ _) nn_none))))
theorem zoneI_no (z : Zone) : Noname (zoneI z) := nn_agg (zr_no z)
theorem stuff_row (b : Int) (zs : List Zone) : ∀ x ∈ [IV.int .i64 b, zsl zs], Noname x := nn_cons (.int _ _) (nn_cons (zsl_no _) nn_none)
theorem rg_row (a b : Int) : ∀ x ∈ [IV.int .i64 a, IV.int .i64 b], Noname x := nn_cons (.int _ _) (nn_cons (.int _ _) nn_none)

theorem ZoneOf_ok (b : Int) (zs : List Zone) (hp : 0 < zs.length) (hz : zs.length ≤ 9000000000000000000) (t : Int) (H : Heap) : Ev T (.call (.func (.func 56) [] []) [stuffI b zs, .int .i64 t] H) (.call (zoneI (zoneOf zs t)) H) := by
  refine run_pure T56 (zoneI_no _) (nn_cons (stuffI_no _ _) (nn_cons (nn_int _ _) nn_none)) ?_ H
  have e1 : (zs.map zr).length = zs.length := List.length_map ..
  repeat' ((conv => whnf); first | (first | refine condP.dec (fun h => ?_) (fun h => ?_) | refine condP.eq (fun h => ?_) (fun h => ?_) | refine condP.ne (fun h => ?_) (fun h => ?_)) | (refine .i64 (by omega) (by omega) ?_) | (refine onSome.intro (idx_fs rfl rfl (by omega) (by omega) (fun _ => rfl)) ?_) | (refine onSome.intro (load_fs rfl (by omega) (by omega) rfl) ?_) | (refine And.intro rfl ?_))
  refine loop_rule (X := Nat × Zone) (fun x => [(1, .int .i64 t), (2, .ptr 0 0 0), (4, .ptr 1 0 0), (5, .ptr 2 0 0), (6, .int .i64 x.1)]) (fun x => [.live 2 [[.int .i64 b, zsl zs]], .live 5 [[.int .i64 0, .int .i64 0, .int .i64 0, .int .i64 0, .int .i64 0]], .live 5 [zr x.2]]) (fun x => zs.length - x.1)
    (fun x => x.1 ≤ zs.length ∧ x.2 = zoneN zs t x.1) (0, zn zs 0) ⟨Nat.zero_le _, rfl⟩ ⟨rfl, rfl, rfl, rfl, rfl, trivial⟩ rfl (fun _ _ => rfl) (fun x hi => ?_)
  obtain ⟨i, z⟩ := x
  obtain ⟨hi, h0⟩ := hi
  dsimp only at hi h0 ⊢
  have f1 : at' zs (i : Int) = zn zs i := rfl
  repeat' ((conv => whnf); first | (first | refine condP.dec (fun h => ?_) (fun h => ?_) | refine condP.eq (fun h => ?_) (fun h => ?_) | refine condP.ne (fun h => ?_) (fun h => ?_)) | (refine .i64 (by omega) (by omega) ?_) | (refine onSome.intro (idx_fs rfl rfl (by omega) (by omega) (fun _ => rfl)) ?_) | (refine onSome.intro (load_fs rfl (by omega) (by omega) rfl) ?_) | (refine And.intro rfl ?_))
  all_goals conv => whnf
  · refine .more (i + 1, zn zs i) rfl ⟨by dsimp only; omega, ?_⟩ (by dsimp only; omega) ⟨rfl, rfl, rfl, rfl, rfl, trivial⟩ rfl ⟨.int _ _, .ptr _ _ _ (by simp), .ptr _ _ _ (by simp), .ptr _ _ _ (by simp), .int _ _, trivial⟩
      ⟨row_inn (stuff_row _ _), row_inn (zr_no ⟨0, 0, 0, 0, 0⟩), row_inn (zr_no _), trivial⟩
    dsimp only
    rw [zoneN, if_pos (by rw [← f1]; assumption)]
  · refine .more (i + 1, z) rfl ⟨by dsimp only; omega, ?_⟩ (by dsimp only; omega) ⟨rfl, rfl, rfl, rfl, rfl, trivial⟩ rfl ⟨.int _ _, .ptr _ _ _ (by simp), .ptr _ _ _ (by simp), .ptr _ _ _ (by simp), .int _ _, trivial⟩
      ⟨row_inn (stuff_row _ _), row_inn (zr_no ⟨0, 0, 0, 0, 0⟩), row_inn (zr_no _), trivial⟩
    dsimp only
    rw [zoneN, if_neg (by rw [← f1]; assumption)]; exact h0
  · obtain rfl : i = zs.length := by omega
    refine .done (by simp) ?_
    conv => whnf
    exact .intro (zoneI z) (.inl rfl) rfl (frz_eq (by rw [h0]; rfl))
theorem zone_ok (b : Int) (zs : List Zone) (hp : 0 < zs.length) (hz : zs.length ≤ 9000000000000000000) (t : Int) (H : Heap) : Ev T (.call (.func (.func 124) [] []) [stuffI b zs, .int .i64 t] H) (.call (zoneI (zoneOf zs t)) H) := by
  refine run_pure T124 (zoneI_no _) (nn_cons (stuffI_no _ _) (nn_cons (nn_int _ _) nn_none)) ?_ H
  have e1 : (zs.map zr).length = zs.length := List.length_map ..
  repeat' ((conv => whnf); first | (first | refine condP.dec (fun h => ?_) (fun h => ?_) | refine condP.eq (fun h => ?_) (fun h => ?_) | refine condP.ne (fun h => ?_) (fun h => ?_)) | (refine .i64 (by omega) (by omega) ?_) | (refine onSome.intro (idx_fs rfl rfl (by omega) (by omega) (fun _ => rfl)) ?_) | (refine onSome.intro (load_fs rfl (by omega) (by omega) rfl) ?_) | (refine And.intro rfl ?_))
  refine loop_rule (X := Nat × Zone) (fun x => [(1, .int .i64 t), (2, .ptr 0 0 0), (4, .ptr 1 0 0), (5, .ptr 2 0 0), (13, zsl zs), (14, .int .i64 zs.length), (15, .int .i64 x.1)]) (fun x => [.live 2 [[.int .i64 b, zsl zs]], .live 5 [[.int .i64 0, .int .i64 0, .int .i64 0, .int .i64 0, .int .i64 0]], .live 5 [zr x.2]]) (fun x => zs.length - x.1)
    (fun x => x.1 ≤ zs.length ∧ x.2 = zoneN zs t x.1) (0, zn zs 0) ⟨Nat.zero_le _, rfl⟩ ⟨rfl, rfl, rfl, rfl, rfl, by show i6 _ = i6 _; rw [e1], rfl, trivial⟩ rfl (fun _ _ => rfl) (fun x hi => ?_)
  obtain ⟨i, z⟩ := x
  obtain ⟨hi, h0⟩ := hi
  dsimp only at hi h0 ⊢
  have f1 : at' zs (i : Int) = zn zs i := rfl
  repeat' ((conv => whnf); first | (first | refine condP.dec (fun h => ?_) (fun h => ?_) | refine condP.eq (fun h => ?_) (fun h => ?_) | refine condP.ne (fun h => ?_) (fun h => ?_)) | (refine .i64 (by omega) (by omega) ?_) | (refine onSome.intro (idx_fs rfl rfl (by omega) (by omega) (fun _ => rfl)) ?_) | (refine onSome.intro (load_fs rfl (by omega) (by omega) rfl) ?_) | (refine And.intro rfl ?_))
  all_goals conv => whnf
  · refine .more (i + 1, zn zs i) rfl ⟨by dsimp only; omega, ?_⟩ (by dsimp only; omega) ⟨rfl, rfl, rfl, rfl, rfl, rfl, rfl, trivial⟩ rfl ⟨.int _ _, .ptr _ _ _ (by simp), .ptr _ _ _ (by simp), .ptr _ _ _ (by simp), (zsl_no _).inn _, .int _ _, .int _ _, trivial⟩
      ⟨row_inn (stuff_row _ _), row_inn (zr_no ⟨0, 0, 0, 0, 0⟩), row_inn (zr_no _), trivial⟩
    dsimp only
    rw [zoneN, if_pos (by rw [← f1]; assumption)]
  · refine .more (i + 1, z) rfl ⟨by dsimp only; omega, ?_⟩ (by dsimp only; omega) ⟨rfl, rfl, rfl, rfl, rfl, rfl, rfl, trivial⟩ rfl ⟨.int _ _, .ptr _ _ _ (by simp), .ptr _ _ _ (by simp), .ptr _ _ _ (by simp), (zsl_no _).inn _, .int _ _, .int _ _, trivial⟩
      ⟨row_inn (stuff_row _ _), row_inn (zr_no ⟨0, 0, 0, 0, 0⟩), row_inn (zr_no _), trivial⟩
    dsimp only
    rw [zoneN, if_neg (by rw [← f1]; assumption)]; exact h0
  · obtain rfl : i = zs.length := by omega
    refine .done (by simp) ?_
    conv => whnf
    exact .intro (zoneI z) (.inl rfl) rfl (frz_eq (by rw [h0]; rfl))

theorem minus_ok (a b : Int) (h0 : -1000000000000000000 ≤ a) (h1 : a ≤ 1000000000000000000) (h2 : -1000000000000000000 ≤ b) (h3 : b ≤ 1000000000000000000) (H : Heap) : Ev T (.call (.func (.func 123) [] []) [rgI a b] H) (.call (rgI (-b) (-a)) H) := by
  refine run_pure T123 (rgI_no _ _) (nn_cons (rgI_no _ _) nn_none) ?_ H
  repeat' ((conv => whnf); first | (first | refine condP.dec (fun h => ?_) (fun h => ?_) | refine condP.eq (fun h => ?_) (fun h => ?_) | refine condP.ne (fun h => ?_) (fun h => ?_)) | (refine .i64 (by omega) (by omega) ?_) | (refine onSome.intro (idx_fs rfl rfl (by omega) (by omega) (fun _ => rfl)) ?_) | (refine onSome.intro (load_fs rfl (by omega) (by omega) rfl) ?_) | (refine And.intro rfl ?_))
  conv => whnf
  exact .intro (rgI (0 - b) (0 - a)) (.inl rfl) rfl (frz_eq (by rw [show 0 - b = -b by omega, show 0 - a = -a by omega]))
theorem gl_bnd {zs : List Zone} (h : ZOk zs) : ∀ t, 0 ≤ (zoneOf zs t).gl ∧ (zoneOf zs t).gl ≤ 100000 := fun t => by have := zoneOf_gr h t; omega
theorem gh_bnd {zs : List Zone} (h : ZOk zs) : ∀ t, 0 ≤ (zoneOf zs t).gh ∧ (zoneOf zs t).gh ≤ 100000 := fun t => by have := zoneOf_gr h t; omega

theorem growUp_ok (b : Int) (zs : List Zone) (h : ZOk zs) (u v : Int) (hu : 0 ≤ u) (huv : u ≤ v) (hv : v ≤ 2000) (H : Heap) : Ev T (.call (.func (.func 95) [] []) [stuffI b zs, .int .i64 u, .int .i64 v] H) (.call (rgI (gUp Zone.gl zs u v) (gUp Zone.gh zs u v)) H) := by
  refine run_pure T95 (rgI_no _ _) (nn_cons (stuffI_no _ _) (nn_cons (nn_int _ _) (nn_cons (nn_int _ _) nn_none))) ?_ H
  have e1 : (zs.map zr).length = zs.length := List.length_map ..
  have hlen := h.len
  have hpos := h.pos
  conv => whnf
  refine condP.dec (fun q => absurd q (by omega)) (fun _ => ?_)
  repeat' ((conv => whnf); first | (first | refine condP.dec (fun h => ?_) (fun h => ?_) | refine condP.eq (fun h => ?_) (fun h => ?_) | refine condP.ne (fun h => ?_) (fun h => ?_)) | (refine .i64 (by omega) (by omega) ?_) | (refine onSome.intro (idx_fs rfl rfl (by omega) (by omega) (fun _ => rfl)) ?_) | (refine onSome.intro (load_fs rfl (by omega) (by omega) rfl) ?_) | (refine And.intro rfl ?_))
  refine loop_rule (X := Nat × Int × Int) (fun x => [(1, .int .i64 u), (2, .int .i64 v), (3, .ptr 0 0 0), (6, .ptr 1 0 0), (7, .ptr 2 0 0), (21, zsl zs), (22, .int .i64 zs.length), (23, .int .i64 x.1)]) (fun x => [.live 2 [[.int .i64 b, zsl zs]], .live 2 [[.int .i64 0, .int .i64 0]], .live 2 [[.int .i64 x.2.1, .int .i64 x.2.2]]]) (fun x => zs.length - x.1)
    (fun x => x.1 ≤ zs.length ∧ x.2.1 = gUp Zone.gl zs u (cut zs u v x.1) ∧ x.2.2 = gUp Zone.gh zs u (cut zs u v x.1)) (0, 0, 0) ⟨Nat.zero_le _, (gUp_nil _ _ _).symm, (gUp_nil _ _ _).symm⟩ ⟨rfl, rfl, rfl, rfl, rfl, rfl, by show i6 _ = i6 _; rw [e1], rfl, trivial⟩ rfl (fun _ _ => rfl) (fun x hi => ?_)
  obtain ⟨i, x1, x2⟩ := x
  obtain ⟨hi, h3, h4⟩ := hi
  dsimp only at hi h3 h4 ⊢
  conv => whnf
  refine condP.dec (fun hlt => ?_) (fun hlt => ?_)
  · have q1 := gUp_step (f := Zone.gl) h hu huv (i := i) (by omega)
    obtain ⟨c1, c2, c3, s1, ce⟩ := q1
    have q2 := gUp_step (f := Zone.gh) h hu huv (i := i) (by omega)
    obtain ⟨_, _, _, s2, _⟩ := q2
    have b1 := gUp_bound (gl_bnd h) hu (show cut zs u v i ≤ 2000 by omega)
    have b2 := gUp_bound (gh_bnd h) hu (show cut zs u v i ≤ 2000 by omega)
    have hgr := h.gr i (by omega)
    have hfr := h.fr i (by omega)
    have hfr1 : i + 1 < zs.length → 0 ≤ (zn zs (i + 1)).fr ∧ (zn zs (i + 1)).fr ≤ 2000 := fun q => h.fr (i + 1) q
    have f1 : at' zs (i : Int) = zn zs i := rfl
    have f2 : at' zs ((i : Int) + 1) = zn zs (i + 1) := rfl
    rw [← f1] at s1 s2 hgr hfr ce
    rw [← f2] at hfr1 ce
    have d0 := cut zs u v i
    have hd : ∃ d, d = cut zs u v (i + 1) - cut zs u v i := ⟨_, rfl⟩
    obtain ⟨d, hd⟩ := hd
    have m1 : 0 ≤ d * (at' zs (i : Int)).gl ∧ d * (at' zs (i : Int)).gl ≤ 200000000 := by
      have a1 := Int.mul_nonneg (show 0 ≤ d by omega) hgr.1
      have a2 := Int.mul_le_mul (show d ≤ 2000 by omega) (show (at' zs (i : Int)).gl ≤ 100000 by omega) hgr.1 (by omega)
      omega
    have m2 : 0 ≤ d * (at' zs (i : Int)).gh ∧ d * (at' zs (i : Int)).gh ≤ 200000000 := by
      have a1 := Int.mul_nonneg (show 0 ≤ d by omega) (show 0 ≤ (at' zs (i : Int)).gh by omega)
      have a2 := Int.mul_le_mul (show d ≤ 2000 by omega) (show (at' zs (i : Int)).gh ≤ 100000 by omega) (show 0 ≤ (at' zs (i : Int)).gh by omega) (by omega)
      omega
    rw [← hd, ← h3] at s1
    rw [← hd, ← h4] at s2
    rw [← hd] at ce
    rw [← h3] at b1
    rw [← h4] at b2
    have fin : ∀ (e : Int), (if i + 1 < zs.length then min v (at' zs ((i : Int) + 1)).fr else v) = e → (0 < e - max u (at' zs (i : Int)).fr → e - max u (at' zs (i : Int)).fr = d) ∧ (¬ 0 < e - max u (at' zs (i : Int)).fr → d = 0) := fun e he => ⟨fun q => ((ce e he.symm).1 q).symm, fun q => (ce e he.symm).2 (by omega)⟩
    by_cases hlast : i + 1 < zs.length
    · rw [if_pos hlast] at fin
      by_cases hm : 0 < min v (at' zs ((i : Int) + 1)).fr - max u (at' zs (i : Int)).fr
      · have hdm := (fin _ rfl).1 hm
        rw [← hdm] at s1 s2 m1 m2
        repeat' ((conv => whnf); first | (first | refine condP.dec (fun h => ?_) (fun h => ?_) | refine condP.eq (fun h => ?_) (fun h => ?_) | refine condP.ne (fun h => ?_) (fun h => ?_)) | (refine .i64 (by omega) (by omega) ?_) | (refine onSome.intro (idx_fs rfl rfl (by omega) (by omega) (fun _ => rfl)) ?_) | (refine onSome.intro (load_fs rfl (by omega) (by omega) rfl) ?_) | (refine And.intro rfl ?_))
        all_goals first | (exfalso; omega) | skip
        all_goals conv => whnf
        all_goals refine .more (i + 1, gUp Zone.gl zs u (cut zs u v (i + 1)), gUp Zone.gh zs u (cut zs u v (i + 1))) rfl ⟨by dsimp only; omega, rfl, rfl⟩ (by dsimp only; omega) ⟨rfl, rfl, rfl, rfl, rfl, rfl, rfl, rfl, trivial⟩ (by dsimp only; rw [s1, s2]; rfl) ⟨.int _ _, .int _ _, .ptr _ _ _ (by simp), .ptr _ _ _ (by simp), .ptr _ _ _ (by simp), (zsl_no _).inn _, .int _ _, .int _ _, trivial⟩ ⟨row_inn (stuff_row _ _), row_inn (rg_row 0 0), row_inn (rg_row _ _), trivial⟩
      · have hdm := (fin _ rfl).2 hm
        rw [hdm, Int.zero_mul, Int.add_zero] at s1 s2
        repeat' ((conv => whnf); first | (first | refine condP.dec (fun h => ?_) (fun h => ?_) | refine condP.eq (fun h => ?_) (fun h => ?_) | refine condP.ne (fun h => ?_) (fun h => ?_)) | (refine .i64 (by omega) (by omega) ?_) | (refine onSome.intro (idx_fs rfl rfl (by omega) (by omega) (fun _ => rfl)) ?_) | (refine onSome.intro (load_fs rfl (by omega) (by omega) rfl) ?_) | (refine And.intro rfl ?_))
        all_goals first | (exfalso; omega) | skip
        all_goals conv => whnf
        all_goals exact .more (i + 1, x1, x2) rfl ⟨by dsimp only; omega, s1.symm, s2.symm⟩ (by dsimp only; omega) ⟨rfl, rfl, rfl, rfl, rfl, rfl, rfl, rfl, trivial⟩ rfl ⟨.int _ _, .int _ _, .ptr _ _ _ (by simp), .ptr _ _ _ (by simp), .ptr _ _ _ (by simp), (zsl_no _).inn _, .int _ _, .int _ _, trivial⟩ ⟨row_inn (stuff_row _ _), row_inn (rg_row 0 0), row_inn (rg_row _ _), trivial⟩
    · rw [if_neg hlast] at fin
      by_cases hm : 0 < v - max u (at' zs (i : Int)).fr
      · have hdm := (fin _ rfl).1 hm
        rw [← hdm] at s1 s2 m1 m2
        repeat' ((conv => whnf); first | (first | refine condP.dec (fun h => ?_) (fun h => ?_) | refine condP.eq (fun h => ?_) (fun h => ?_) | refine condP.ne (fun h => ?_) (fun h => ?_)) | (refine .i64 (by omega) (by omega) ?_) | (refine onSome.intro (idx_fs rfl rfl (by omega) (by omega) (fun _ => rfl)) ?_) | (refine onSome.intro (load_fs rfl (by omega) (by omega) rfl) ?_) | (refine And.intro rfl ?_))
        all_goals first | (exfalso; omega) | skip
        all_goals conv => whnf
        all_goals refine .more (i + 1, gUp Zone.gl zs u (cut zs u v (i + 1)), gUp Zone.gh zs u (cut zs u v (i + 1))) rfl ⟨by dsimp only; omega, rfl, rfl⟩ (by dsimp only; omega) ⟨rfl, rfl, rfl, rfl, rfl, rfl, rfl, rfl, trivial⟩ (by dsimp only; rw [s1, s2]; rfl) ⟨.int _ _, .int _ _, .ptr _ _ _ (by simp), .ptr _ _ _ (by simp), .ptr _ _ _ (by simp), (zsl_no _).inn _, .int _ _, .int _ _, trivial⟩ ⟨row_inn (stuff_row _ _), row_inn (rg_row 0 0), row_inn (rg_row _ _), trivial⟩
      · have hdm := (fin _ rfl).2 hm
        rw [hdm, Int.zero_mul, Int.add_zero] at s1 s2
        repeat' ((conv => whnf); first | (first | refine condP.dec (fun h => ?_) (fun h => ?_) | refine condP.eq (fun h => ?_) (fun h => ?_) | refine condP.ne (fun h => ?_) (fun h => ?_)) | (refine .i64 (by omega) (by omega) ?_) | (refine onSome.intro (idx_fs rfl rfl (by omega) (by omega) (fun _ => rfl)) ?_) | (refine onSome.intro (load_fs rfl (by omega) (by omega) rfl) ?_) | (refine And.intro rfl ?_))
        all_goals first | (exfalso; omega) | skip
        all_goals conv => whnf
        all_goals exact .more (i + 1, x1, x2) rfl ⟨by dsimp only; omega, s1.symm, s2.symm⟩ (by dsimp only; omega) ⟨rfl, rfl, rfl, rfl, rfl, rfl, rfl, rfl, trivial⟩ rfl ⟨.int _ _, .int _ _, .ptr _ _ _ (by simp), .ptr _ _ _ (by simp), .ptr _ _ _ (by simp), (zsl_no _).inn _, .int _ _, .int _ _, trivial⟩ ⟨row_inn (stuff_row _ _), row_inn (rg_row 0 0), row_inn (rg_row _ _), trivial⟩
  · obtain rfl : i = zs.length := by omega
    rw [cut_last h] at h3 h4
    conv => whnf
    refine .done (by simp) ?_
    conv => whnf
    exact .intro (rgI x1 x2) (.inl rfl) rfl (frz_eq (by rw [h3, h4]))

end Go.Proofs.Ytpbadgghhiommaa.I
