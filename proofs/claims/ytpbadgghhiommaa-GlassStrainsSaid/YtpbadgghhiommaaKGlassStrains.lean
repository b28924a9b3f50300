/- GlassStrains runs to true. -/
import Derived.Test.YtpbadgghhiommaaGkit2
import Derived.Test.YtpbadgghhiommaaKGlassRelaxes
set_option linter.unusedVariables false
set_option maxHeartbeats 32000000
set_option linter.unusedSimpArgs false
namespace Go.Proofs.Ytpbadgghhiommaa.I
open Go.Ideal

theorem soak_pair (b : Int) (zs : List Zone) (hz : zs.length ≤ 30) (lo hi t lim : Int) : ∃ e x y : Int, (∀ H, Ev T (.call (.func (.func 54) [] []) [stuffI b zs, rgI lo hi, .int .i64 t, .int .i64 lim] H) (.call (errRg e x y) H)) ∧
    ∀ H, Ev T (.call (.func (.func 113) [] []) [stuffI b zs, rgI lo hi, .int .i64 t, .int .i64 lim] H) (.call (errRg e x y) H) := ⟨_, _, _, Soak_ok b zs (by omega) lo hi t lim, rSoak_ok b zs (by omega) lo hi t lim⟩
theorem strain_pair (b : Int) (zs : List Zone) (hz : zs.length ≤ 30) (k f : Int) (ls : List Leg) (hl : ls.length ≤ 30) : ∃ (e : Int) (l : List (Int × Int)), l.length ≤ 30 ∧ (∀ H, Ev T (.call (.func (.func 68) [] []) [stuffI b zs, .int .i64 k, ovenI f ls] H) (.call (resL e l) H)) ∧
    ∀ H, Ev T (.call (.func (.func 73) [] []) [stuffI b zs, .int .i64 k, ovenI f ls] H) (.call (resL e l) H) := by
  refine ⟨_, _, ?_, Strain_ok b zs (by omega) k f ls (by omega), rStrain_ok b zs (by omega) k f ls (by omega)⟩
  split
  · rw [strL_len]; exact hl
  · exact Nat.zero_le _
theorem judge_pair (b : Int) (zs : List Zone) (hz : zs.length ≤ 30) (k f : Int) (ls : List Leg) (hl : ls.length ≤ 30) (left : Int) : ∃ v w e : Int, (∀ H, Ev T (.call (.func (.func 69) [] []) [stuffI b zs, .int .i64 k, ovenI f ls, .int .i64 left] H) (.call (ierr v w e) H)) ∧
    ∀ H, Ev T (.call (.func (.func 74) [] []) [stuffI b zs, .int .i64 k, ovenI f ls, .int .i64 left] H) (.call (ierr v w e) H) := ⟨_, _, _, Judge_ok b zs (by omega) k f ls (by omega) left, rJudge_ok b zs (by omega) k f ls (by omega) left⟩
theorem soaks_ok (b : Int) (zs : List Zone) (hz : zs.length ≤ 30) (lo hi t lim : Int) (l : List Int) (ht0 : -9223372036854775808 ≤ t) (ht1 : t ≤ 9223372036854775807) (hm0 : -9223372036854775808 ≤ lim) (hm1 : lim ≤ 9223372036854775807) (hl : l.length ≤ 9223372036854775807) (H : Heap) :
    Ev T (.call (.func (.func 76) [] []) [stuffI b zs, rgI lo hi, .int .i64 t, .int .i64 lim, sl l] H) (.call (.bool true) H) := by
  refine run_pure T76 (nn_bool _) (nn_cons (stuffI_no _ _) (nn_cons (rgI_no _ _) (nn_cons (nn_int _ _) (nn_cons (nn_int _ _) (nn_cons (sl_no _) nn_none))))) ?_ H
  have q := NewDice_ok l hl
  obtain ⟨s, kd⟩ := q
  have q := StuffOf_ok s
  obtain ⟨bx, x, s1, bx0, bx1, hx, kx⟩ := q
  have q := soak_pair b zs hz lo hi t lim
  obtain ⟨e1, x1, y1, k1, k1r⟩ := q
  have q := Upto_any s1 3 (by omega)
  obtain ⟨u, s2, u0, u1, ku⟩ := q
  have hb3 : 99 ≤ at' [(99 : Int), 100000, 1099511627776] u ∧ at' [(99 : Int), 100000, 1099511627776] u ≤ 1099511627776 := by
    have : u = 0 ∨ u = 1 ∨ u = 2 := by omega
    rcases this with rfl | rfl | rfl <;> simp [at']
  have hy : ∃ m, m = at' [(99 : Int), 100000, 1099511627776] u := ⟨_, rfl⟩
  obtain ⟨m, hy⟩ := hy
  rw [← hy] at hb3
  have q := Range_any s2 0 m (by omega) (by omega) (by omega)
  obtain ⟨r, w, s3, r0, r1, r2, kr⟩ := q
  have ma := Mod_ok t 2001 ht0 ht1 (by omega) (by omega)
  have mb := Mod_ok lim (w + 2) hm0 hm1 (by omega) (by omega)
  generalize modI t 2001 = t' at *
  generalize modI lim (w + 2) = lim' at *
  have q := soak_pair bx x (by have := hx.len; omega) r w t' lim'
  obtain ⟨e2, x2, y2, k2, k2r⟩ := q
  repeat' ((conv => whnf); first | (refine CallP.new kd ?_) | (refine CallP.one (fun H hb => kx H _ hb) rfl ?_) | (refine CallP.one (fun H hb => ku H _ hb) rfl ?_) | (refine onSome.intro (idx_ms rfl rfl rfl (by omega) (by omega)) ?_) | (refine onSome.intro (load_ms (l := [(99 : Int), 100000, 1099511627776]) (enc := ei) (i := u) (v := .int .i64 m) rfl rfl (by omega) (by simp; omega) (by rw [hy]; rfl)) ?_) | (refine CallP.one (fun H hb => kr H _ hb) rfl ?_) | (refine CallP.pure ma ?_) | (refine CallP.pure mb ?_) | (refine CallP.pure k1 ?_) | (refine CallP.pure k1r ?_) | (refine CallP.pure k2 ?_) | (refine CallP.pure k2r ?_) | (refine condP.same2 ?_) | (refine condP.same1 ?_) | (first | refine condP.dec (fun h => ?_) (fun h => ?_) | refine condP.eq (fun h => ?_) (fun h => ?_) | refine condP.ne (fun h => ?_) (fun h => ?_)) | (refine .i64 (by omega) (by omega) ?_) | (refine onSome.intro (idx_fs rfl rfl (by omega) (by omega) (fun _ => rfl)) ?_) | (refine onSome.intro (load_fs rfl (by omega) (by omega) rfl) ?_) | (refine And.intro rfl ?_))
  all_goals first | (exfalso; omega) | skip
  all_goals conv => whnf
  all_goals exact PureP.intro (.bool true) (.inl rfl) rfl (.refl _)

theorem GlassStrains_ok (b1 : Int) (z1 : List Zone) (k : Int) (f0 : Int) (l0 : List Leg) (left lo hi t : Int) (nums : List Int) (h1 : z1.length ≤ 9223372036854775807) (hk0 : -9223372036854775808 ≤ k) (hk1 : k ≤ 9223372036854775807) (h2 : l0.length ≤ 9223372036854775807)
    (hf0 : -9223372036854775808 ≤ left) (hf1 : left ≤ 9223372036854775807) (ht0 : -9223372036854775808 ≤ t) (ht1 : t ≤ 9223372036854775807) (hn : nums.length ≤ 9223372036854775807) (H : Heap) :
    Ev T (.call (.func (.func 16) [] []) [stuffI b1 z1, .int .i64 k, ovenI f0 l0, .int .i64 left, rgI lo hi, .int .i64 t, sl nums] H) (.call (.bool true) H) := by
  refine run_pure T16 (nn_bool _) (nn_cons (stuffI_no _ _) (nn_cons (nn_int _ _) (nn_cons (ovenI_no _ _) (nn_cons (nn_int _ _) (nn_cons (rgI_no _ _) (nn_cons (nn_int _ _) (nn_cons (sl_no _) nn_none))))))) ?_ H
  have e1 : (z1.map zr).length = z1.length := List.length_map ..
  have e2 : (l0.map lr).length = l0.length := List.length_map ..
  by_cases hlong : z1.length ≤ 30 ∧ l0.length ≤ 30
  rotate_left
  · repeat' ((conv => whnf); first | (refine CallP.pure awake_ok ?_) | (first | refine condP.dec (fun h => ?_) (fun h => ?_) | refine condP.eq (fun h => ?_) (fun h => ?_) | refine condP.ne (fun h => ?_) (fun h => ?_)) | (refine .i64 (by omega) (by omega) ?_) | (refine onSome.intro (idx_fs rfl rfl (by omega) (by omega) (fun _ => rfl)) ?_) | (refine onSome.intro (load_fs rfl (by omega) (by omega) rfl) ?_) | (refine And.intro rfl ?_))
    all_goals first | (exfalso; omega) | skip
    all_goals conv => whnf
    all_goals exact PureP.intro (.bool true) (.inl rfl) rfl (.refl _)
  obtain ⟨l1, l2⟩ := hlong
  have q := NewDice_ok nums hn
  obtain ⟨s, kd⟩ := q
  have q := StuffOf_ok s
  obtain ⟨bx, x, s1, bx0, bx1, hx, kx⟩ := q
  have q := OvenOf_any s1 6 60 (by omega) (by omega) (by omega) (by omega)
  obtain ⟨f, ls, s2, fo0, fo1, hll, hlg, ko⟩ := q
  have hO := hlg.oven (f := f) (by omega) (by omega) (by omega) (by omega)
  have q := Upto_any s2 2 (by omega)
  obtain ⟨u, s3, u0, u1, ku⟩ := q
  have hb3 : 20 ≤ at' [(20 : Int), 1000] u ∧ at' [(20 : Int), 1000] u ≤ 1000 := by
    have : u = 0 ∨ u = 1 := by omega
    rcases this with rfl | rfl <;> simp [at']
  have hy : ∃ m, m = at' [(20 : Int), 1000] u := ⟨_, rfl⟩
  obtain ⟨m, hy⟩ := hy
  rw [← hy] at hb3
  have q := Between_any s3 1 m (by omega) (by omega) (by omega)
  obtain ⟨w, s4, w0, w1, kw⟩ := q
  have q := LeftOf_any s4 bx x w f ls bx0 bx1 hx w0 (by omega) hO
  obtain ⟨r, s5, r0, r1, kl⟩ := q
  have q := strain_pair b1 z1 l1 k f0 l0 l2
  obtain ⟨a1, a2, a3, ks, ksr⟩ := q
  have q := judge_pair b1 z1 l1 k f0 l0 l2 left
  obtain ⟨c1, c2, c3, kj, kjr⟩ := q
  have q := strain_pair bx x (by have := hx.len; omega) w f ls (by omega)
  obtain ⟨d1, d2, d3, ks2, ks2r⟩ := q
  have q := judge_pair bx x (by have := hx.len; omega) w f ls (by omega) r
  obtain ⟨g1, g2, g3, kj2, kj2r⟩ := q
  have sm1 := same_ranges a2 (by omega)
  have sm2 := same_ranges d2 (by omega)
  have kso := soaks_ok b1 z1 l1 lo hi t left nums ht0 ht1 hf0 hf1 hn
  repeat' ((conv => whnf); first | (refine condP.same1 ?_) | (refine condP.differ1 ?_) | (refine condP.dec (fun h => absurd h (by omega)) (fun _ => ?_)) | (refine CallP.new kd ?_) | (refine CallP.one (fun H hb => kx H _ hb) rfl ?_) | (refine CallP.one (fun H hb => ko H _ hb) rfl ?_) | (refine CallP.one (fun H hb => ku H _ hb) rfl ?_) | (refine onSome.intro (idx_ms rfl rfl rfl (by omega) (by omega)) ?_) | (refine onSome.intro (load_ms (l := [(20 : Int), 1000]) (enc := ei) (i := u) (v := .int .i64 m) rfl rfl (by omega) (by simp; omega) (by rw [hy]; rfl)) ?_) | (refine CallP.one (fun H hb => kw H _ hb) rfl ?_) | (refine CallP.one (fun H hb => kl H _ hb) rfl ?_) | (refine loop_step ?_) | (refine CallP.pure ks ?_) | (refine CallP.pure ksr ?_) | (refine CallP.pure kj ?_) | (refine CallP.pure kjr ?_) | (refine CallP.pure ks2 ?_) | (refine CallP.pure ks2r ?_) | (refine CallP.pure kj2 ?_) | (refine CallP.pure kj2r ?_) | (refine CallP.pure sm1 ?_) | (refine CallP.pure sm2 ?_) | (refine CallP.pure kso ?_) | (refine CallP.pure awake_ok ?_) | (first | refine condP.dec (fun h => ?_) (fun h => ?_) | refine condP.eq (fun h => ?_) (fun h => ?_) | refine condP.ne (fun h => ?_) (fun h => ?_)) | (refine .i64 (by omega) (by omega) ?_) | (refine onSome.intro (idx_fs rfl rfl (by omega) (by omega) (fun _ => rfl)) ?_) | (refine onSome.intro (load_fs rfl (by omega) (by omega) rfl) ?_) | (refine And.intro rfl ?_))
  all_goals first | (exfalso; omega) | skip
  all_goals conv => whnf
  all_goals exact PureP.intro (.bool true) (.inl rfl) rfl (.refl _)

end Go.Proofs.Ytpbadgghhiommaa.I
