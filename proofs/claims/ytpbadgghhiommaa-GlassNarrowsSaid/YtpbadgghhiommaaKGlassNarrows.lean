/- GlassNarrows runs to true. -/
import Derived.Test.YtpbadgghhiommaaGnarrow
set_option linter.unusedVariables false
set_option maxHeartbeats 32000000
set_option linter.unusedSimpArgs false
namespace Go.Proofs.Ytpbadgghhiommaa.I
open Go.Ideal

theorem GlassNarrows_ok (l : List Int) (hl : l.length ≤ 9223372036854775807) (H : Heap) : Ev T (.call (.func (.func 15) [] []) [sl l] H) (.call (.bool true) H) := by
  refine run_pure T15 (nn_bool _) (nn_cons (sl_no _) nn_none) ?_ H
  have q := NewDice_ok l hl
  obtain ⟨s, kd⟩ := q
  have q := StuffOf_ok s
  obtain ⟨bx, x, s1, bx0, bx1, hx, kx⟩ := q
  have q := StuffOf_ok s1
  obtain ⟨by', y, s2, by0, by1, hy, ky⟩ := q
  have q := OvenOf_any s2 4 30 (by omega) (by omega) (by omega) (by omega)
  obtain ⟨f, ls, s3, fo0, fo1, hll, hlg, ko⟩ := q
  have hO := hlg.oven (f := f) (by omega) (by omega) (by omega) (by omega)
  have q := Between_any s3 1 50 (by omega) (by omega) (by omega)
  obtain ⟨k, s4, k0, k1, kk⟩ := q
  have q := Between_any s4 300 1200 (by omega) (by omega) (by omega)
  obtain ⟨u, s5, u0, u1, ku⟩ := q
  have q := LeftOf_any s5 bx x k f ls bx0 bx1 hx k0 (by omega) hO
  obtain ⟨r, s6, r0, r1, kl⟩ := q
  have q := narrower_any s6 bx x hx
  obtain ⟨n, s7, hN, kn⟩ := q
  have q := narrower_any s7 by' y hy
  obtain ⟨m, s8, hM, km⟩ := q
  have hn := hN.ok hx
  have hm := hM.ok hy
  have zn' := hN.zone hx.pos
  have zm' := hM.zone hy.pos
  have g1 := Growth_at bx0 bx1 hn (show (0 : Int) ≤ 300 by omega) (by omega) (show 0 ≤ u by omega) (show u ≤ 2000 by omega)
  have g2 := Growth_at bx0 bx1 hx (show (0 : Int) ≤ 300 by omega) (by omega) (show 0 ≤ u by omega) (show u ≤ 2000 by omega)
  have gc := gLo_le (fun t => (zn' t).gl) (fun t => (zn' t).gh) 300 u
  have st1 := Strain_at bx0 bx1 hn (k := k) k0 (by omega) hO
  have st2 := Strain_at bx0 bx1 hx (k := k) k0 (by omega) hO
  have j1 := Judge_at bx0 bx1 hx (k := k) k0 (by omega) hO r0 r1
  have j2 := Judge_at bx0 bx1 hn (k := k) k0 (by omega) hO r0 r1
  have s1' := Seal_at bx0 bx1 hx by0 by1 hy (show (0 : Int) ≤ 300 by omega) u0 (show u ≤ 2000 by omega)
  have s2' := Seal_at bx0 bx1 hn by0 by1 hm (show (0 : Int) ≤ 300 by omega) u0 (show u ≤ 2000 by omega)
  have hinx := rs_in hx (k := k) (by omega) (by omega) hO
  have hinn := rs_in hn (k := k) (by omega) (by omega) hO
  have clo := rs_lo (hs := allH f ls ls.length) (N := totT ls ls.length) hx hn (k := k) (by omega) (Int.le_refl k) (fun t => (zn' t).gl) (fun t => (zn' t).rh) (fun m hm => (hinx m hm).1.1)
  have chi := rs_hi (hs := allH f ls ls.length) (N := totT ls ls.length) hn hx (k := k) (by omega) (Int.le_refl k) (fun t => (zn' t).gh) (fun t => (zn' t).rl) (fun m hm => (hinn m hm).2.1)
  have js := judge_stays (b := bx) (left := r) (left' := r) clo chi (rs_le hn (by omega) (fun m hm => (hinn m hm).1.1)) (Int.le_refl r)
  have ss := seal_stays (a := bx) (b := by') hn hm (fun t => (zn' t).gl) (fun t => (zn' t).gh) (fun t => (zm' t).gl) (fun t => (zm' t).gh) (s := u) (f := 300) u0
  have sv := (sealV_facts bx x by' y (s := u) (f := 300) u0).2.2
  have cmp : ∀ i : Nat, i < ls.length → (at' (strL x k f ls ls.length) (i : Int)).1 ≤ (at' (strL n k f ls ls.length) (i : Int)).1 ∧ (at' (strL n k f ls ls.length) (i : Int)).2 ≤ (at' (strL x k f ls ls.length) (i : Int)).2 := fun i hi => by
    rw [strL_rs _ _ _ _ hO hi, strL_rs _ _ _ _ hO hi]
    have hm := totT_mono ls (show i + 1 ≤ ls.length by omega)
    exact ⟨clo _ hm, chi _ hm⟩
  have lx := strL_len (zs := x) (k := k) (f := f) (ls := ls) ls.length
  have ly := strL_len (zs := n) (k := k) (f := f) (ls := ls) ls.length
  clear clo chi hinx hinn
  generalize strL x k f ls ls.length = X at *
  generalize strL n k f ls ls.length = Y at *
  generalize gLo n 300 u = gn1 at *
  generalize gHi n 300 u = gn2 at *
  generalize gLo x 300 u = gx1 at *
  generalize gHi x 300 u = gx2 at *
  generalize judgeV bx x k f ls r = v at *
  generalize judgeV bx n k f ls r = w at *
  generalize sealV bx x by' y u 300 = v' at *
  generalize sealV bx n by' m u 300 = w' at *
  obtain ⟨v1, v2⟩ := v
  obtain ⟨w1, w2⟩ := w
  obtain ⟨v3, v4⟩ := v'
  obtain ⟨w3, w4⟩ := w'
  dsimp only at js ss sv j1 j2 s1' s2'
  have q1 : v1 = 3 ∨ v1 = w1 := by have := js.1; have := js.2.1 rfl; have := js.2.2; omega
  have q2 : v3 = 3 ∨ v3 = w3 := by have := ss.1; have := ss.2; omega
  have sy1 := stays_ok v1 w1
  rw [decide_eq_true q1] at sy1
  have sy2 := stays_ok v3 w3
  rw [decide_eq_true q2] at sy2
  have wg := Within_ok gn1 gn2 gx1 gx2
  rw [decide_eq_true ⟨gc.1, gc.2⟩] at wg
  have ex : (X.map er).length = X.length := List.length_map ..
  have ey : (Y.map er).length = Y.length := List.length_map ..
  have el : (ls.map lr).length = ls.length := List.length_map ..
  repeat' ((conv => whnf); first | (refine CallP.new kd ?_) | (refine CallP.one (fun H hb => kx H _ hb) rfl ?_) | (refine CallP.one (fun H hb => ky H _ hb) rfl ?_) | (refine CallP.one (fun H hb => ko H _ hb) rfl ?_) | (refine CallP.one (fun H hb => kk H _ hb) rfl ?_) | (refine CallP.one (fun H hb => ku H _ hb) rfl ?_) | (refine CallP.one (fun H hb => kl H _ hb) rfl ?_) | (refine CallP.one (fun H hb => kn H _ hb) rfl ?_) | (refine CallP.one (fun H hb => km H _ hb) rfl ?_) | (refine CallP.pure g1 ?_) | (refine CallP.pure g2 ?_) | (refine CallP.pure st1 ?_) | (refine CallP.pure st2 ?_) | (refine CallP.pure wg ?_) | (first | refine condP.dec (fun h => ?_) (fun h => ?_) | refine condP.eq (fun h => ?_) (fun h => ?_) | refine condP.ne (fun h => ?_) (fun h => ?_)) | (refine .i64 (by omega) (by omega) ?_) | (refine onSome.intro (idx_fs rfl rfl (by omega) (by omega) (fun _ => rfl)) ?_) | (refine onSome.intro (load_fs rfl (by omega) (by omega) rfl) ?_) | (refine And.intro rfl ?_))
  all_goals first | (exfalso; omega) | skip
  all_goals conv => whnf
  refine loop_rule (X := Nat) (fun i => [(3, .ptr 0 0 0), (4, .ptr 1 0 0), (5, .ptr 2 0 0), (6, .ptr 3 0 0), (7, .int .i64 k), (8, .int .i64 u), (9, .int .i64 r), (10, .ptr 4 0 0), (11, .ptr 5 0 0), (16, ersl Y), (18, ersl X), (20, .int .i64 i)])
    (fun _ => [S1 s8, .live 2 [[.int .i64 bx, zsl x]], .live 2 [[.int .i64 by', zsl y]], .live 2 [[.int .i64 f, lsl ls]], .live 2 [[.int .i64 bx, zsl n]], .live 2 [[.int .i64 by', zsl m]], .live 2 [[.int .i64 gn1, .int .i64 gn2]], .live 2 [[.int .i64 gx1, .int .i64 gx2]]]) (fun i => ls.length - i) (fun i => i ≤ ls.length) 0
    (Nat.zero_le _) ⟨rfl, rfl, rfl, rfl, rfl, rfl, rfl, rfl, rfl, rfl, rfl, rfl, trivial⟩ rfl (fun _ _ => rfl) (fun i hi => ?_)
  rcases Nat.lt_or_ge i ls.length with hlt | hge
  · have cmp := cmp i hlt
    have wi := Within_ok (at' Y (i : Int)).1 (at' Y (i : Int)).2 (at' X (i : Int)).1 (at' X (i : Int)).2
    rw [decide_eq_true ⟨cmp.1, cmp.2⟩] at wi
    have fy : ∃ p, p = at' Y (i : Int) := ⟨_, rfl⟩
    obtain ⟨py, fy⟩ := fy
    have fx : ∃ p, p = at' X (i : Int) := ⟨_, rfl⟩
    obtain ⟨px, fx⟩ := fx
    rw [← fy, ← fx] at wi
    repeat' ((conv => whnf); first | (refine condP.dec (fun _ => ?_) (fun h => absurd (by omega) h)) | (refine onSome.intro (load_fs (l := Y) (enc := er) (i := (i : Int)) (v := .agg (er py)) rfl (by omega) (by omega) (by rw [fy]; rfl)) ?_) | (refine onSome.intro (load_fs (l := X) (enc := er) (i := (i : Int)) (v := .agg (er px)) rfl (by omega) (by omega) (by rw [fx]; rfl)) ?_) | (refine CallP.pure wi ?_) | (first | refine condP.dec (fun h => ?_) (fun h => ?_) | refine condP.eq (fun h => ?_) (fun h => ?_) | refine condP.ne (fun h => ?_) (fun h => ?_)) | (refine .i64 (by omega) (by omega) ?_) | (refine onSome.intro (idx_fs rfl rfl (by omega) (by omega) (fun _ => rfl)) ?_) | (refine onSome.intro (load_fs rfl (by omega) (by omega) rfl) ?_) | (refine And.intro rfl ?_))
    all_goals first | (exfalso; omega) | skip
    all_goals conv => whnf
    all_goals exact .more (i + 1) rfl (by omega) (by omega) ⟨rfl, rfl, rfl, rfl, rfl, rfl, rfl, rfl, rfl, rfl, rfl, rfl, trivial⟩ rfl ⟨.ptr _ _ _ (by simp), .ptr _ _ _ (by simp), .ptr _ _ _ (by simp), .ptr _ _ _ (by simp), .int _ _, .int _ _, .int _ _, .ptr _ _ _ (by simp), .ptr _ _ _ (by simp), (ersl_no _).inn _, (ersl_no _).inn _, .int _ _, trivial⟩ ⟨row_inn (nn_cons (.int _ _) nn_none), row_inn (stuff_row _ _), row_inn (stuff_row _ _), row_inn (oven_row _ _), row_inn (stuff_row _ _), row_inn (stuff_row _ _), row_inn (rg_row _ _), row_inn (rg_row _ _), trivial⟩
  · obtain rfl : i = ls.length := by omega
    conv => whnf
    refine condP.dec (fun h => absurd h (by omega)) (fun _ => ?_)
    conv => whnf
    refine .done (by simp) ?_
    repeat' ((conv => whnf); first | (refine CallP.pure j1 ?_) | (refine CallP.pure j2 ?_) | (refine CallP.pure s1' ?_) | (refine CallP.pure s2' ?_) | (refine CallP.pure sy1 ?_) | (refine CallP.pure sy2 ?_) | (refine CallP.pure awake_ok ?_) | (first | refine condP.dec (fun h => ?_) (fun h => ?_) | refine condP.eq (fun h => ?_) (fun h => ?_) | refine condP.ne (fun h => ?_) (fun h => ?_)) | (refine .i64 (by omega) (by omega) ?_) | (refine onSome.intro (idx_fs rfl rfl (by omega) (by omega) (fun _ => rfl)) ?_) | (refine onSome.intro (load_fs rfl (by omega) (by omega) rfl) ?_) | (refine And.intro rfl ?_))
    all_goals first | (exfalso; omega) | skip
    all_goals conv => whnf
    all_goals exact PureP.intro (.bool true) (.inl rfl) rfl (.refl _)

end Go.Proofs.Ytpbadgghhiommaa.I
