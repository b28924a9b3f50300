/- GlassHolds runs to true. -/
import Derived.Test.YtpbadgghhiommaaGat
set_option linter.unusedVariables false
set_option maxHeartbeats 16000000
set_option linter.unusedSimpArgs false
namespace Go.Proofs.Ytpbadgghhiommaa.I
open Go.Ideal

theorem holds_loop (x y : List Zone) (hx : ZOk x) (hy : ZOk y) (a b : Int) (s f : Int) (hfs : f ≤ s) (hf : 0 ≤ f) (hs : s ≤ 2000) (p q : List Int) (hp : TrueL x p) (hq : TrueL y q) (t : Int) (h0 : f ≤ t) (h1 : t ≤ s) :
    ((sealV a x b y s f).1 = 1 → -(min a b) ≤ grownV p s t - grownV q s t ∧ grownV p s t - grownV q s t ≤ min a b) ∧ ((sealV a x b y s f).1 = 2 → (sealV a x b y s f).2 = t → ¬ (-(min a b) ≤ grownV p s t - grownV q s t ∧ grownV p s t - grownV q s t ≤ min a b)) ∧
    (-200000000 ≤ grownV p s t ∧ grownV p s t ≤ 200000000 ∧ -200000000 ≤ grownV q s t ∧ grownV q s t ≤ 200000000) := by
  have g := sealV_facts a x b y hfs
  have g1 := grown_in hp (show 0 ≤ s by omega) hs (show 0 ≤ t by omega) (show t ≤ 2000 by omega)
  have g2 := grown_in hq (show 0 ≤ s by omega) hs (show 0 ≤ t by omega) (show t ≤ 2000 by omega)
  have b1 := gLo_bound hx (show 0 ≤ s by omega) hs (show 0 ≤ t by omega) (show t ≤ 2000 by omega)
  have b2 := gLo_bound hy (show 0 ≤ s by omega) hs (show 0 ≤ t by omega) (show t ≤ 2000 by omega)
  refine ⟨fun h => ?_, fun h e => ?_, by omega⟩
  · have := g.1 h t h0 h1
    unfold Hld mLo mHi at this
    omega
  · have := (g.2.1 h).2.2
    rw [e] at this
    unfold Brk mLo mHi at this
    omega

theorem GlassHolds_ok (l : List Int) (hl : l.length ≤ 9223372036854775807) (H : Heap) : Ev T (.call (.func (.func 4) [] []) [sl l] H) (.call (.bool true) H) := by
  refine run_pure T4 (nn_bool _) (nn_cons (sl_no _) nn_none) ?_ H
  have q := NewDice_ok l hl
  obtain ⟨s, kd⟩ := q
  have q := StuffOf_ok s
  obtain ⟨bx, x, s1, bx0, bx1, hx, kx⟩ := q
  have q := StuffOf_ok s1
  obtain ⟨by', y, s2, by0, by1, hy, ky⟩ := q
  have q := Between_any s2 300 1200 (by omega) (by omega) (by omega)
  obtain ⟨u, s3, u0, u1, ku⟩ := q
  have q := Between_any s3 0 300 (by omega) (by omega) (by omega)
  obtain ⟨f, s4, f0, f1, kf⟩ := q
  have km := rMismatch_at bx0 bx1 hx by0 by1 hy (show 0 ≤ u by omega) (show u ≤ 2000 by omega) f0 (show f ≤ 2000 by omega)
  have bm := m_bound hx hy (show 0 ≤ u by omega) (show u ≤ 2000 by omega) f0 (show f ≤ 2000 by omega)
  generalize mLo x y u f = r1 at *
  generalize mHi x y u f = r2 at *
  have q := Upto_any s4 3 (by omega)
  obtain ⟨w, s5, w0, w1, kw⟩ := q
  have e1 : ∃ n, n = (if (if r2 < -r1 then -r1 else r2) < 1 then 1 else (if r2 < -r1 then -r1 else r2)) := ⟨_, rfl⟩
  obtain ⟨n, e1⟩ := e1
  have g1 : 1 ≤ n ∧ n ≤ 400000000 := by
    rw [e1]
    repeat' split
    all_goals omega
  have e2 : ∃ A, A = max 1 (n - w) := ⟨_, rfl⟩
  obtain ⟨A, e2⟩ := e2
  have ks := Seal_at (a := A) (b := n) (by omega) (by omega) hx (by omega) (by omega) hy f0 (show f ≤ u by omega) (show u ≤ 2000 by omega)
  have q := truly_any s5 A x hx
  obtain ⟨p, s6, hp, kp⟩ := q
  have q := truly_any s6 n y hy
  obtain ⟨q, s7, hq, kq⟩ := q
  have fv := sealV_facts A x n y (show f ≤ u by omega)
  have hl := fun t h0 h1 => holds_loop x y hx hy A n u f (by omega) f0 (by omega) p q hp hq t h0 h1
  have hV : ∃ V, V = sealV A x n y u f := ⟨_, rfl⟩
  obtain ⟨V, hV⟩ := hV
  rw [← hV] at ks fv hl
  clear hV
  obtain ⟨V1, V2⟩ := V
  dsimp only at ks fv hl
  have bnd : ∀ (zs : List Zone) (tl : List Int), ZOk zs → TrueL zs tl → ∀ t : Int, 0 ≤ t → t < tl.length → -100000 ≤ at' tl t ∧ at' tl t ≤ 100000 := fun zs tl hz ht t t0 t1 => by
    have h1 := ht.at_ t t0 (by have := ht.len; omega)
    have h2 := zoneOf_gr hz t
    omega
  have kg := fun t t0 t1 => grown_ok p hp.len (bnd x p hx hp) u t (by omega) (by omega) t0 t1
  have kh := fun t t0 t1 => grown_ok q hq.len (bnd y q hy hq) u t (by omega) (by omega) t0 t1
  have z : (0 : Int) - r1 = -r1 := by omega
  repeat' ((conv => whnf); first | (refine CallP.new kd ?_) | (refine CallP.one (fun H hb => kx H _ hb) rfl ?_) | (refine CallP.one (fun H hb => ky H _ hb) rfl ?_) | (refine CallP.one (fun H hb => ku H _ hb) rfl ?_) | (refine CallP.one (fun H hb => kf H _ hb) rfl ?_) | (refine CallP.pure km ?_) | (rw [z]) | (rw [← e1]) | (rw [← e2]) | (refine condP.dec (fun _ => ?_) (fun h => absurd (by omega) h)) | (refine CallP.one (fun H hb => kw H _ hb) rfl ?_) | (refine CallP.pure ks ?_) | (refine CallP.one (fun H hb => kp H _ hb) rfl ?_) | (refine CallP.one (fun H hb => kq H _ hb) rfl ?_) | (first | refine condP.dec (fun h => ?_) (fun h => ?_) | refine condP.eq (fun h => ?_) (fun h => ?_) | refine condP.ne (fun h => ?_) (fun h => ?_)) | (refine .i64 (by omega) (by omega) ?_) | (refine onSome.intro (idx_fs rfl rfl (by omega) (by omega) (fun _ => rfl)) ?_) | (refine onSome.intro (load_fs rfl (by omega) (by omega) rfl) ?_) | (refine And.intro rfl ?_))
  all_goals first | (exfalso; omega) | skip
  all_goals (
    conv => whnf
    refine loop_rule (X := Int) (fun t => [(6, .int .i64 u), (11, .int .i64 V1), (12, .int .i64 V2), (14, sl p), (15, sl q), (16, .int .i64 (min A n)), (17, .int .i64 t)]) (fun _ => [S1 s7, .live 2 [[.int .i64 A, zsl x]], .live 2 [[.int .i64 n, zsl y]], .live 2 [[.int .i64 r1, .int .i64 r2]]])
      (fun t => (u + 1 - t).toNat) (fun t => f ≤ t ∧ t ≤ u + 1) f ⟨by omega, by omega⟩ ⟨rfl, rfl, rfl, rfl, rfl, rfl, rfl, trivial⟩ rfl (fun _ _ => rfl) (fun t ht => ?_)
    obtain ⟨t0, t1⟩ := ht
    by_cases hlt : t ≤ u
    · have hl := hl t t0 hlt
      have kg := kg t (by omega) (by omega)
      have kh := kh t (by omega) (by omega)
      generalize grownV p u t = G at *
      generalize grownV q u t = Q at *
      repeat' ((conv => whnf); first | (refine CallP.pure kg ?_) | (refine CallP.pure kh ?_) | (first | refine condP.dec (fun h => ?_) (fun h => ?_) | refine condP.eq (fun h => ?_) (fun h => ?_) | refine condP.ne (fun h => ?_) (fun h => ?_)) | (refine .i64 (by omega) (by omega) ?_) | (refine onSome.intro (idx_fs rfl rfl (by omega) (by omega) (fun _ => rfl)) ?_) | (refine onSome.intro (load_fs rfl (by omega) (by omega) rfl) ?_) | (refine And.intro rfl ?_))
      all_goals first | (exfalso; omega) | skip
      all_goals conv => whnf
      all_goals exact .more (t + 1) rfl ⟨by omega, by omega⟩ (by omega) ⟨rfl, rfl, rfl, rfl, rfl, rfl, rfl, trivial⟩ rfl ⟨.int _ _, .int _ _, .int _ _, (sl_no _).inn _, (sl_no _).inn _, .int _ _, .int _ _, trivial⟩ ⟨row_inn (nn_cons (.int _ _) nn_none), row_inn (stuff_row _ _), row_inn (stuff_row _ _), row_inn (rg_row _ _), trivial⟩
    · repeat' ((conv => whnf); first | (refine CallP.pure awake_ok ?_) | (first | refine condP.dec (fun h => ?_) (fun h => ?_) | refine condP.eq (fun h => ?_) (fun h => ?_) | refine condP.ne (fun h => ?_) (fun h => ?_)) | (refine .i64 (by omega) (by omega) ?_) | (refine onSome.intro (idx_fs rfl rfl (by omega) (by omega) (fun _ => rfl)) ?_) | (refine onSome.intro (load_fs rfl (by omega) (by omega) rfl) ?_) | (refine And.intro rfl ?_))
      all_goals first | (exfalso; omega) | skip
      refine .done (by simp) ?_
      repeat' ((conv => whnf); first | (refine CallP.pure awake_ok ?_) | (first | refine condP.dec (fun h => ?_) (fun h => ?_) | refine condP.eq (fun h => ?_) (fun h => ?_) | refine condP.ne (fun h => ?_) (fun h => ?_)) | (refine .i64 (by omega) (by omega) ?_) | (refine onSome.intro (idx_fs rfl rfl (by omega) (by omega) (fun _ => rfl)) ?_) | (refine onSome.intro (load_fs rfl (by omega) (by omega) rfl) ?_) | (refine And.intro rfl ?_))
      all_goals conv => whnf
      all_goals exact PureP.intro (.bool true) (.inl rfl) rfl (.refl _))

end Go.Proofs.Ytpbadgghhiommaa.I
