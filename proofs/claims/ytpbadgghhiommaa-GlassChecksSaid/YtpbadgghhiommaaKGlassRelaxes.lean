/- GlassRelaxes runs to true. -/
import Derived.Test.YtpbadgghhiommaaGsoak
import Derived.Test.YtpbadgghhiommaaGat
set_option linter.unusedVariables false
set_option maxHeartbeats 16000000
set_option linter.unusedSimpArgs false
namespace Go.Proofs.Ytpbadgghhiommaa.I
open Go.Ideal

theorem Range_any (s lo hi : Int) (h0 : lo ≤ hi) (h1 : -1000000000000000 ≤ lo) (h2 : hi ≤ 1000000000000000) : ∃ a b s' : Int, lo ≤ a ∧ a ≤ b ∧ b ≤ hi ∧ ∀ (H : Heap) (n : Nat), H n = S1 s → Ev T (.call (.func (.func 53) [] []) [.ptr n 0 0, .int .i64 lo, .int .i64 hi] H) (.call (rgI a b) (H.set n (S1 s'))) := by
  have b1 := dBetween_range (s := s) h0
  have b2 := dBetween_range (s := dnext s) h0
  refine ⟨min (dBetween s lo hi) (dBetween (dnext s) lo hi), max (dBetween s lo hi) (dBetween (dnext s) lo hi), dnext (dnext s), by omega, by omega, by omega, fun H n hn => ?_⟩
  refine run_one T53 (rgI_no _ _) (nn_cons (nn_int _ _) (nn_cons (nn_int _ _) nn_none)) (S1_no _) (S1_no _) ?_ H hn
  conv => whnf
  refine CallP.one (fun H hb => Between_ok s lo hi (by omega) (by omega) (by omega) (by omega) H hb) rfl ?_
  conv => whnf
  refine CallP.one (fun H hb => Between_ok (dnext s) lo hi (by omega) (by omega) (by omega) (by omega) H hb) rfl ?_
  conv => whnf
  exact .one (u := rgI _ _) (.inl rfl) rfl rfl (.refl _) (rgI_no _ _)
theorem Soak_at {b : Int} {zs : List Zone} (hb0 : 1 ≤ b) (hb1 : b ≤ 1000000000) (h : ZOk zs) {lo hi t lim : Int} (hl : 0 ≤ lo) (hlh : lo ≤ hi) (hh : hi ≤ 1099511627776) (ht : 0 ≤ t) (ht1 : t ≤ 2000) (hm : 0 ≤ lim) (hm1 : lim ≤ 1099511627776) (H : Heap) :
    Ev T (.call (.func (.func 54) [] []) [stuffI b zs, rgI lo hi, .int .i64 t, .int .i64 lim] H) (.call (errRg 0 (soakLo zs lo t lim) (soakHi zs hi t lim)) H) := by
  have k := Soak_ok b zs (by have := h.len; omega) lo hi t lim H
  have e : soakE b zs lo hi t lim = 0 := by
    unfold soakE Outs
    rw [if_neg (by rw [check_ok hb0 hb1 h]; simp), if_neg (by rw [rangeE_ok hl hlh hh]; simp), if_neg (by omega)]
  rw [e, zif_0, zif_0] at k
  exact k
theorem fst_mono (f : Nat → Int) {p q : Int} (h : p ≤ q) : fst f q ≤ fst f p := by
  by_cases c : fst f p ≤ 5000
  · have := fst_at f p c
    exact fst_min (by omega)
  · have := fst_le f q
    omega

theorem GlassRelaxes_ok (l : List Int) (a b c : Int) (hl : l.length ≤ 9223372036854775807) (ha0 : -9223372036854775808 ≤ a) (ha1 : a ≤ 9223372036854775807) (hb0 : -9223372036854775808 ≤ b) (hb1 : b ≤ 9223372036854775807) (hc0 : -9223372036854775808 ≤ c) (hc1 : c ≤ 9223372036854775807) (H : Heap) :
    Ev T (.call (.func (.func 9) [] []) [sl l, .int .i64 a, .int .i64 b, .int .i64 c] H) (.call (.bool true) H) := by
  refine run_pure T9 (nn_bool _) (nn_cons (sl_no _) (nn_cons (nn_int _ _) (nn_cons (nn_int _ _) (nn_cons (nn_int _ _) nn_none)))) ?_ H
  have q := NewDice_ok l hl
  obtain ⟨s, kd⟩ := q
  have q := StuffOf_ok s
  obtain ⟨bx, x, s1, bx0, bx1, hx, kx⟩ := q
  have q := Upto_any s1 3 (by omega)
  obtain ⟨u, s2, u0, u1, ku⟩ := q
  have hb3 : 99 ≤ at' [(99 : Int), 100000, 1099511627776] u ∧ at' [(99 : Int), 100000, 1099511627776] u ≤ 1099511627776 := by
    have : u = 0 ∨ u = 1 ∨ u = 2 := by omega
    rcases this with rfl | rfl | rfl <;> simp [at']
  have hy : ∃ m, m = at' [(99 : Int), 100000, 1099511627776] u := ⟨_, rfl⟩
  obtain ⟨m, hy⟩ := hy
  rw [← hy] at hb3
  have q := Range_any s2 0 m (by omega) (by omega) (by omega)
  obtain ⟨lo, hi, s3, r0, r1, r2, kr⟩ := q
  have ma := Mod_ok a 2001 ha0 ha1 (by omega) (by omega)
  have mb := Mod_ok b (hi + 1) hb0 hb1 (by omega) (by omega)
  have mc := Mod_ok c (hi + 1) hc0 hc1 (by omega) (by omega)
  have na := modI_in a (m := 2001) (by omega)
  have nb := modI_in b (m := hi + 1) (by omega)
  have nc := modI_in c (m := hi + 1) (by omega)
  generalize modI a 2001 = t at *
  generalize modI b (hi + 1) = p at *
  generalize modI c (hi + 1) = q at *
  have k1 := Soak_at bx0 bx1 hx r0 r1 (show hi ≤ 1099511627776 by omega) na.1 (show t ≤ 2000 by omega) (lim := min p q) (by omega) (by omega)
  have k2 := Soak_at bx0 bx1 hx r0 r1 (show hi ≤ 1099511627776 by omega) na.1 (show t ≤ 2000 by omega) (lim := max p q) (by omega) (by omega)
  have hg := zoneOf_gr hx t
  have hr := zoneOf_re hx t
  have kz := ZoneOf_ok bx x hx.pos (by have := hx.len; omega) t
  unfold soakLo soakHi at k1 k2
  generalize zoneOf x t = z at *
  have f1 := fst_mono (sLo z lo) (show min p q ≤ max p q by omega)
  have f2 := fst_mono (sHi z hi) (show min p q ≤ max p q by omega)
  have f3 := fst_lohi hg hr r0 r1 (show hi ≤ 1099511627776 by omega) (min p q)
  have f4 := fst_le (sHi z hi) (min p q)
  have f5 := fun h => fst_at (sHi z hi) (min p q) h
  have sn := s_in hg hr r0 (show lo ≤ 1099511627776 by omega) (show 0 ≤ hi by omega) (show hi ≤ 1099511627776 by omega)
  have st := fun n => step0_in hg hr (sn n).1 (sn n).2.1 (sn n).2.2.1 (sn n).2.2.2
  have sl' : ∀ n, sLo z lo (n + 1) = stepLo z 1 (sLo z lo n) 0 := fun _ => rfl
  have sh' : ∀ n, sHi z hi (n + 1) = stepHi z 1 (sHi z hi n) 0 := fun _ => rfl
  have z0 : sLo z lo 0 = lo := rfl
  have z1 : sHi z hi 0 = hi := rfl
  generalize sLo z lo = S at *
  generalize sHi z hi = U at *
  generalize fst S (min p q) = FL at *
  generalize fst S (max p q) = GL at *
  generalize fst U (min p q) = FH at *
  generalize fst U (max p q) = GH at *
  have qq := In_any s3 lo hi r1 (by omega) (by omega)
  obtain ⟨n0, s4, n00, n01, kn⟩ := qq
  repeat' ((conv => whnf); first | (refine CallP.new kd ?_) | (refine CallP.one (fun H hb => kx H _ hb) rfl ?_) | (refine CallP.one (fun H hb => ku H _ hb) rfl ?_) | (refine onSome.intro (idx_ms rfl rfl rfl (by omega) (by omega)) ?_) | (refine onSome.intro (load_ms (l := [(99 : Int), 100000, 1099511627776]) (enc := ei) (i := u) (v := .int .i64 m) rfl rfl (by omega) (by simp; omega) (by rw [hy]; rfl)) ?_) | (refine CallP.one (fun H hb => kr H _ hb) rfl ?_) | (refine CallP.pure ma ?_) | (refine CallP.pure mb ?_) | (refine CallP.pure mc ?_) | (refine CallP.pure k1 ?_) | (refine CallP.pure k2 ?_) | (refine CallP.one (fun H hb => kn H _ hb) rfl ?_) | (refine CallP.pure kz ?_) | (refine CallP.pure awake_ok ?_) | (first | refine condP.dec (fun h => ?_) (fun h => ?_) | refine condP.eq (fun h => ?_) (fun h => ?_) | refine condP.ne (fun h => ?_) (fun h => ?_)) | (refine .i64 (by omega) (by omega) ?_) | (refine onSome.intro (idx_fs rfl rfl (by omega) (by omega) (fun _ => rfl)) ?_) | (refine onSome.intro (load_fs rfl (by omega) (by omega) rfl) ?_) | (refine And.intro rfl ?_))
  all_goals first | (exfalso; omega) | skip
  all_goals conv => whnf
  · exact PureP.intro (.bool true) (.inl rfl) rfl (.refl _)
  have hf : FH ≤ 5000 := by omega
  have f5 := f5 hf
  refine loop_rule (X := Nat × Int × Int) (fun g => [(2, .int .i64 p), (3, .int .i64 q), (9, .ptr 0 0 0), (12, .ptr 4 0 0), (16, .int .i64 g.2.1), (17, .ptr 6 0 0), (18, .int .i64 g.1)])
    (fun g => [S1 g.2.2, .live 2 [[.int .i64 bx, zsl x]], .live 1 [[.int .i64 99], [.int .i64 100000], [.int .i64 1099511627776]], .live 2 [[.int .i64 lo, .int .i64 hi]], .live 2 [[.int .i64 (FL : Int), .int .i64 (FH : Int)]], .live 2 [[.int .i64 (GL : Int), .int .i64 (GH : Int)]], .live 5 [zr z]])
    (fun g => FH - g.1) (fun g => g.1 ≤ FH ∧ S g.1 ≤ g.2.1 ∧ g.2.1 ≤ U g.1) (0, n0, s4) ⟨Nat.zero_le _, by dsimp only; omega, by dsimp only; omega⟩ ⟨rfl, rfl, rfl, rfl, rfl, rfl, rfl, trivial⟩ rfl (fun _ _ => rfl) (fun g hg' => ?_)
  obtain ⟨i, n, sd⟩ := g
  have h1 := hg'.1
  have h2 := hg'.2.1
  have h3 := hg'.2.2
  dsimp only at h1 h2 h3 ⊢
  have sn' := sn i
  rcases Nat.lt_or_ge i FH with c | c
  · have st := st i
    have kx' := Relaxes_ok z n n hr (by omega) (by omega) (by omega) (by omega)
    have g1 := loss_le (a := n) (r := z.rl) (q := z.rh) (by omega) (by omega)
    have g2 := left_lo h2 (show 0 ≤ z.rh by omega) (show z.rh ≤ 1000000 by omega)
    have g3 := left_hi h3 hr.1 (show z.rl ≤ 1000000 by omega)
    have g4 := step0_in hg hr (lo := n) (hi := n) (by omega) (by omega) (by omega) (by omega)
    have e1 := sl' i
    have e2 := sh' i
    rw [st.1] at e1
    rw [st.2.1] at e2
    rw [← e1] at g2
    rw [← e2] at g3
    generalize n * z.rl / 1000000 = A at *
    generalize up (n * z.rh) 1000000 = B at *
    have qq := In_any sd A B g1 (by omega) (by omega)
    obtain ⟨w, sd', w0, w1, kw⟩ := qq
    repeat' ((conv => whnf); first | (refine CallP.pure kx' ?_) | (refine CallP.one (fun H hb => kw H _ hb) rfl ?_) | (first | refine condP.dec (fun h => ?_) (fun h => ?_) | refine condP.eq (fun h => ?_) (fun h => ?_) | refine condP.ne (fun h => ?_) (fun h => ?_)) | (refine .i64 (by omega) (by omega) ?_) | (refine onSome.intro (idx_fs rfl rfl (by omega) (by omega) (fun _ => rfl)) ?_) | (refine onSome.intro (load_fs rfl (by omega) (by omega) rfl) ?_) | (refine And.intro rfl ?_))
    all_goals first | (exfalso; omega) | skip
    all_goals conv => whnf
    exact .more (i + 1, n - w, sd') rfl ⟨by dsimp only; omega, by dsimp only; omega, by dsimp only; omega⟩ (by dsimp only; omega) ⟨rfl, rfl, rfl, rfl, rfl, rfl, rfl, trivial⟩ rfl
      ⟨.int _ _, .int _ _, .ptr _ _ _ (by simp), .ptr _ _ _ (by simp), .int _ _, .ptr _ _ _ (by simp), .int _ _, trivial⟩
      ⟨row_inn (nn_cons (.int _ _) nn_none), row_inn (stuff_row _ _), fun j k hj hk => (noS_map (sz := 1) (l := [(99 : Int), 100000, 1099511627776]) (enc := ei) (fun a => nn_cons (.int _ _) nn_none) _ (List.getElem_mem hj) _ (List.getElem_mem hk)).inn _, row_inn (rg_row _ _), row_inn (rg_row _ _), row_inn (rg_row _ _), row_inn (zr_no _), trivial⟩
  · obtain rfl : i = FH := by omega
    repeat' ((conv => whnf); first | (refine CallP.pure awake_ok ?_) | (first | refine condP.dec (fun h => ?_) (fun h => ?_) | refine condP.eq (fun h => ?_) (fun h => ?_) | refine condP.ne (fun h => ?_) (fun h => ?_)) | (refine .i64 (by omega) (by omega) ?_) | (refine onSome.intro (idx_fs rfl rfl (by omega) (by omega) (fun _ => rfl)) ?_) | (refine onSome.intro (load_fs rfl (by omega) (by omega) rfl) ?_) | (refine And.intro rfl ?_))
    all_goals first | (exfalso; omega) | skip
    refine .done (by simp) ?_
    repeat' ((conv => whnf); first | (refine CallP.pure awake_ok ?_) | (first | refine condP.dec (fun h => ?_) (fun h => ?_) | refine condP.eq (fun h => ?_) (fun h => ?_) | refine condP.ne (fun h => ?_) (fun h => ?_)) | (refine .i64 (by omega) (by omega) ?_) | (refine onSome.intro (idx_fs rfl rfl (by omega) (by omega) (fun _ => rfl)) ?_) | (refine onSome.intro (load_fs rfl (by omega) (by omega) rfl) ?_) | (refine And.intro rfl ?_))
    all_goals first | (exfalso; omega) | skip
    all_goals conv => whnf
    all_goals exact PureP.intro (.bool true) (.inl rfl) rfl (.refl _)

end Go.Proofs.Ytpbadgghhiommaa.I
