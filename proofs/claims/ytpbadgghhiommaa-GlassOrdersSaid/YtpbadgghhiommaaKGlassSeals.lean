/- GlassSeals runs to true. -/
import Derived.Test.YtpbadgghhiommaaGseal2
set_option linter.unusedVariables false
set_option maxHeartbeats 32000000
set_option linter.unusedSimpArgs false
namespace Go.Proofs.Ytpbadgghhiommaa.I
open Go.Ideal

theorem seal_pair (a : Int) (x : List Zone) (b : Int) (y : List Zone) (hx : x.length ≤ 30) (hy : y.length ≤ 30) (s f : Int) : ∃ v w e : Int, (∀ H, Ev T (.call (.func (.func 41) [] []) [stuffI a x, stuffI b y, .int .i64 s, .int .i64 f] H) (.call (ierr v w e) H)) ∧
    ∀ H, Ev T (.call (.func (.func 49) [] []) [stuffI a x, stuffI b y, .int .i64 s, .int .i64 f] H) (.call (ierr v w e) H) := ⟨_, _, _, Seal_ok a x b y (by omega) (by omega) s f, rSeal_ok a x b y (by omega) (by omega) s f⟩
theorem match_pair (l : List (Int × List Zone)) (hl : l.length ≤ 14) (hlz : ∀ p ∈ l, p.2.length ≤ 30) (b : Int) (y : List Zone) (hy : y.length ≤ 30) (s f : Int) : ∃ (o : List Int) (e : Int), o.length ≤ l.length ∧ (∀ H, Ev T (.call (.func (.func 50) [] []) [stsl l, stuffI b y, .int .i64 s, .int .i64 f] H) (.call (slE o e) H)) ∧
    ∀ H, Ev T (.call (.func (.func 51) [] []) [stsl l, stuffI b y, .int .i64 s, .int .i64 f] H) (.call (slE o e) H) := by
  refine ⟨_, _, ?_, Matches_ok l (by omega) (fun p hp => by have := hlz p hp; omega) b y (by omega) s f, rMatches_ok l (by omega) (fun p hp => by have := hlz p hp; omega) b y (by omega) s f⟩
  unfold matchL
  split
  · exact matchN_len _ _ _ _ _ _
  · exact Nat.zero_le _
theorem same_self (o : List Int) (h : o.length ≤ 9223372036854775807) (H : Heap) : Ev T (.call (.func (.func 52) [] []) [sl o, sl o] H) (.call (.bool true) H) := by
  have := Same_ok o o h H
  rwa [decide_eq_true rfl] at this

theorem GlassSeals_ok (b1 : Int) (z1 : List Zone) (b2 : Int) (z2 : List Zone) (l : List (Int × List Zone)) (c d : Int) (nums : List Int) (h1 : z1.length ≤ 9223372036854775807) (h2 : z2.length ≤ 9223372036854775807) (hl : l.length ≤ 9223372036854775807) (hlz : ∀ p ∈ l, p.2.length ≤ 9223372036854775807)
    (hc0 : -9223372036854775808 ≤ c) (hc1 : c ≤ 9223372036854775807) (hd0 : -9223372036854775808 ≤ d) (hd1 : d ≤ 9223372036854775807) (hn : nums.length ≤ 9223372036854775807) (H : Heap) :
    Ev T (.call (.func (.func 8) [] []) [stuffI b1 z1, stuffI b2 z2, stsl l, .int .i64 c, .int .i64 d, sl nums] H) (.call (.bool true) H) := by
  refine run_pure T8 (nn_bool _) (nn_cons (stuffI_no _ _) (nn_cons (stuffI_no _ _) (nn_cons (stsl_no _) (nn_cons (nn_int _ _) (nn_cons (nn_int _ _) (nn_cons (sl_no _) nn_none)))))) ?_ H
  have e1 : (z1.map zr).length = z1.length := List.length_map ..
  have e2 : (z2.map zr).length = z2.length := List.length_map ..
  have e3 : (l.map stR).length = l.length := List.length_map ..
  by_cases hlong : z1.length ≤ 30 ∧ z2.length ≤ 30 ∧ l.length ≤ 14
  rotate_left
  · repeat' ((conv => whnf); first | (refine CallP.pure awake_ok ?_) | (first | refine condP.dec (fun h => ?_) (fun h => ?_) | refine condP.eq (fun h => ?_) (fun h => ?_) | refine condP.ne (fun h => ?_) (fun h => ?_)) | (refine .i64 (by omega) (by omega) ?_) | (refine onSome.intro (idx_fs rfl rfl (by omega) (by omega) (fun _ => rfl)) ?_) | (refine onSome.intro (load_fs rfl (by omega) (by omega) rfl) ?_) | (refine And.intro rfl ?_))
    all_goals first | (exfalso; omega) | skip
    all_goals conv => whnf
    all_goals exact PureP.intro (.bool true) (.inl rfl) rfl (.refl _)
  obtain ⟨l1, l2, l3⟩ := hlong
  repeat' ((conv => whnf); first | (refine condP.dec (fun h => absurd h (by omega)) (fun _ => ?_)) | (first | refine condP.dec (fun h => ?_) (fun h => ?_) | refine condP.eq (fun h => ?_) (fun h => ?_) | refine condP.ne (fun h => ?_) (fun h => ?_)) | (refine .i64 (by omega) (by omega) ?_) | (refine onSome.intro (idx_fs rfl rfl (by omega) (by omega) (fun _ => rfl)) ?_) | (refine onSome.intro (load_fs rfl (by omega) (by omega) rfl) ?_) | (refine And.intro rfl ?_))
  refine loop_rule (X := Nat) (fun i => [(2, stsl l), (3, .int .i64 c), (4, .int .i64 d), (5, sl nums), (6, .ptr 0 0 0), (7, .ptr 1 0 0), (13, .int .i64 i)]) (fun _ => [.live 2 [[.int .i64 b1, zsl z1]], .live 2 [[.int .i64 b2, zsl z2]]]) (fun i => l.length - i)
    (fun i => i ≤ l.length ∧ ∀ j, j < i → (stn l j).2.length ≤ 30) 0 ⟨Nat.zero_le _, fun j hj => by omega⟩ ⟨rfl, rfl, rfl, rfl, rfl, rfl, rfl, trivial⟩ rfl (fun _ _ => rfl) (fun i hi => ?_)
  obtain ⟨hi, hall⟩ := hi
  rcases Nat.lt_or_ge i l.length with hlt | hge
  · have f1 : at' l (i : Int) = stn l i := rfl
    have e4 : ((at' l (i : Int)).2.map zr).length = (at' l (i : Int)).2.length := List.length_map ..
    conv => whnf
    refine condP.dec (fun _ => ?_) (fun h => absurd (by omega) h)
    conv => whnf
    refine onSome.intro (idx_fs rfl rfl (by omega) (by omega) (fun _ => rfl)) ?_
    conv => whnf
    refine onSome.intro (load_fs (i := (i : Int)) (v := zsl (at' l (i : Int)).2) rfl (by omega) (by omega) rfl) ?_
    conv => whnf
    refine condP.dec (fun h => ?_) (fun h => ?_)
    · conv => whnf
      refine CallP.pure awake_ok ?_
      conv => whnf
      refine .done (by simp) ?_
      conv => whnf
      exact PureP.intro (.bool true) (.inl rfl) rfl (.refl _)
    · conv => whnf
      refine .i64 (by omega) (by omega) ?_
      conv => whnf
      exact .more (i + 1) rfl ⟨by omega, fun j hj => by
        by_cases q : j = i
        · subst q; rw [← f1]; omega
        · exact hall j (by omega)⟩ (by omega) ⟨rfl, rfl, rfl, rfl, rfl, rfl, rfl, trivial⟩ rfl ⟨(stsl_no _).inn _, .int _ _, .int _ _, (sl_no _).inn _, .ptr _ _ _ (by simp), .ptr _ _ _ (by simp), .int _ _, trivial⟩ ⟨row_inn (stuff_row _ _), row_inn (stuff_row _ _), trivial⟩
  obtain rfl : i = l.length := by omega
  have hmem : ∀ p ∈ l, p.2.length ≤ 30 := fun p hp => by
    obtain ⟨j, hj, rfl⟩ := List.getElem_of_mem hp
    have := hall j hj
    unfold stn at this
    rwa [List.getD_eq_getElem?_getD, List.getElem?_eq_getElem hj] at this
  conv => whnf
  refine condP.dec (fun h => absurd h (by omega)) (fun _ => ?_)
  conv => whnf
  refine .done (by simp) ?_
  have q := NewDice_ok nums hn
  obtain ⟨s, kd⟩ := q
  have q := StuffOf_ok s
  obtain ⟨bx, x, s1, bx0, bx1, hx, kx⟩ := q
  have q := StuffOf_ok s1
  obtain ⟨by', y, s2, by0, by1, hy, ky⟩ := q
  have q := Between_any s2 300 1200 (by omega) (by omega) (by omega)
  obtain ⟨u, s3, u0, u1, ku⟩ := q
  have q := Between_any s3 0 300 (by omega) (by omega) (by omega)
  obtain ⟨f, s4, f0, f1, kf⟩ := q
  have km := rMismatch_at bx0 bx1 hx by0 by1 hy (show 0 ≤ u by omega) (show u ≤ 2000 by omega) f0 (show f ≤ 2000 by omega)
  have bm := m_bound hx hy (show 0 ≤ u by omega) (show u ≤ 2000 by omega) f0 (show f ≤ 2000 by omega)
  generalize mLo x y u f = r1 at *
  generalize mHi x y u f = r2 at *
  have q := One_any s4 2 (by omega)
  obtain ⟨o, s5, ko⟩ := q
  have q := Upto_any s5 3 (by omega)
  obtain ⟨w, s6, w0, w1, kw⟩ := q
  have e1 : ∃ n, n = (if (if r2 < -r1 then -r1 else r2) < 1 then 1 else (if r2 < -r1 then -r1 else r2)) := ⟨_, rfl⟩
  obtain ⟨n, e1⟩ := e1
  have g1 : 1 ≤ n ∧ n ≤ 400000000 := by
    rw [e1]
    repeat' split
    all_goals omega
  have e2 : ∃ A, A = max 1 (n - w) := ⟨_, rfl⟩
  obtain ⟨A, e2⟩ := e2
  have z : (0 : Int) - r1 = -r1 := by omega
  have q := seal_pair b1 z1 b2 z2 l1 l2 c d
  obtain ⟨v1, v2, ve, k1, k1r⟩ := q
  have q := match_pair l l3 hmem b2 z2 l2 c d
  obtain ⟨o1, m1, lo1, ka, kar⟩ := q
  have ksame1 := same_self o1 (by omega)
  cases o with
  | true =>
    have q := seal_pair A x n y (by have := hx.len; omega) (by have := hy.len; omega) u f
    obtain ⟨V1, V2, Ve, kv, kvr⟩ := q
    have q := seal_pair A x n y (by have := hx.len; omega) (by have := hy.len; omega) c d
    obtain ⟨U1, U2, Ue, kw3, kw3r⟩ := q
    have q := match_pair [(A, x), (n, y), (A, x)] (by simp) (fun p hp => by have := hx.len; have := hy.len; simp only [List.mem_cons, List.not_mem_nil, or_false] at hp; rcases hp with rfl | rfl | rfl <;> (dsimp only; omega)) n y (by have := hy.len; omega) u f
    obtain ⟨o2, m2, lo2, kb, kbr⟩ := q
    have ksame2 := same_self o2 (by simp at lo2; omega)
    repeat' ((conv => whnf); first | (refine CallP.new kd ?_) | (refine CallP.one (fun H hb => kx H _ hb) rfl ?_) | (refine CallP.one (fun H hb => ky H _ hb) rfl ?_) | (refine CallP.one (fun H hb => ku H _ hb) rfl ?_) | (refine CallP.one (fun H hb => kf H _ hb) rfl ?_) | (refine CallP.pure km ?_) | (rw [z]) | (rw [← e1]) | (rw [← e2]) | (refine condP.differ1 ?_) | (refine condP.same1 ?_) | (refine condP.dec (fun _ => ?_) (fun h => absurd (by omega) h)) | (refine CallP.one (fun H hb => ko H _ hb) rfl ?_) | (refine CallP.one (fun H hb => kw H _ hb) rfl ?_) | (refine loop_step ?_) | (refine CallP.pure k1 ?_) | (refine CallP.pure k1r ?_) | (refine CallP.pure kv ?_) | (refine CallP.pure kvr ?_) | (refine CallP.pure kw3 ?_) | (refine CallP.pure kw3r ?_) | (refine CallP.pure ka ?_) | (refine CallP.pure kar ?_) | (refine CallP.pure kb ?_) | (refine CallP.pure kbr ?_) | (refine CallP.pure ksame1 ?_) | (refine CallP.pure ksame2 ?_) | (refine CallP.pure awake_ok ?_) | (first | refine condP.dec (fun h => ?_) (fun h => ?_) | refine condP.eq (fun h => ?_) (fun h => ?_) | refine condP.ne (fun h => ?_) (fun h => ?_)) | (refine .i64 (by omega) (by omega) ?_) | (refine onSome.intro (idx_fs rfl rfl (by omega) (by omega) (fun _ => rfl)) ?_) | (refine onSome.intro (load_fs rfl (by omega) (by omega) rfl) ?_) | (refine And.intro rfl ?_))
    all_goals conv => whnf
    all_goals (refine CallP.frz [10] rfl [stsl [(A, x), (n, y), (A, x)], stuffI n y, .int .i64 u, .int .i64 f] (.cons (.whole (sz := 2) (es := [(A, x), (n, y), (A, x)].map stR) rfl (fun _ _ h => by cases h) rfl (.refl _)) (.cons (.refl _) (.cons (.refl _) (.cons (.refl _) .nil)))) ?_)
    repeat' ((conv => whnf); first | (refine condP.differ1 ?_) | (refine condP.same1 ?_) | (refine CallP.pure kb ?_) | (refine CallP.pure kbr ?_) | (refine CallP.pure ksame1 ?_) | (refine CallP.pure ksame2 ?_) | (refine CallP.pure awake_ok ?_) | (first | refine condP.dec (fun h => ?_) (fun h => ?_) | refine condP.eq (fun h => ?_) (fun h => ?_) | refine condP.ne (fun h => ?_) (fun h => ?_)) | (refine .i64 (by omega) (by omega) ?_) | (refine onSome.intro (idx_fs rfl rfl (by omega) (by omega) (fun _ => rfl)) ?_) | (refine onSome.intro (load_fs rfl (by omega) (by omega) rfl) ?_) | (refine And.intro rfl ?_))
    all_goals conv => whnf
    all_goals (refine CallP.frz [11] rfl [stsl [(A, x), (n, y), (A, x)], stuffI n y, .int .i64 u, .int .i64 f] (.cons (.whole (sz := 2) (es := [(A, x), (n, y), (A, x)].map stR) rfl (fun _ _ h => by cases h) rfl (.refl _)) (.cons (.refl _) (.cons (.refl _) (.cons (.refl _) .nil)))) ?_)
    repeat' ((conv => whnf); first | (refine condP.differ1 ?_) | (refine condP.same1 ?_) | (refine CallP.pure kb ?_) | (refine CallP.pure kbr ?_) | (refine CallP.pure ksame1 ?_) | (refine CallP.pure ksame2 ?_) | (refine CallP.pure awake_ok ?_) | (first | refine condP.dec (fun h => ?_) (fun h => ?_) | refine condP.eq (fun h => ?_) (fun h => ?_) | refine condP.ne (fun h => ?_) (fun h => ?_)) | (refine .i64 (by omega) (by omega) ?_) | (refine onSome.intro (idx_fs rfl rfl (by omega) (by omega) (fun _ => rfl)) ?_) | (refine onSome.intro (load_fs rfl (by omega) (by omega) rfl) ?_) | (refine And.intro rfl ?_))
    all_goals first | (exfalso; omega) | skip
    all_goals conv => whnf
    all_goals exact PureP.intro (.bool true) (.inl rfl) rfl (.refl _)
  | false =>
    have q := seal_pair bx x by' y (by have := hx.len; omega) (by have := hy.len; omega) u f
    obtain ⟨V1, V2, Ve, kv, kvr⟩ := q
    have q := seal_pair bx x by' y (by have := hx.len; omega) (by have := hy.len; omega) c d
    obtain ⟨U1, U2, Ue, kw3, kw3r⟩ := q
    have q := match_pair [(bx, x), (by', y), (bx, x)] (by simp) (fun p hp => by have := hx.len; have := hy.len; simp only [List.mem_cons, List.not_mem_nil, or_false] at hp; rcases hp with rfl | rfl | rfl <;> (dsimp only; omega)) by' y (by have := hy.len; omega) u f
    obtain ⟨o2, m2, lo2, kb, kbr⟩ := q
    have ksame2 := same_self o2 (by simp at lo2; omega)
    repeat' ((conv => whnf); first | (refine CallP.new kd ?_) | (refine CallP.one (fun H hb => kx H _ hb) rfl ?_) | (refine CallP.one (fun H hb => ky H _ hb) rfl ?_) | (refine CallP.one (fun H hb => ku H _ hb) rfl ?_) | (refine CallP.one (fun H hb => kf H _ hb) rfl ?_) | (refine CallP.pure km ?_) | (rw [z]) | (rw [← e1]) | (rw [← e2]) | (refine condP.differ1 ?_) | (refine condP.same1 ?_) | (refine condP.dec (fun _ => ?_) (fun h => absurd (by omega) h)) | (refine CallP.one (fun H hb => ko H _ hb) rfl ?_) | (refine CallP.one (fun H hb => kw H _ hb) rfl ?_) | (refine loop_step ?_) | (refine CallP.pure k1 ?_) | (refine CallP.pure k1r ?_) | (refine CallP.pure kv ?_) | (refine CallP.pure kvr ?_) | (refine CallP.pure kw3 ?_) | (refine CallP.pure kw3r ?_) | (refine CallP.pure ka ?_) | (refine CallP.pure kar ?_) | (refine CallP.pure kb ?_) | (refine CallP.pure kbr ?_) | (refine CallP.pure ksame1 ?_) | (refine CallP.pure ksame2 ?_) | (refine CallP.pure awake_ok ?_) | (first | refine condP.dec (fun h => ?_) (fun h => ?_) | refine condP.eq (fun h => ?_) (fun h => ?_) | refine condP.ne (fun h => ?_) (fun h => ?_)) | (refine .i64 (by omega) (by omega) ?_) | (refine onSome.intro (idx_fs rfl rfl (by omega) (by omega) (fun _ => rfl)) ?_) | (refine onSome.intro (load_fs rfl (by omega) (by omega) rfl) ?_) | (refine And.intro rfl ?_))
    all_goals conv => whnf
    all_goals (refine CallP.frz [10] rfl [stsl [(bx, x), (by', y), (bx, x)], stuffI by' y, .int .i64 u, .int .i64 f] (.cons (.whole (sz := 2) (es := [(bx, x), (by', y), (bx, x)].map stR) rfl (fun _ _ h => by cases h) rfl (.refl _)) (.cons (.refl _) (.cons (.refl _) (.cons (.refl _) .nil)))) ?_)
    repeat' ((conv => whnf); first | (refine condP.differ1 ?_) | (refine condP.same1 ?_) | (refine CallP.pure kb ?_) | (refine CallP.pure kbr ?_) | (refine CallP.pure ksame1 ?_) | (refine CallP.pure ksame2 ?_) | (refine CallP.pure awake_ok ?_) | (first | refine condP.dec (fun h => ?_) (fun h => ?_) | refine condP.eq (fun h => ?_) (fun h => ?_) | refine condP.ne (fun h => ?_) (fun h => ?_)) | (refine .i64 (by omega) (by omega) ?_) | (refine onSome.intro (idx_fs rfl rfl (by omega) (by omega) (fun _ => rfl)) ?_) | (refine onSome.intro (load_fs rfl (by omega) (by omega) rfl) ?_) | (refine And.intro rfl ?_))
    all_goals conv => whnf
    all_goals (refine CallP.frz [11] rfl [stsl [(bx, x), (by', y), (bx, x)], stuffI by' y, .int .i64 u, .int .i64 f] (.cons (.whole (sz := 2) (es := [(bx, x), (by', y), (bx, x)].map stR) rfl (fun _ _ h => by cases h) rfl (.refl _)) (.cons (.refl _) (.cons (.refl _) (.cons (.refl _) .nil)))) ?_)
    repeat' ((conv => whnf); first | (refine condP.differ1 ?_) | (refine condP.same1 ?_) | (refine CallP.pure kb ?_) | (refine CallP.pure kbr ?_) | (refine CallP.pure ksame1 ?_) | (refine CallP.pure ksame2 ?_) | (refine CallP.pure awake_ok ?_) | (first | refine condP.dec (fun h => ?_) (fun h => ?_) | refine condP.eq (fun h => ?_) (fun h => ?_) | refine condP.ne (fun h => ?_) (fun h => ?_)) | (refine .i64 (by omega) (by omega) ?_) | (refine onSome.intro (idx_fs rfl rfl (by omega) (by omega) (fun _ => rfl)) ?_) | (refine onSome.intro (load_fs rfl (by omega) (by omega) rfl) ?_) | (refine And.intro rfl ?_))
    all_goals first | (exfalso; omega) | skip
    all_goals conv => whnf
    all_goals exact PureP.intro (.bool true) (.inl rfl) rfl (.refl _)

end Go.Proofs.Ytpbadgghhiommaa.I
