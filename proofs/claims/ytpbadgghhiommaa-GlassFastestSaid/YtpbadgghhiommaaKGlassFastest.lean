/- GlassFastest runs to true. -/
import Derived.Test.YtpbadgghhiommaaGfast4
import Derived.Test.YtpbadgghhiommaaI3
import Derived.Test.YtpbadgghhiommaaGawake
set_option linter.unusedVariables false
set_option maxHeartbeats 32000000
set_option linter.unusedSimpArgs false
namespace Go.Proofs.Ytpbadgghhiommaa.I
open Go.Ideal

theorem fastR_len (b0 : Int) (zs : List Zone) (k f : Int) (st ps : List Int) (left : Int) : (fastR b0 zs k f st ps left).1.1.length ≤ st.length := by
  unfold fastR
  split
  · simp
  · split
    · simp
    · split
      · simp
      · split
        · simp
        · split
          · simp
          · split
            · simp
            · exact bestF_len _ _ _ _ _
/-- What the program and the reference say of a cooling is the same. -/
theorem fast_both (b0 : Int) (zs : List Zone) (hz : zs.length ≤ 9000000000000000000) (k f : Int) (st ps : List Int) (hst : st.length ≤ 100000) (hps : ps.length ≤ 100000) (left : Int) : ∃ (a : List Int) (n e : Int),
    (∀ H, Ev T (.call (.func (.func 77) [] []) [stuffI b0 zs, .int .i64 k, .int .i64 f, sl st, sl ps, .int .i64 left] H) (.call (.tuple [sl a, .int .i64 n, .int .i64 e]) H)) ∧
    (∀ H, Ev T (.call (.func (.func 78) [] []) [stuffI b0 zs, .int .i64 k, .int .i64 f, sl st, sl ps, .int .i64 left] H) (.call (.tuple [sl a, .int .i64 n, .int .i64 e]) H)) ∧
    ∀ H, Ev T (.call (.func (.func 52) [] []) [sl a, sl a] H) (.call (.bool true) H) := by
  have hl := fastR_len b0 zs k f st ps left
  refine ⟨_, _, _, Fastest_ok b0 zs hz k f st ps (by omega) (by omega) left, rFastest_ok b0 zs hz k f st ps (by omega) (by omega) left, fun H => ?_⟩
  have := Same_ok (fastR b0 zs k f st ps left).1.1 (fastR b0 zs k f st ps left).1.1 (by omega) H
  rwa [decide_eq_true rfl] at this

theorem GlassFastest_ok (b1 : Int) (z1 : List Zone) (thick from_ : Int) (stops paces : List Int) (left : Int) (nums : List Int) (h1 : z1.length ≤ 9223372036854775807) (tk0 : -9223372036854775808 ≤ thick) (tk1 : thick ≤ 9223372036854775807) (fr0 : -9223372036854775808 ≤ from_) (fr1 : from_ ≤ 9223372036854775807) (h2 : stops.length ≤ 9223372036854775807) (h3 : paces.length ≤ 9223372036854775807) (lf0 : -9223372036854775808 ≤ left) (lf1 : left ≤ 9223372036854775807) (hn : nums.length ≤ 9223372036854775807) (H : Heap) :
    Ev T (.call (.func (.func 17) [] []) [stuffI b1 z1, .int .i64 thick, .int .i64 from_, sl stops, sl paces, .int .i64 left, sl nums] H) (.call (.bool true) H) := by
  refine run_pure T17 (nn_bool _) (nn_cons (stuffI_no _ _) (nn_cons (nn_int _ _) (nn_cons (nn_int _ _) (nn_cons (sl_no _) (nn_cons (sl_no _) (nn_cons (nn_int _ _) (nn_cons (sl_no _) nn_none))))))) ?_ H
  have e1 : (z1.map zr).length = z1.length := List.length_map ..
  have e2 : (stops.map ei).length = stops.length := List.length_map ..
  have e3 : (paces.map ei).length = paces.length := List.length_map ..
  by_cases hlong : z1.length ≤ 30 ∧ stops.length ≤ 8 ∧ paces.length ≤ 8
  rotate_left
  · repeat' ((conv => whnf); first | (refine CallP.pure awake_ok ?_) | (first | refine condP.dec (fun h => ?_) (fun h => ?_) | refine condP.eq (fun h => ?_) (fun h => ?_) | refine condP.ne (fun h => ?_) (fun h => ?_)) | (refine .i64 (by omega) (by omega) ?_) | (refine onSome.intro (idx_fs rfl rfl (by omega) (by omega) (fun _ => rfl)) ?_) | (refine onSome.intro (load_fs rfl (by omega) (by omega) rfl) ?_) | (refine And.intro rfl ?_))
    all_goals first | (exfalso; omega) | skip
    all_goals conv => whnf
    all_goals exact PureP.intro (.bool true) (.inl rfl) rfl (.refl _)
  have q := NewDice_ok nums hn
  obtain ⟨s0, kd⟩ := q
  have q := StuffOf_ok s0
  obtain ⟨bx, x, s1, bx0, bx1, hx, kx⟩ := q
  have q := Between_any s1 1 30 (by omega) (by omega) (by omega)
  obtain ⟨wall, s2, w0, w1, kw⟩ := q
  have q := Between_any s2 500 1200 (by omega) (by omega) (by omega)
  obtain ⟨heat, s3, t0, t1, kh⟩ := q
  have q := Between_any s3 1 3 (by omega) (by omega) (by omega)
  obtain ⟨N, s4, N0, N1, kN⟩ := q
  obtain ⟨N, rfl⟩ := Int.eq_ofNat_of_zero_le (show 0 ≤ N by omega)
  have hxl := hx.len
  have q := fast_both b1 z1 (by omega) thick from_ stops paces (by omega) (by omega) left
  obtain ⟨ra, rn, re, f1, f2, f3⟩ := q
  repeat' ((conv => whnf); first | (refine CallP.new kd ?_) | (refine CallP.one (fun H hb => kx H _ hb) rfl ?_) | (refine CallP.one (fun H hb => kw H _ hb) rfl ?_) | (refine CallP.one (fun H hb => kh H _ hb) rfl ?_) | (refine CallP.one (fun H hb => kN H _ hb) rfl ?_) | (first | refine condP.dec (fun h => ?_) (fun h => ?_) | refine condP.eq (fun h => ?_) (fun h => ?_) | refine condP.ne (fun h => ?_) (fun h => ?_)) | (refine .i64 (by omega) (by omega) ?_) | (refine onSome.intro (idx_fs rfl rfl (by omega) (by omega) (fun _ => rfl)) ?_) | (refine onSome.intro (load_fs rfl (by omega) (by omega) rfl) ?_) | (refine And.intro rfl ?_))
  all_goals first | (exfalso; omega) | skip
  conv => whnf
  refine .keep ?_
  refine .pad 3 ?_
  refine loop_grow (X := Nat × List Int × List Int × List Leg × Int) (fun x => [(1, .int .i64 thick), (2, .int .i64 from_), (3, sl stops), (4, sl paces), (5, .int .i64 left), (7, .ptr 0 0 0), (15, .ptr 1 0 0), (16, .ptr 2 0 0), (17, .int .i64 wall), (18, .int .i64 heat), (19, omsl 4 x.2.1), (20, omsl 5 x.2.2.1), (21, .ptr 3 0 0), (22, .int .i64 x.1)])
    (fun y => [.live 2 [[.int .i64 b1, zsl z1]], S1 y.2.2.2.2, .live 2 [[.int .i64 bx, zsl x]], .live 2 [[.int .i64 heat, omsl 6 y.2.2.2.1]], lsS 1 ei y.2.1, lsS 1 ei y.2.2.1, lsS 2 lr y.2.2.2.1])
    (fun y => y.1) (fun y => y.1 ≤ 3 ∧ y.2.1.length + y.1 ≤ 3 ∧ y.2.2.1.length + y.1 ≤ 3 ∧ y.2.2.2.1.length + y.1 ≤ 3 ∧ LegsIn 20 y.2.2.2.1) (N, [], [], [], s4) ⟨by dsimp only; omega, by simp; omega, by simp; omega, by simp; omega, fun i hi => by simp at hi⟩
    ⟨rfl, rfl, rfl, rfl, rfl, rfl, rfl, rfl, rfl, rfl, rfl, rfl, rfl, rfl, trivial⟩ rfl (fun y hy => ?_)
  obtain ⟨i, to, inn, legs, s⟩ := y
  obtain ⟨hi, hto, hin, hle, hlg⟩ := hy
  dsimp only at hi hto hin hle hlg ⊢
  rcases i with _ | i
  · have hO := hlg.oven (f := heat) (by omega) (by omega) (by omega) (by omega)
    have q := LeftOf_any s bx x wall heat legs bx0 bx1 hx (by omega) (by omega) hO
    obtain ⟨rest, s6, r0, r1, kl⟩ := q
    have q := fast_both bx x (by omega) wall heat to inn (by omega) (by omega) rest
    obtain ⟨a, n, e, g1, g2, g3⟩ := q
    repeat' ((conv => whnf); first | (refine force_om ?_) | (refine forceC_om ?_) | (refine condP.dec (fun h => absurd h (by omega)) (fun _ => ?_)) | (first | refine condP.dec (fun h => ?_) (fun h => ?_) | refine condP.eq (fun h => ?_) (fun h => ?_) | refine condP.ne (fun h => ?_) (fun h => ?_)) | (refine .i64 (by omega) (by omega) ?_) | (refine onSome.intro (idx_fs rfl rfl (by omega) (by omega) (fun _ => rfl)) ?_) | (refine onSome.intro (load_fs rfl (by omega) (by omega) rfl) ?_) | (refine And.intro rfl ?_))
    refine .done (by simp) ?_
    conv => whnf
    refine .intro [0, 1, 2, 3] [(1, .int .i64 thick), (2, .int .i64 from_), (3, sl stops), (4, sl paces), (5, .int .i64 left), (7, .ptr 0 0 0), (15, .ptr 1 0 0), (16, .ptr 2 0 0), (17, .int .i64 wall), (18, .int .i64 heat), (19, sl to), (20, sl inn), (21, .ptr 3 0 0)] [.live 2 [[.int .i64 b1, zsl z1]], S1 s, .live 2 [[.int .i64 bx, zsl x]], .live 2 [[.int .i64 heat, lsl legs]]] rfl
      ⟨.same (.int _ _), .same (.int _ _), .same (sl_no _), .same (sl_no _), .same (.int _ _), .pt rfl, .pt rfl, .pt rfl, .same (.int _ _), .same (.int _ _), .nn (sl_no _) (.oml (enc := ei) rfl (fun _ _ h => by cases h)), .nn (sl_no _) (.oml (enc := ei) rfl (fun _ _ h => by cases h)), .pt rfl, trivial⟩
      ⟨.same (noS_row (stuff_row _ _)), .same (S1_no _), .same (noS_row (stuff_row _ _)), .row (.cons (.same (.int _ _)) (.cons (.nn (lsl_no _) (.oml (enc := lr) rfl (fun _ _ h => by cases h))) .nil)), trivial⟩ ?_
    repeat' ((conv => whnf); first | (refine CallP.one (fun H hb => kl H _ hb) rfl ?_) | (refine CallP.pure f1 ?_) | (refine CallP.pure f2 ?_) | (refine CallP.pure f3 ?_) | (refine CallP.pure g1 ?_) | (refine CallP.pure g2 ?_) | (refine CallP.pure g3 ?_) | (refine CallP.pure awake_ok ?_) | (refine condP.differ1 ?_) | (refine condP.same1 ?_) | (first | refine condP.dec (fun h => ?_) (fun h => ?_) | refine condP.eq (fun h => ?_) (fun h => ?_) | refine condP.ne (fun h => ?_) (fun h => ?_)) | (refine .i64 (by omega) (by omega) ?_) | (refine onSome.intro (idx_fs rfl rfl (by omega) (by omega) (fun _ => rfl)) ?_) | (refine onSome.intro (load_fs rfl (by omega) (by omega) rfl) ?_) | (refine And.intro rfl ?_))
    all_goals first | (exfalso; omega) | skip
    all_goals conv => whnf
    all_goals exact PureP.intro (.bool true) (.inl rfl) rfl (.refl _)
  · have y := Between_any s 300 1000 (by omega) (by omega) (by omega)
    obtain ⟨v1, u1, v10, v11, j1⟩ := y
    have y := Between_any u1 1 20 (by omega) (by omega) (by omega)
    obtain ⟨v2, u2, v20, v21, j2⟩ := y
    have y := Between_any u2 1 20 (by omega) (by omega) (by omega)
    obtain ⟨v3, u3, v30, v31, j3⟩ := y
    have hm : to.map ei ++ [[.int .i64 v1]] = (to ++ [v1]).map ei := by rw [List.map_append]; rfl
    have hl1 : (to ++ [v1]).length = to.length + 1 := by simp
    have hat' : at' (to ++ [v1]) ((to.length + 1 : Int) - 1) = v1 := by rw [Int.add_sub_cancel]; exact at_snoc_eq
    repeat' ((conv => whnf); first | (refine force_om ?_) | (refine forceC_om ?_) | (refine condP.dec (fun _ => ?_) (fun h => absurd (by omega) h)) | (refine CallP.one (fun H hb => j1 H _ hb) rfl ?_) | (refine CallP.one (fun H hb => j2 H _ hb) rfl ?_) | (refine CallP.one (fun H hb => j3 H _ hb) rfl ?_) | (refine OpP.snocM (enc := ei) (l := to) (b := 4) v1 rfl rfl rfl rfl (fun c hc => by simp [ei] at hc; subst hc; rfl) (by omega) ?_) | (refine OpP.snocM (enc := ei) (l := inn) (b := 5) v2 rfl rfl rfl rfl (fun c hc => by simp [ei] at hc; subst hc; rfl) (by omega) ?_) | (refine OpP.snocM (enc := lr) (l := legs) (b := 6) ⟨v3, v1⟩ rfl rfl rfl rfl (fun c hc => by simp [lr] at hc; rcases hc with rfl | rfl <;> rfl) (by omega) ?_) | (refine onSome.intro (idx_ms (n := (to.length + 1 : Int) - 1) rfl rfl rfl (by omega) (by omega)) ?_) | (refine onSome.intro (load_ms (l := to ++ [v1]) (enc := ei) (i := (to.length + 1 : Int) - 1) (v := .int .i64 v1) rfl rfl (by omega) (by omega) (by rw [hat']; rfl)) ?_) | (refine And.intro (idx_ms (n := (to.length + 1 : Int) - 1) rfl rfl rfl (by omega) (by omega)) ?_) | (refine And.intro (load_ms (l := to ++ [v1]) (enc := ei) (i := (to.length + 1 : Int) - 1) (v := .int .i64 v1) rfl rfl (by omega) (by omega) (by rw [hat']; rfl)) ?_) | (first | refine condP.dec (fun h => ?_) (fun h => ?_) | refine condP.eq (fun h => ?_) (fun h => ?_) | refine condP.ne (fun h => ?_) (fun h => ?_)) | (refine .i64 (by omega) (by omega) ?_) | (refine onSome.intro (idx_fs rfl rfl (by omega) (by omega) (fun _ => rfl)) ?_) | (refine onSome.intro (load_fs rfl (by omega) (by omega) rfl) ?_) | (refine And.intro rfl ?_))
    exact .more (i, to ++ [v1], inn ++ [v2], legs ++ [⟨v3, v1⟩], u3) [0, 1, 2, 3, 8, 10, 12] rfl ⟨by dsimp only; omega, by simp; omega, by simp; omega, by simp; omega, hlg.snoc ⟨by dsimp only; omega, by dsimp only; omega, by dsimp only; omega, by dsimp only; omega⟩⟩ (by dsimp only; omega) rfl
      ⟨.same (.int _ _), .same (.int _ _), .same (sl_no _), .same (sl_no _), .same (.int _ _), .pt rfl, .pt rfl, .pt rfl, .same (.int _ _), .same (.int _ _), .grown rfl (by simp) (by simp), .grown rfl (by simp) (by simp), .pt rfl, .nn (.int _ _) (frz_int (by dsimp only; omega)), trivial⟩
      ⟨.same (noS_row (stuff_row _ _)), .same (S1_no _), .same (noS_row (stuff_row _ _)), .row (.cons (.same (.int _ _)) (.cons (.grown rfl (by simp) (by simp)) .nil)), .lsM (by simp) ei_no, .lsM (by simp) ei_no, .lsM (by simp) lr_no, trivial⟩

end Go.Proofs.Ytpbadgghhiommaa.I
