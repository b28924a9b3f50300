/- Stuffs and programmes with lists that may be written to. -/
import Derived.Test.YtpbadgghhiommaaGover
set_option linter.unusedVariables false
set_option maxHeartbeats 16000000
set_option linter.unusedSimpArgs false
namespace Go.Proofs.Ytpbadgghhiommaa.I
open Go.Ideal

theorem in_agg {S : Nat → Prop} {r : List IV} (h : ∀ x ∈ r, Inn S x) : Inn S (.agg r) := .agg r (fun i hi => h _ (List.getElem_mem hi))
theorem StuffOf_new (s : Int) : ∃ (b : Int) (zs : List Zone) (s' : Int), 1 ≤ b ∧ b ≤ 1000000000 ∧ ZOk zs ∧ ∀ (H : Heap) (n m : Nat), H n = S1 s → H m = .free → Ev T (.call (.func (.func 22) [] []) [.ptr n 0 0] H) (.call (.agg [.int .i64 b, .mslice m 0 zs.length zs.length false]) ((H.set n (S1 s')).set m (.live 5 (zs.map zr)))) := by
  have key := run_dice_over T22 (args := []) (s := S1 s) (P := fun v z t => ∃ (b : Int) (zs : List Zone) (s' : Int), v = .agg [.int .i64 b, .mslice 1 0 zs.length zs.length false] ∧ z = S1 s' ∧ t = .live 5 (zs.map zr) ∧ 1 ≤ b ∧ b ≤ 1000000000 ∧ ZOk zs)
    (S1_no _) nn_none (by
    have q := Between_any s 1 1000 (by omega) (by omega) (by omega)
    obtain ⟨v1, s1, v10, v11, k1⟩ := q
    have q := Between_any s1 1 1000000 (by omega) (by omega) (by omega)
    obtain ⟨v2, s2, v20, v21, k2⟩ := q
    have q := Between_any s2 1 1000000000 (by omega) (by omega) (by omega)
    obtain ⟨v3, s3, v30, v31, k3⟩ := q
    have q := Upto_any s3 3 (by omega)
    obtain ⟨u, s4, u0, u1, k4⟩ := q
    have q := Between_any s4 1 4 (by omega) (by omega) (by omega)
    obtain ⟨m, s5, m0, m1, k5⟩ := q
    have hb : 1 ≤ at' [v1, v2, v3] u ∧ at' [v1, v2, v3] u ≤ 1000000000 := by
      have : u = 0 ∨ u = 1 ∨ u = 2 := by omega
      rcases this with rfl | rfl | rfl <;> simp [at'] <;> omega
    have hx : ∃ b, b = at' [v1, v2, v3] u := ⟨_, rfl⟩
    obtain ⟨b, hx⟩ := hx
    rw [← hx] at hb
    conv => whnf
    refine CallP.one (fun H hb => k1 H _ hb) rfl ?_
    conv => whnf
    refine CallP.one (fun H hb => k2 H _ hb) rfl ?_
    conv => whnf
    refine CallP.one (fun H hb => k3 H _ hb) rfl ?_
    conv => whnf
    refine CallP.one (fun H hb => k4 H _ hb) rfl ?_
    conv => whnf
    refine onSome.intro (idx_ms rfl rfl rfl (by omega) (by omega)) ?_
    conv => whnf
    refine onSome.intro (load_ms (l := [v1, v2, v3]) (enc := ei) (i := u) (v := .int .i64 b) rfl rfl (by omega) (by simp; omega) (by rw [hx]; rfl)) ?_
    conv => whnf
    refine CallP.one (fun H hb => k5 H _ hb) rfl ?_
    conv => whnf
    refine loop_grow (X := List Zone × Int × Int × Nat) (fun x => [(0, .ptr 0 0 0), (2, .ptr 1 0 0), (3, .ptr 3 0 0), (4, .int .i64 x.2.1), (5, .int .i64 x.2.2.2)])
      (fun x => match x.1 with
        | [] => [S1 x.2.2.1, .live 2 [[.int .i64 0, .nilslice]], .live 1 [[.int .i64 v1], [.int .i64 v2], [.int .i64 v3]], .live 2 [[.int .i64 b, .nilslice]]]
        | z :: zs => [S1 x.2.2.1, .live 2 [[.int .i64 0, .nilslice]], .live 1 [[.int .i64 v1], [.int .i64 v2], [.int .i64 v3]], .live 2 [[.int .i64 b, .mslice 4 0 (zs.length + 1) (zs.length + 1) false]], .live 5 ((z :: zs).map zr)])
      (fun x => x.2.2.2) (fun x => PZ x.1 x.2.1 ∧ x.2.1 ≤ 3000 ∧ x.1.length + x.2.2.2 ≤ 4 ∧ (x.1 = [] → 0 < x.2.2.2)) ([], 0, s5, m.toNat)
      ⟨⟨fun _ => rfl, Int.le_refl _, fun h => by simp at h, fun i h => by simp at h, fun i h => by simp at h, fun i h => by simp at h, fun i h => by simp at h⟩, by simp, by simp; omega, fun _ => by dsimp only; omega⟩
      ⟨rfl, rfl, rfl, rfl, by show i6 _ = i6 _; rw [show ((m.toNat : Nat) : Int) = m by omega], trivial⟩ rfl (fun x hx => ?_)
    obtain ⟨zs, f, s, q⟩ := x
    obtain ⟨hP, hf, hq, hn⟩ := hx
    dsimp only at hP hf hq hn ⊢
    have hf0 := hP.from0
    have y := Upto_any s 20000 (by omega)
    obtain ⟨u1, t1, u10, u11, k1⟩ := y
    have y := Upto_any t1 2000 (by omega)
    obtain ⟨u2, t2, u20, u21, k2⟩ := y
    have y := Upto_any t2 2 (by omega)
    obtain ⟨u3, t3, u30, u31, k3⟩ := y
    have hmul := mul_in u20 (show u2 ≤ 2000 by omega) u30 (show u3 ≤ 2 by omega)
    have y := One_any t3 2 (by omega)
    obtain ⟨w, t4, k4⟩ := y
    have y := Upto_any t4 2 (by omega)
    obtain ⟨u5, t5, u50, u51, k5⟩ := y
    have hm5 : 0 ≤ at' [(1000 : Int), 1000000] u5 ∧ at' [(1000 : Int), 1000000] u5 ≤ 1000000 := by
      have : u5 = 0 ∨ u5 = 1 := by omega
      rcases this with rfl | rfl <;> simp [at']
    have y : ∃ e, e = at' [(1000 : Int), 1000000] u5 := ⟨_, rfl⟩
    obtain ⟨e5, he5⟩ := y
    rw [← he5] at hm5
    have y := rate_any t5 e5 hm5.1 hm5.2
    obtain ⟨ra, rb, t6, r0, r1, r2, k6⟩ := y
    have y := Between_any t6 1 900 (by omega) (by omega) (by omega)
    obtain ⟨d6, t7, d60, d61, k7⟩ := y
    have y := Between_any t4 1 900 (by omega) (by omega) (by omega)
    obtain ⟨d4, t8, d40, d41, k8⟩ := y
    have one : ∀ k, k = k1 → True := fun _ _ => trivial
    clear one
    have rowZ : ∀ (z : List Zone), NonameS (.live 5 (z.map zr)) := fun z => noS_map (fun a => zr_no a)
    have rowV : NonameS (.live 1 [[.int .i64 v1], [.int .i64 v2], [.int .i64 v3]]) := noS_map (l := [v1, v2, v3]) (enc := ei) (fun a => nn_cons (.int _ _) nn_none)
    have row0 : NonameS (.live 2 [[.int .i64 0, .nilslice]]) := noS_row (nn_cons (.int _ _) (nn_cons .nilslice nn_none))
    by_cases hgo : 0 < q ∧ f ≤ 2000
    · obtain ⟨g1, g2⟩ := hgo
      rcases zs with _ | ⟨z0, zs⟩
      · dsimp only
        cases w
        · repeat' ((conv => whnf); first | (refine CallP.one (fun H hb => k1 H _ hb) rfl ?_) | (refine CallP.one (fun H hb => k2 H _ hb) rfl ?_) | (refine CallP.one (fun H hb => k3 H _ hb) rfl ?_) | (refine CallP.one (fun H hb => k4 H _ hb) rfl ?_) | (refine CallP.one (fun H hb => k5 H _ hb) rfl ?_) | (refine CallP.one (fun H hb => k6 H _ hb) rfl ?_) | (refine CallP.one (fun H hb => k7 H _ hb) rfl ?_) | (refine CallP.one (fun H hb => k8 H _ hb) rfl ?_) | (refine onSome.intro (idx_ms rfl rfl rfl (by omega) (by omega)) ?_) | (refine onSome.intro (load_ms (l := [(1000 : Int), 1000000]) (enc := ei) (i := u5) (v := .int .i64 e5) rfl rfl (by omega) (show u5 < 2 by omega) (he5 ▸ rfl)) ?_) | (first | refine condP.dec (fun h => ?_) (fun h => ?_) | refine condP.eq (fun h => ?_) (fun h => ?_) | refine condP.ne (fun h => ?_) (fun h => ?_)) | (refine .i64 (by omega) (by omega) ?_) | (refine onSome.intro (idx_fs rfl rfl (by omega) (by omega) (fun _ => rfl)) ?_) | (refine onSome.intro (load_fs rfl (by omega) (by omega) rfl) ?_) | (refine And.intro rfl ?_))
          all_goals first | (exfalso; omega) | skip
          conv => whnf
          refine .nil (.inl rfl) rfl (by simp) (fun e he => by simp at he; subst he; rfl) (fun e he c hc => by simp at he; subst he; simp at hc; rcases hc with rfl | rfl | rfl | rfl | rfl <;> rfl) (n' := 1) rfl (by omega) ?_
          repeat' ((conv => whnf); first | (refine CallP.one (fun H hb => k1 H _ hb) rfl ?_) | (refine CallP.one (fun H hb => k2 H _ hb) rfl ?_) | (refine CallP.one (fun H hb => k3 H _ hb) rfl ?_) | (refine CallP.one (fun H hb => k4 H _ hb) rfl ?_) | (refine CallP.one (fun H hb => k5 H _ hb) rfl ?_) | (refine CallP.one (fun H hb => k6 H _ hb) rfl ?_) | (refine CallP.one (fun H hb => k7 H _ hb) rfl ?_) | (refine CallP.one (fun H hb => k8 H _ hb) rfl ?_) | (refine onSome.intro (idx_ms rfl rfl rfl (by omega) (by omega)) ?_) | (refine onSome.intro (load_ms (l := [(1000 : Int), 1000000]) (enc := ei) (i := u5) (v := .int .i64 e5) rfl rfl (by omega) (show u5 < 2 by omega) (he5 ▸ rfl)) ?_) | (first | refine condP.dec (fun h => ?_) (fun h => ?_) | refine condP.eq (fun h => ?_) (fun h => ?_) | refine condP.ne (fun h => ?_) (fun h => ?_)) | (refine .i64 (by omega) (by omega) ?_) | (refine onSome.intro (idx_fs rfl rfl (by omega) (by omega) (fun _ => rfl)) ?_) | (refine onSome.intro (load_fs rfl (by omega) (by omega) rfl) ?_) | (refine And.intro rfl ?_))
          conv => whnf
          have hP' := hP.snoc g2 (z := (⟨f, u1, u1 + u2 * u3, 0, 0⟩ : Zone)) rfl ⟨u10, by dsimp only; omega, by dsimp only; omega⟩ ⟨Int.le_refl _, Int.le_refl _, show (0 : Int) ≤ 1000000 by decide⟩ (d := d4) (by omega)
          exact .more ([] ++ [(⟨f, u1, u1 + u2 * u3, 0, 0⟩ : Zone)], f + d4, t8, q - 1) [0, 1, 2, 3, 6] rfl ⟨hP', by dsimp only; omega, by simp at hq ⊢; omega, fun h => by simp at h⟩ (by dsimp only; omega) rfl
            ⟨.pt rfl, .pt rfl, .pt rfl, .same (.int _ _), .nn (.int _ _) (frz_int (by dsimp only; omega)), trivial⟩
            ⟨.same (S1_no _), .same row0, .same rowV, .row (.cons (.same (.int _ _)) (.cons (.ms rfl) .nil)), (by
              show MvS _ _ _ _ (.live 5 (([] ++ [(⟨f, u1, u1 + u2 * u3, 0, 0⟩ : Zone)]).map zr))
              rw [List.map_append]; exact .same (s := .live 5 ([].map zr ++ [(⟨f, u1, u1 + u2 * u3, 0, 0⟩ : Zone)].map zr)) (by rw [← List.map_append]; exact rowZ _)), trivial⟩
        · repeat' ((conv => whnf); first | (refine CallP.one (fun H hb => k1 H _ hb) rfl ?_) | (refine CallP.one (fun H hb => k2 H _ hb) rfl ?_) | (refine CallP.one (fun H hb => k3 H _ hb) rfl ?_) | (refine CallP.one (fun H hb => k4 H _ hb) rfl ?_) | (refine CallP.one (fun H hb => k5 H _ hb) rfl ?_) | (refine CallP.one (fun H hb => k6 H _ hb) rfl ?_) | (refine CallP.one (fun H hb => k7 H _ hb) rfl ?_) | (refine CallP.one (fun H hb => k8 H _ hb) rfl ?_) | (refine onSome.intro (idx_ms rfl rfl rfl (by omega) (by omega)) ?_) | (refine onSome.intro (load_ms (l := [(1000 : Int), 1000000]) (enc := ei) (i := u5) (v := .int .i64 e5) rfl rfl (by omega) (show u5 < 2 by omega) (he5 ▸ rfl)) ?_) | (first | refine condP.dec (fun h => ?_) (fun h => ?_) | refine condP.eq (fun h => ?_) (fun h => ?_) | refine condP.ne (fun h => ?_) (fun h => ?_)) | (refine .i64 (by omega) (by omega) ?_) | (refine onSome.intro (idx_fs rfl rfl (by omega) (by omega) (fun _ => rfl)) ?_) | (refine onSome.intro (load_fs rfl (by omega) (by omega) rfl) ?_) | (refine And.intro rfl ?_))
          all_goals first | (exfalso; omega) | skip
          conv => whnf
          refine .nil (.inl rfl) rfl (by simp) (fun e he => by simp at he; subst he; rfl) (fun e he c hc => by simp at he; subst he; simp at hc; rcases hc with rfl | rfl | rfl | rfl | rfl <;> rfl) (n' := 1) rfl (by omega) ?_
          repeat' ((conv => whnf); first | (refine CallP.one (fun H hb => k1 H _ hb) rfl ?_) | (refine CallP.one (fun H hb => k2 H _ hb) rfl ?_) | (refine CallP.one (fun H hb => k3 H _ hb) rfl ?_) | (refine CallP.one (fun H hb => k4 H _ hb) rfl ?_) | (refine CallP.one (fun H hb => k5 H _ hb) rfl ?_) | (refine CallP.one (fun H hb => k6 H _ hb) rfl ?_) | (refine CallP.one (fun H hb => k7 H _ hb) rfl ?_) | (refine CallP.one (fun H hb => k8 H _ hb) rfl ?_) | (refine onSome.intro (idx_ms rfl rfl rfl (by omega) (by omega)) ?_) | (refine onSome.intro (load_ms (l := [(1000 : Int), 1000000]) (enc := ei) (i := u5) (v := .int .i64 e5) rfl rfl (by omega) (show u5 < 2 by omega) (he5 ▸ rfl)) ?_) | (first | refine condP.dec (fun h => ?_) (fun h => ?_) | refine condP.eq (fun h => ?_) (fun h => ?_) | refine condP.ne (fun h => ?_) (fun h => ?_)) | (refine .i64 (by omega) (by omega) ?_) | (refine onSome.intro (idx_fs rfl rfl (by omega) (by omega) (fun _ => rfl)) ?_) | (refine onSome.intro (load_fs rfl (by omega) (by omega) rfl) ?_) | (refine And.intro rfl ?_))
          conv => whnf
          have hP' := hP.snoc g2 (z := (⟨f, u1, u1 + u2 * u3, ra, rb⟩ : Zone)) rfl ⟨u10, by dsimp only; omega, by dsimp only; omega⟩ ⟨r0, r1, by dsimp only; omega⟩ (d := d6) (by omega)
          exact .more ([] ++ [(⟨f, u1, u1 + u2 * u3, ra, rb⟩ : Zone)], f + d6, t7, q - 1) [0, 1, 2, 3, 7] rfl ⟨hP', by dsimp only; omega, by simp at hq ⊢; omega, fun h => by simp at h⟩ (by dsimp only; omega) rfl
            ⟨.pt rfl, .pt rfl, .pt rfl, .same (.int _ _), .nn (.int _ _) (frz_int (by dsimp only; omega)), trivial⟩
            ⟨.same (S1_no _), .same row0, .same rowV, .row (.cons (.same (.int _ _)) (.cons (.ms rfl) .nil)), (by
              show MvS _ _ _ _ (.live 5 (([] ++ [(⟨f, u1, u1 + u2 * u3, ra, rb⟩ : Zone)]).map zr))
              rw [List.map_append]; exact .same (s := .live 5 ([].map zr ++ [(⟨f, u1, u1 + u2 * u3, ra, rb⟩ : Zone)].map zr)) (by rw [← List.map_append]; exact rowZ _)), trivial⟩
      · dsimp only
        cases w
        · repeat' ((conv => whnf); first | (refine CallP.one (fun H hb => k1 H _ hb) rfl ?_) | (refine CallP.one (fun H hb => k2 H _ hb) rfl ?_) | (refine CallP.one (fun H hb => k3 H _ hb) rfl ?_) | (refine CallP.one (fun H hb => k4 H _ hb) rfl ?_) | (refine CallP.one (fun H hb => k5 H _ hb) rfl ?_) | (refine CallP.one (fun H hb => k6 H _ hb) rfl ?_) | (refine CallP.one (fun H hb => k7 H _ hb) rfl ?_) | (refine CallP.one (fun H hb => k8 H _ hb) rfl ?_) | (refine onSome.intro (idx_ms rfl rfl rfl (by omega) (by omega)) ?_) | (refine onSome.intro (load_ms (l := [(1000 : Int), 1000000]) (enc := ei) (i := u5) (v := .int .i64 e5) rfl rfl (by omega) (show u5 < 2 by omega) (he5 ▸ rfl)) ?_) | (first | refine condP.dec (fun h => ?_) (fun h => ?_) | refine condP.eq (fun h => ?_) (fun h => ?_) | refine condP.ne (fun h => ?_) (fun h => ?_)) | (refine .i64 (by omega) (by omega) ?_) | (refine onSome.intro (idx_fs rfl rfl (by omega) (by omega) (fun _ => rfl)) ?_) | (refine onSome.intro (load_fs rfl (by omega) (by omega) rfl) ?_) | (refine And.intro rfl ?_))
          all_goals first | (exfalso; omega) | skip
          conv => whnf
          refine .grow rfl rfl (by simp) (es' := [[.int .i64 f, .int .i64 u1, .int .i64 (u1 + u2 * u3), .int .i64 0, .int .i64 0]]) rfl (by simp) (fun e he => by simp at he; subst he; rfl) (fun e he c hc => by simp at he; subst he; simp at hc; rcases hc with rfl | rfl | rfl | rfl | rfl <;> rfl) (r := ((z0 :: zs).map zr) ++ [[.int .i64 f, .int .i64 u1, .int .i64 (u1 + u2 * u3), .int .i64 0, .int .i64 0]]) rfl (n' := zs.length + 1 + 1) (by simp) (by simp at hq; omega) ?_
          repeat' ((conv => whnf); first | (refine CallP.one (fun H hb => k1 H _ hb) rfl ?_) | (refine CallP.one (fun H hb => k2 H _ hb) rfl ?_) | (refine CallP.one (fun H hb => k3 H _ hb) rfl ?_) | (refine CallP.one (fun H hb => k4 H _ hb) rfl ?_) | (refine CallP.one (fun H hb => k5 H _ hb) rfl ?_) | (refine CallP.one (fun H hb => k6 H _ hb) rfl ?_) | (refine CallP.one (fun H hb => k7 H _ hb) rfl ?_) | (refine CallP.one (fun H hb => k8 H _ hb) rfl ?_) | (refine onSome.intro (idx_ms rfl rfl rfl (by omega) (by omega)) ?_) | (refine onSome.intro (load_ms (l := [(1000 : Int), 1000000]) (enc := ei) (i := u5) (v := .int .i64 e5) rfl rfl (by omega) (show u5 < 2 by omega) (he5 ▸ rfl)) ?_) | (first | refine condP.dec (fun h => ?_) (fun h => ?_) | refine condP.eq (fun h => ?_) (fun h => ?_) | refine condP.ne (fun h => ?_) (fun h => ?_)) | (refine .i64 (by omega) (by omega) ?_) | (refine onSome.intro (idx_fs rfl rfl (by omega) (by omega) (fun _ => rfl)) ?_) | (refine onSome.intro (load_fs rfl (by omega) (by omega) rfl) ?_) | (refine And.intro rfl ?_))
          conv => whnf
          have hP' := hP.snoc g2 (z := (⟨f, u1, u1 + u2 * u3, 0, 0⟩ : Zone)) rfl ⟨u10, by dsimp only; omega, by dsimp only; omega⟩ ⟨Int.le_refl _, Int.le_refl _, show (0 : Int) ≤ 1000000 by decide⟩ (d := d4) (by omega)
          exact .more ((z0 :: zs) ++ [(⟨f, u1, u1 + u2 * u3, 0, 0⟩ : Zone)], f + d4, t8, q - 1) [0, 1, 2, 3, 7] rfl ⟨hP', by dsimp only; omega, by simp at hq ⊢; omega, fun h => by simp at h⟩ (by dsimp only; omega) rfl
            ⟨.pt rfl, .pt rfl, .pt rfl, .same (.int _ _), .nn (.int _ _) (frz_int (by dsimp only; omega)), trivial⟩
            ⟨.same (S1_no _), .same row0, .same rowV, .row (.cons (.same (.int _ _)) (.cons (by show Mv _ _ _ _ (.mslice 4 0 ((zs ++ [(⟨f, u1, u1 + u2 * u3, 0, 0⟩ : Zone)]).length + 1) ((zs ++ [(⟨f, u1, u1 + u2 * u3, 0, 0⟩ : Zone)]).length + 1) false); rw [List.length_append]; exact .ms rfl) .nil)), (by
              show MvS _ _ _ _ (.live 5 (((z0 :: zs) ++ [(⟨f, u1, u1 + u2 * u3, 0, 0⟩ : Zone)]).map zr))
              rw [List.map_append]; exact .same (s := .live 5 ((z0 :: zs).map zr ++ [(⟨f, u1, u1 + u2 * u3, 0, 0⟩ : Zone)].map zr)) (by rw [← List.map_append]; exact rowZ _)), trivial⟩
        · repeat' ((conv => whnf); first | (refine CallP.one (fun H hb => k1 H _ hb) rfl ?_) | (refine CallP.one (fun H hb => k2 H _ hb) rfl ?_) | (refine CallP.one (fun H hb => k3 H _ hb) rfl ?_) | (refine CallP.one (fun H hb => k4 H _ hb) rfl ?_) | (refine CallP.one (fun H hb => k5 H _ hb) rfl ?_) | (refine CallP.one (fun H hb => k6 H _ hb) rfl ?_) | (refine CallP.one (fun H hb => k7 H _ hb) rfl ?_) | (refine CallP.one (fun H hb => k8 H _ hb) rfl ?_) | (refine onSome.intro (idx_ms rfl rfl rfl (by omega) (by omega)) ?_) | (refine onSome.intro (load_ms (l := [(1000 : Int), 1000000]) (enc := ei) (i := u5) (v := .int .i64 e5) rfl rfl (by omega) (show u5 < 2 by omega) (he5 ▸ rfl)) ?_) | (first | refine condP.dec (fun h => ?_) (fun h => ?_) | refine condP.eq (fun h => ?_) (fun h => ?_) | refine condP.ne (fun h => ?_) (fun h => ?_)) | (refine .i64 (by omega) (by omega) ?_) | (refine onSome.intro (idx_fs rfl rfl (by omega) (by omega) (fun _ => rfl)) ?_) | (refine onSome.intro (load_fs rfl (by omega) (by omega) rfl) ?_) | (refine And.intro rfl ?_))
          all_goals first | (exfalso; omega) | skip
          conv => whnf
          refine .grow rfl rfl (by simp) (es' := [[.int .i64 f, .int .i64 u1, .int .i64 (u1 + u2 * u3), .int .i64 ra, .int .i64 rb]]) rfl (by simp) (fun e he => by simp at he; subst he; rfl) (fun e he c hc => by simp at he; subst he; simp at hc; rcases hc with rfl | rfl | rfl | rfl | rfl <;> rfl) (r := ((z0 :: zs).map zr) ++ [[.int .i64 f, .int .i64 u1, .int .i64 (u1 + u2 * u3), .int .i64 ra, .int .i64 rb]]) rfl (n' := zs.length + 1 + 1) (by simp) (by simp at hq; omega) ?_
          repeat' ((conv => whnf); first | (refine CallP.one (fun H hb => k1 H _ hb) rfl ?_) | (refine CallP.one (fun H hb => k2 H _ hb) rfl ?_) | (refine CallP.one (fun H hb => k3 H _ hb) rfl ?_) | (refine CallP.one (fun H hb => k4 H _ hb) rfl ?_) | (refine CallP.one (fun H hb => k5 H _ hb) rfl ?_) | (refine CallP.one (fun H hb => k6 H _ hb) rfl ?_) | (refine CallP.one (fun H hb => k7 H _ hb) rfl ?_) | (refine CallP.one (fun H hb => k8 H _ hb) rfl ?_) | (refine onSome.intro (idx_ms rfl rfl rfl (by omega) (by omega)) ?_) | (refine onSome.intro (load_ms (l := [(1000 : Int), 1000000]) (enc := ei) (i := u5) (v := .int .i64 e5) rfl rfl (by omega) (show u5 < 2 by omega) (he5 ▸ rfl)) ?_) | (first | refine condP.dec (fun h => ?_) (fun h => ?_) | refine condP.eq (fun h => ?_) (fun h => ?_) | refine condP.ne (fun h => ?_) (fun h => ?_)) | (refine .i64 (by omega) (by omega) ?_) | (refine onSome.intro (idx_fs rfl rfl (by omega) (by omega) (fun _ => rfl)) ?_) | (refine onSome.intro (load_fs rfl (by omega) (by omega) rfl) ?_) | (refine And.intro rfl ?_))
          conv => whnf
          have hP' := hP.snoc g2 (z := (⟨f, u1, u1 + u2 * u3, ra, rb⟩ : Zone)) rfl ⟨u10, by dsimp only; omega, by dsimp only; omega⟩ ⟨r0, r1, by dsimp only; omega⟩ (d := d6) (by omega)
          exact .more ((z0 :: zs) ++ [(⟨f, u1, u1 + u2 * u3, ra, rb⟩ : Zone)], f + d6, t7, q - 1) [0, 1, 2, 3, 8] rfl ⟨hP', by dsimp only; omega, by simp at hq ⊢; omega, fun h => by simp at h⟩ (by dsimp only; omega) rfl
            ⟨.pt rfl, .pt rfl, .pt rfl, .same (.int _ _), .nn (.int _ _) (frz_int (by dsimp only; omega)), trivial⟩
            ⟨.same (S1_no _), .same row0, .same rowV, .row (.cons (.same (.int _ _)) (.cons (by show Mv _ _ _ _ (.mslice 4 0 ((zs ++ [(⟨f, u1, u1 + u2 * u3, ra, rb⟩ : Zone)]).length + 1) ((zs ++ [(⟨f, u1, u1 + u2 * u3, ra, rb⟩ : Zone)]).length + 1) false); rw [List.length_append]; exact .ms rfl) .nil)), (by
              show MvS _ _ _ _ (.live 5 (((z0 :: zs) ++ [(⟨f, u1, u1 + u2 * u3, ra, rb⟩ : Zone)]).map zr))
              rw [List.map_append]; exact .same (s := .live 5 ((z0 :: zs).map zr ++ [(⟨f, u1, u1 + u2 * u3, ra, rb⟩ : Zone)].map zr)) (by rw [← List.map_append]; exact rowZ _)), trivial⟩
    · rcases zs with _ | ⟨z0, zs⟩
      · exfalso
        have := hn rfl
        have := hP.nil rfl
        omega
      · dsimp only
        have hok := hP.ok (by simp) (by simp at hq ⊢; omega)
        repeat' ((conv => whnf); first | (first | refine condP.dec (fun h => ?_) (fun h => ?_) | refine condP.eq (fun h => ?_) (fun h => ?_) | refine condP.ne (fun h => ?_) (fun h => ?_)) | (refine .i64 (by omega) (by omega) ?_) | (refine onSome.intro (idx_fs rfl rfl (by omega) (by omega) (fun _ => rfl)) ?_) | (refine onSome.intro (load_fs rfl (by omega) (by omega) rfl) ?_) | (refine And.intro rfl ?_))
        all_goals first | (exfalso; omega) | skip
        all_goals conv => whnf
        all_goals refine .done (by simp) ?_
        all_goals conv => whnf
        all_goals exact .intro [0, 1, 4] [(2, .ptr 1 0 0)] (S1 s) (.live 2 [[.int .i64 b, .mslice 2 0 (zs.length + 1) (zs.length + 1) false]]) (.live 5 ((z0 :: zs).map zr)) (.agg [.int .i64 b, .mslice 1 0 (zs.length + 1) (zs.length + 1) false]) (.inl rfl) rfl ⟨.pt rfl, trivial⟩ ⟨.same (S1_no _), .row (.cons (.same (.int _ _)) (.cons (.ms rfl) .nil)), .same (rowZ _), trivial⟩ rfl (S1_no _) (rowZ _) (in_agg (in_cons (.int _ _) (in_one (.mslice _ _ _ _ _ (by simp))))) ⟨b, z0 :: zs, s, rfl, rfl, rfl, hb.1, hb.2, hok⟩)
  obtain ⟨v, z, t, ⟨b, zs, s', rfl, rfl, rfl, q1, q2, q3⟩, _, _, hh⟩ := key
  exact ⟨b, zs, s', q1, q2, q3, fun H n m hn hm => hh H n m hn hm⟩
theorem OvenOf_new (s legs ticks : Int) (h0 : 0 ≤ legs) (h1 : legs ≤ 50) (h2 : 1 ≤ ticks) (h3 : ticks ≤ 2000) : ∃ (f : Int) (ls : List Leg) (s' : Int), 300 ≤ f ∧ f ≤ 1200 ∧ (ls.length : Int) ≤ legs ∧ LegsIn ticks ls ∧
    ∀ (H : Heap) (n m : Nat), H n = S1 s → H m = .free → Ev T (.call (.func (.func 23) [] []) [.ptr n 0 0, .int .i64 legs, .int .i64 ticks] H) (.call (.agg [.int .i64 f, omsl m ls]) ((H.set n (S1 s')).set m (lsS 2 lr ls))) := by
  have key := run_dice_over T23 (args := [.int .i64 legs, .int .i64 ticks]) (s := S1 s) (P := fun v z t => ∃ (f : Int) (ls : List Leg) (s' : Int), v = .agg [.int .i64 f, omsl 1 ls] ∧ z = S1 s' ∧ t = lsS 2 lr ls ∧ 300 ≤ f ∧ f ≤ 1200 ∧ (ls.length : Int) ≤ legs ∧ LegsIn ticks ls)
    (S1_no _) (nn_cons (nn_int _ _) (nn_cons (nn_int _ _) nn_none)) (by
    have q := Between_any s 300 1200 (by omega) (by omega) (by omega)
    obtain ⟨f, s1, f0, f1, k1⟩ := q
    have q := Upto_any s1 (legs + 1) (by omega)
    obtain ⟨m, s2, m0, m1, k2⟩ := q
    repeat' ((conv => whnf); first | (refine CallP.one (fun H hb => k1 H _ hb) rfl ?_) | (refine CallP.one (fun H hb => k2 H _ hb) rfl ?_) | (first | refine condP.dec (fun h => ?_) (fun h => ?_) | refine condP.eq (fun h => ?_) (fun h => ?_) | refine condP.ne (fun h => ?_) (fun h => ?_)) | (refine .i64 (by omega) (by omega) ?_) | (refine onSome.intro (idx_fs rfl rfl (by omega) (by omega) (fun _ => rfl)) ?_) | (refine onSome.intro (load_fs rfl (by omega) (by omega) rfl) ?_) | (refine And.intro rfl ?_))
    conv => whnf
    refine .pad 1 ?_
    refine loop_grow (X := List Leg × Int × Nat) (fun x => [(0, .ptr 0 0 0), (2, .int .i64 ticks), (6, .ptr 1 0 0), (7, .ptr 2 0 0), (8, .int .i64 x.2.2)]) (fun x => [S1 x.2.1, .live 2 [[.int .i64 0, .nilslice]], .live 2 [[.int .i64 f, omsl 3 x.1]], lsS 2 lr x.1])
      (fun x => x.2.2) (fun x => (x.1.length : Int) + x.2.2 ≤ legs ∧ LegsIn ticks x.1) ([], s2, m.toNat) ⟨by simp; omega, fun i hi => by simp at hi⟩ ⟨rfl, rfl, rfl, rfl, (by show i6 _ = i6 _; rw [show ((m.toNat : Nat) : Int) = m by omega]), trivial⟩ rfl (fun x hx => ?_)
    obtain ⟨ls, s, q⟩ := x
    have hq := hx.1
    have hL := hx.2
    dsimp only at hq hL ⊢
    clear hx
    rcases Nat.eq_zero_or_pos q with rfl | hpos
    · repeat' ((conv => whnf); first | (refine force_om ?_) | (refine condP.dec (fun h => absurd h (by omega)) (fun _ => ?_)) | (first | refine condP.dec (fun h => ?_) (fun h => ?_) | refine condP.eq (fun h => ?_) (fun h => ?_) | refine condP.ne (fun h => ?_) (fun h => ?_)) | (refine .i64 (by omega) (by omega) ?_) | (refine onSome.intro (idx_fs rfl rfl (by omega) (by omega) (fun _ => rfl)) ?_) | (refine onSome.intro (load_fs rfl (by omega) (by omega) rfl) ?_) | (refine And.intro rfl ?_))
      refine .done (by simp) ?_
      have hl0 : (ls.length : Int) ≤ legs := by omega
      rcases ls with _ | ⟨l0, ls⟩
      · conv => whnf
        exact .intro [0, 1, 3] [(6, .ptr 1 0 0)] (S1 s) (.live 2 [[.int .i64 f, .nilslice]]) .dead (.agg [.int .i64 f, .nilslice]) (.inl rfl) rfl ⟨.pt rfl, trivial⟩ ⟨.same (S1_no _), .row (.cons (.same (.int _ _)) (.cons (.same .nilslice) .nil)), .same (s := .dead) trivial, trivial⟩ rfl (S1_no _) trivial
          (in_agg (in_cons (.int _ _) (in_one .nilslice))) ⟨f, [], s, rfl, rfl, rfl, f0, f1, hl0, hL⟩
      · conv => whnf
        exact .intro [0, 1, 3] [(6, .ptr 1 0 0)] (S1 s) (.live 2 [[.int .i64 f, .mslice 2 0 (ls.length + 1) (ls.length + 1) false]]) (.live 2 ((l0 :: ls).map lr)) (.agg [.int .i64 f, .mslice 1 0 (ls.length + 1) (ls.length + 1) false]) (.inl rfl) rfl ⟨.pt rfl, trivial⟩
          ⟨.same (S1_no _), .row (.cons (.same (.int _ _)) (.cons (.ms rfl) .nil)), .same (noS_map (enc := lr) lr_no), trivial⟩ rfl (S1_no _) (noS_map (enc := lr) lr_no) (in_agg (in_cons (.int _ _) (in_one (.mslice _ _ _ _ _ (by simp))))) ⟨f, l0 :: ls, s, rfl, rfl, rfl, f0, f1, hl0, hL⟩
    · have y := Between_any s 1 ticks (by omega) (by omega) (by omega)
      obtain ⟨a, t1, a0, a1, j1⟩ := y
      have y := Between_any t1 300 1200 (by omega) (by omega) (by omega)
      obtain ⟨b1, t2, b10, b11, j2⟩ := y
      have y := Upto_any t2 2001 (by omega)
      obtain ⟨c, t3, c0, c1, j3⟩ := y
      have y := Upto_any t3 3 (by omega)
      obtain ⟨u, t4, u0, u1, j4⟩ := y
      have hy : 0 ≤ at' [b1, c, f] u ∧ at' [b1, c, f] u ≤ 2000 := by
        have : u = 0 ∨ u = 1 ∨ u = 2 := by omega
        rcases this with rfl | rfl | rfl <;> simp [at'] <;> omega
      have y : ∃ e, e = at' [b1, c, f] u := ⟨_, rfl⟩
      obtain ⟨y, he⟩ := y
      rw [← he] at hy
      have hN := hL.snoc (l := ⟨a, y⟩) ⟨a0, a1, hy⟩
      have hlen : ls.length ≤ 50 := by omega
      repeat' ((conv => whnf); first | (refine force_om ?_) | (refine condP.dec (fun _ => ?_) (fun h => absurd (by omega) h)) | (refine CallP.one (fun H hb => j1 H _ hb) rfl ?_) | (refine CallP.one (fun H hb => j2 H _ hb) rfl ?_) | (refine CallP.one (fun H hb => j3 H _ hb) rfl ?_) | (refine CallP.one (fun H hb => j4 H _ hb) rfl ?_) | (refine onSome.intro (idx_ms rfl rfl rfl (by omega) (by omega)) ?_) | (refine onSome.intro (load_ms (l := [b1, c, f]) (enc := ei) (i := u) (v := .int .i64 y) rfl rfl (by omega) (show u < 3 by omega) (he ▸ rfl)) ?_) | (first | refine condP.dec (fun h => ?_) (fun h => ?_) | refine condP.eq (fun h => ?_) (fun h => ?_) | refine condP.ne (fun h => ?_) (fun h => ?_)) | (refine .i64 (by omega) (by omega) ?_) | (refine onSome.intro (idx_fs rfl rfl (by omega) (by omega) (fun _ => rfl)) ?_) | (refine onSome.intro (load_fs rfl (by omega) (by omega) rfl) ?_) | (refine And.intro rfl ?_))
      conv => whnf
      refine .snoc (enc := lr) (l := ls) (b := 3) (r := [.int .i64 a, .int .i64 y]) rfl rfl rfl rfl (fun c hc => by simp at hc; rcases hc with rfl | rfl <;> rfl) (by omega) ?_
      (repeat ((conv => whnf); refine And.intro rfl ?_)); conv => whnf
      refine .i64 (by omega) (by omega) ?_
      conv => whnf
      exact .more (ls ++ [⟨a, y⟩], t4, q - 1) [0, 1, 2, 6] rfl ⟨by simp; omega, hN⟩ (by dsimp only; omega) rfl ⟨.pt rfl, .same (.int _ _), .pt rfl, .pt rfl, .nn (.int _ _) (frz_int (by dsimp only; omega)), trivial⟩
        ⟨.same (S1_no _), .same (noS_row (nn_cons (.int _ _) (nn_cons .nilslice nn_none))), .row (.cons (.same (.int _ _)) (.cons (.grown rfl (by simp) (by simp)) .nil)), .snocL (enc := lr) (a := ⟨a, y⟩) lr_no (.cons (.same (.int _ _)) (.cons (.same (.int _ _)) .nil)), trivial⟩)
  obtain ⟨v, z, t, ⟨f, ls, s', rfl, rfl, rfl, q1, q2, q3, q4⟩, _, _, hh⟩ := key
  refine ⟨f, ls, s', q1, q2, q3, q4, fun H n m hn hm => ?_⟩
  have := hh H n m hn hm
  cases ls with
  | nil => exact this
  | cons _ _ => exact this

end Go.Proofs.Ytpbadgghhiommaa.I
