/- Dice, stuffs made of numbers. -/
import Derived.Test.YtpbadgghhiommaaGstr
set_option linter.unusedVariables false
set_option maxHeartbeats 16000000
set_option linter.unusedSimpArgs false
namespace Go.Proofs.Ytpbadgghhiommaa.I
open Go.Ideal

theorem NewDice_ok (l : List Int) (hl : l.length ≤ 9223372036854775807) : ∃ s : Int, ∀ (H : Heap) (n : Nat), H n = .free → Ev T (.call (.func (.func 21) [] []) [sl l] H) (.call (.ptr n 0 0) (H.set n (S1 s))) := by
  have key := run_new T21 (args := [sl l]) (P := fun v k s => v = .ptr 0 0 0 ∧ k = 0 ∧ ∃ n, s = S1 n) (nn_cons (sl_no _) nn_none) (by
    conv => whnf
    refine .u64 (by simp) (by simp; omega) ?_
    conv => whnf
    refine .wrap ?_
    generalize IntKind.u64.wrap _ = w
    conv => whnf
    refine loop_rule (X := Nat × Int) (fun x => [(0, sl l), (3, .ptr 0 0 0), (4, .int .i64 x.1)]) (fun x => [S1 x.2]) (fun x => l.length - x.1) (fun x => x.1 ≤ l.length) (0, w)
      (Nat.zero_le _) ⟨rfl, rfl, rfl, trivial⟩ rfl (fun _ _ => rfl) (fun x hx => ?_)
    obtain ⟨i, s⟩ := x
    simp only at hx
    dsimp only
    conv => whnf
    refine condP.dec (fun h => ?_) (fun h => ?_)
    · have hlt : (i : Int) < l.length := by simpa using h
      conv => whnf
      refine onSome.intro (idx_fs rfl rfl (Int.natCast_nonneg _) hlt (fun _ => rfl)) ?_
      conv => whnf
      refine onSome.intro (load_fs (v := .int .i64 (at' l i)) rfl (Int.natCast_nonneg _) hlt rfl) ?_
      conv => whnf
      refine .wrap ?_
      conv => whnf
      refine CallP.one (fun H hb => next_ok _ H hb) rfl ?_
      conv => whnf
      refine .i64 (by omega) (by omega) ?_
      conv => whnf
      exact .more (i + 1, _) rfl (by simp only; omega) (by simp only; omega) ⟨rfl, rfl, rfl, trivial⟩ rfl ⟨(sl_no _).inn _, .ptr _ _ _ (by simp), .int _ _, trivial⟩ ⟨fun j k h h' => (S1_no _ _ (List.getElem_mem h) _ (List.getElem_mem h')).inn _, trivial⟩
    · conv => whnf
      refine .done (by simp) ?_
      conv => whnf
      exact .intro (.ptr 0 0 0) 0 (S1 s) ⟨rfl, rfl, s, rfl⟩ (.inl rfl) rfl rfl (S1_no s) (.ptr _ _ _ rfl))
  obtain ⟨v, k, s, ⟨rfl, rfl, n, rfl⟩, _, h⟩ := key
  refine ⟨n, fun H m hm => ?_⟩
  have := h H m hm
  simpa [IV.ren, sw] using this

theorem rate_any (s m : Int) (h0 : 0 ≤ m) (h1 : m ≤ 1000000) : ∃ a b s' : Int, 0 ≤ a ∧ a ≤ b ∧ b ≤ m ∧ ∀ (H : Heap) (n : Nat), H n = S1 s → Ev T (.call (.func (.func 83) [] []) [.ptr n 0 0, .int .i64 m] H) (.call (rgI a b) (H.set n (S1 s'))) := by
  have key := run_one_some T83 (i := 0) (off := 0) (args := [.int .i64 m]) (s := S1 s) (P := fun v z => ∃ a b s' : Int, v = rgI a b ∧ z = S1 s' ∧ 0 ≤ a ∧ a ≤ b ∧ b ≤ m)
    (nn_cons (nn_int _ _) nn_none) (S1_no _) (by
    have q := Upto_any s 5 (by omega)
    obtain ⟨u, s1, u0, u1, k1⟩ := q
    have q := Between_any s1 0 m h0 (by omega) (by omega)
    obtain ⟨n, s2, n0, n1, k2⟩ := q
    have hq : 0 ≤ m.tdiv 4 ∧ m.tdiv 4 ≤ m := by
      rw [Int.tdiv_eq_ediv_of_nonneg h0]; omega
    have q := Upto_any s2 (m.tdiv 4 + 1) (by omega)
    obtain ⟨v, s3, v0, v1, k3⟩ := q
    repeat' ((conv => whnf); first | (refine CallP.one (fun H hb => k1 H _ hb) rfl ?_) | (refine CallP.one (fun H hb => k2 H _ hb) rfl ?_) | (refine CallP.one (fun H hb => k3 H _ hb) rfl ?_) | (refine onTrue.intro (by simp) ?_) | (first | refine condP.dec (fun h => ?_) (fun h => ?_) | refine condP.eq (fun h => ?_) (fun h => ?_) | refine condP.ne (fun h => ?_) (fun h => ?_)) | (refine .i64 (by omega) (by omega) ?_) | (refine onSome.intro (idx_fs rfl rfl (by omega) (by omega) (fun _ => rfl)) ?_) | (refine onSome.intro (load_fs rfl (by omega) (by omega) rfl) ?_) | (refine And.intro rfl ?_))
    all_goals conv => whnf
    · exact .intro (rgI 0 0) (S1 s1) ⟨0, 0, s1, rfl, rfl, by omega, by omega, by omega⟩ (rgI_no _ _) (S1_no _) (.one (.inl rfl) rfl rfl (.refl _) (rgI_no _ _))
    · exact .intro (rgI n n) (S1 s2) ⟨n, n, s2, rfl, rfl, by omega, by omega, by omega⟩ (rgI_no _ _) (S1_no _) (.one (.inl rfl) rfl rfl (.refl _) (rgI_no _ _))
    · exact .intro (rgI n (min m (n + v))) (S1 s3) ⟨n, min m (n + v), s3, rfl, rfl, by omega, by omega, by omega⟩ (rgI_no _ _) (S1_no _) (.one (.inl rfl) rfl rfl (.refl _) (rgI_no _ _)))
  obtain ⟨v, z, ⟨a, b, s', rfl, rfl, q1, q2, q3⟩, _, _, hh⟩ := key
  exact ⟨a, b, s', q1, q2, q3, fun H n hn => hh H n hn⟩

structure PZ (zs : List Zone) (from_ : Int) : Prop where
  nil : zs = [] → from_ = 0
  from0 : 0 ≤ from_
  first : 0 < zs.length → (zn zs 0).fr = 0
  asc : ∀ i, i + 1 < zs.length → (zn zs i).fr < (zn zs (i + 1)).fr
  fr : ∀ i, i < zs.length → 0 ≤ (zn zs i).fr ∧ (zn zs i).fr ≤ 2000 ∧ (zn zs i).fr < from_
  gr : ∀ i, i < zs.length → 0 ≤ (zn zs i).gl ∧ (zn zs i).gl ≤ (zn zs i).gh ∧ (zn zs i).gh ≤ 100000
  re : ∀ i, i < zs.length → 0 ≤ (zn zs i).rl ∧ (zn zs i).rl ≤ (zn zs i).rh ∧ (zn zs i).rh ≤ 1000000
theorem zn_snoc (zs : List Zone) (z : Zone) (i : Nat) (h : i ≤ zs.length) : zn (zs ++ [z]) i = if i < zs.length then zn zs i else z := by
  unfold zn
  split
  · rename_i c
    simp [List.getD_eq_getElem?_getD, List.getElem?_append_left c]
  · obtain rfl : i = zs.length := by omega
    simp [List.getD_eq_getElem?_getD]
theorem PZ.snoc {zs : List Zone} {f : Int} (h : PZ zs f) (hf : f ≤ 2000) {z : Zone} (hz : z.fr = f) (hg : 0 ≤ z.gl ∧ z.gl ≤ z.gh ∧ z.gh ≤ 100000) (hr : 0 ≤ z.rl ∧ z.rl ≤ z.rh ∧ z.rh ≤ 1000000) {d : Int} (hd : 1 ≤ d) : PZ (zs ++ [z]) (f + d) := by
  have hlen : (zs ++ [z]).length = zs.length + 1 := by simp
  have h0 := h.from0
  refine ⟨fun q => by simp at q, by omega, fun _ => ?_, fun i hi => ?_, fun i hi => ?_, fun i hi => ?_, fun i hi => ?_⟩
  · rw [zn_snoc zs z 0 (by omega)]
    split
    · exact h.first (by assumption)
    · rw [hz, h.nil (List.length_eq_zero_iff.mp (by omega))]
  · rw [hlen] at hi
    rw [zn_snoc zs z i (by omega), zn_snoc zs z (i + 1) (by omega), if_pos (by omega)]
    split
    · exact h.asc i (by assumption)
    · rw [hz]; exact (h.fr i (by omega)).2.2
  · rw [hlen] at hi
    rw [zn_snoc zs z i (by omega)]
    split
    · have := h.fr i (by assumption); omega
    · omega
  · rw [hlen] at hi
    rw [zn_snoc zs z i (by omega)]
    split
    · exact h.gr i (by assumption)
    · exact hg
  · rw [hlen] at hi
    rw [zn_snoc zs z i (by omega)]
    split
    · exact h.re i (by assumption)
    · exact hr
theorem PZ.ok {zs : List Zone} {f : Int} (h : PZ zs f) (hp : 0 < zs.length) (hl : zs.length ≤ 16) : ZOk zs :=
  ⟨hp, hl, h.first hp, h.asc, fun i hi => ⟨(h.fr i hi).1, (h.fr i hi).2.1⟩, h.gr, h.re⟩
theorem StuffOf_ok (s : Int) : ∃ (b : Int) (zs : List Zone) (s' : Int), 1 ≤ b ∧ b ≤ 1000000000 ∧ ZOk zs ∧ ∀ (H : Heap) (n : Nat), H n = S1 s → Ev T (.call (.func (.func 22) [] []) [.ptr n 0 0] H) (.call (stuffI b zs) (H.set n (S1 s'))) := by
  have key := run_one_some T22 (i := 0) (off := 0) (args := []) (s := S1 s) (P := fun v z => ∃ (b : Int) (zs : List Zone) (s' : Int), v = stuffI b zs ∧ z = S1 s' ∧ 1 ≤ b ∧ b ≤ 1000000000 ∧ ZOk zs)
    nn_none (S1_no _) (by
    have q := Between_any s 1 1000 (by omega) (by omega) (by omega)
    obtain ⟨v1, s1, v10, v11, k1⟩ := q
    have q := Between_any s1 1 1000000 (by omega) (by omega) (by omega)
    obtain ⟨v2, s2, v20, v21, k2⟩ := q
    have q := Between_any s2 1 1000000000 (by omega) (by omega) (by omega)
    obtain ⟨v3, s3, v30, v31, k3⟩ := q
    have q := Upto_any s3 3 (by omega)
    obtain ⟨u, s4, u0, u1, k4⟩ := q
    have q := Between_any s4 1 4 (by omega) (by omega) (by omega)
    obtain ⟨m, s5, m0, m1, k5⟩ := q
    have hb : 1 ≤ at' [v1, v2, v3] u ∧ at' [v1, v2, v3] u ≤ 1000000000 := by
      have : u = 0 ∨ u = 1 ∨ u = 2 := by omega
      rcases this with rfl | rfl | rfl <;> simp [at'] <;> omega
    have hx : ∃ b, b = at' [v1, v2, v3] u := ⟨_, rfl⟩
    obtain ⟨b, hx⟩ := hx
    rw [← hx] at hb
    conv => whnf
    refine CallP.one (fun H hb => k1 H _ hb) rfl ?_
    conv => whnf
    refine CallP.one (fun H hb => k2 H _ hb) rfl ?_
    conv => whnf
    refine CallP.one (fun H hb => k3 H _ hb) rfl ?_
    conv => whnf
    refine CallP.one (fun H hb => k4 H _ hb) rfl ?_
    conv => whnf
    refine onSome.intro (idx_ms rfl rfl rfl (by omega) (by omega)) ?_
    conv => whnf
    refine onSome.intro (load_ms (l := [v1, v2, v3]) (enc := ei) (i := u) (v := .int .i64 b) rfl rfl (by omega) (by simp; omega) (by rw [hx]; rfl)) ?_
    conv => whnf
    refine CallP.one (fun H hb => k5 H _ hb) rfl ?_
    conv => whnf
    refine loop_grow (X := List Zone × Int × Int × Nat) (fun x => [(0, .ptr 0 0 0), (2, .ptr 1 0 0), (3, .ptr 3 0 0), (4, .int .i64 x.2.1), (5, .int .i64 x.2.2.2)])
      (fun x => match x.1 with
        | [] => [S1 x.2.2.1, .live 2 [[.int .i64 0, .nilslice]], .live 1 [[.int .i64 v1], [.int .i64 v2], [.int .i64 v3]], .live 2 [[.int .i64 b, .nilslice]]]
        | z :: zs => [S1 x.2.2.1, .live 2 [[.int .i64 0, .nilslice]], .live 1 [[.int .i64 v1], [.int .i64 v2], [.int .i64 v3]], .live 2 [[.int .i64 b, .mslice 4 0 (zs.length + 1) (zs.length + 1) false]], .live 5 ((z :: zs).map zr)])
      (fun x => x.2.2.2) (fun x => PZ x.1 x.2.1 ∧ x.2.1 ≤ 3000 ∧ x.1.length + x.2.2.2 ≤ 4 ∧ (x.1 = [] → 0 < x.2.2.2)) ([], 0, s5, m.toNat)
      ⟨⟨fun _ => rfl, Int.le_refl _, fun h => by simp at h, fun i h => by simp at h, fun i h => by simp at h, fun i h => by simp at h, fun i h => by simp at h⟩, by simp, by simp; omega, fun _ => by dsimp only; omega⟩
      ⟨rfl, rfl, rfl, rfl, by show i6 _ = i6 _; rw [show ((m.toNat : Nat) : Int) = m by omega], trivial⟩ rfl (fun x hx => ?_)
    obtain ⟨zs, f, s, q⟩ := x
    obtain ⟨hP, hf, hq, hn⟩ := hx
    dsimp only at hP hf hq hn ⊢
    have hf0 := hP.from0
    have y := Upto_any s 20000 (by omega)
    obtain ⟨u1, t1, u10, u11, k1⟩ := y
    have y := Upto_any t1 2000 (by omega)
    obtain ⟨u2, t2, u20, u21, k2⟩ := y
    have y := Upto_any t2 2 (by omega)
    obtain ⟨u3, t3, u30, u31, k3⟩ := y
    have hmul := mul_in u20 (show u2 ≤ 2000 by omega) u30 (show u3 ≤ 2 by omega)
    have y := One_any t3 2 (by omega)
    obtain ⟨w, t4, k4⟩ := y
    have y := Upto_any t4 2 (by omega)
    obtain ⟨u5, t5, u50, u51, k5⟩ := y
    have hm5 : 0 ≤ at' [(1000 : Int), 1000000] u5 ∧ at' [(1000 : Int), 1000000] u5 ≤ 1000000 := by
      have : u5 = 0 ∨ u5 = 1 := by omega
      rcases this with rfl | rfl <;> simp [at']
    have y : ∃ e, e = at' [(1000 : Int), 1000000] u5 := ⟨_, rfl⟩
    obtain ⟨e5, he5⟩ := y
    rw [← he5] at hm5
    have y := rate_any t5 e5 hm5.1 hm5.2
    obtain ⟨ra, rb, t6, r0, r1, r2, k6⟩ := y
    have y := Between_any t6 1 900 (by omega) (by omega) (by omega)
    obtain ⟨d6, t7, d60, d61, k7⟩ := y
    have y := Between_any t4 1 900 (by omega) (by omega) (by omega)
    obtain ⟨d4, t8, d40, d41, k8⟩ := y
    have one : ∀ k, k = k1 → True := fun _ _ => trivial
    clear one
    have rowZ : ∀ (z : List Zone), NonameS (.live 5 (z.map zr)) := fun z => noS_map (fun a => zr_no a)
    have rowV : NonameS (.live 1 [[.int .i64 v1], [.int .i64 v2], [.int .i64 v3]]) := noS_map (l := [v1, v2, v3]) (enc := ei) (fun a => nn_cons (.int _ _) nn_none)
    have row0 : NonameS (.live 2 [[.int .i64 0, .nilslice]]) := noS_row (nn_cons (.int _ _) (nn_cons .nilslice nn_none))
    by_cases hgo : 0 < q ∧ f ≤ 2000
    · obtain ⟨g1, g2⟩ := hgo
      rcases zs with _ | ⟨z0, zs⟩
      · dsimp only
        cases w
        · repeat' ((conv => whnf); first | (refine CallP.one (fun H hb => k1 H _ hb) rfl ?_) | (refine CallP.one (fun H hb => k2 H _ hb) rfl ?_) | (refine CallP.one (fun H hb => k3 H _ hb) rfl ?_) | (refine CallP.one (fun H hb => k4 H _ hb) rfl ?_) | (refine CallP.one (fun H hb => k5 H _ hb) rfl ?_) | (refine CallP.one (fun H hb => k6 H _ hb) rfl ?_) | (refine CallP.one (fun H hb => k7 H _ hb) rfl ?_) | (refine CallP.one (fun H hb => k8 H _ hb) rfl ?_) | (refine onSome.intro (idx_ms rfl rfl rfl (by omega) (by omega)) ?_) | (refine onSome.intro (load_ms (l := [(1000 : Int), 1000000]) (enc := ei) (i := u5) (v := .int .i64 e5) rfl rfl (by omega) (show u5 < 2 by omega) (he5 ▸ rfl)) ?_) | (first | refine condP.dec (fun h => ?_) (fun h => ?_) | refine condP.eq (fun h => ?_) (fun h => ?_) | refine condP.ne (fun h => ?_) (fun h => ?_)) | (refine .i64 (by omega) (by omega) ?_) | (refine onSome.intro (idx_fs rfl rfl (by omega) (by omega) (fun _ => rfl)) ?_) | (refine onSome.intro (load_fs rfl (by omega) (by omega) rfl) ?_) | (refine And.intro rfl ?_))
          all_goals first | (exfalso; omega) | skip
          conv => whnf
          refine .nil (.inl rfl) rfl (by simp) (fun e he => by simp at he; subst he; rfl) (fun e he c hc => by simp at he; subst he; simp at hc; rcases hc with rfl | rfl | rfl | rfl | rfl <;> rfl) (n' := 1) rfl (by omega) ?_
          repeat' ((conv => whnf); first | (refine CallP.one (fun H hb => k1 H _ hb) rfl ?_) | (refine CallP.one (fun H hb => k2 H _ hb) rfl ?_) | (refine CallP.one (fun H hb => k3 H _ hb) rfl ?_) | (refine CallP.one (fun H hb => k4 H _ hb) rfl ?_) | (refine CallP.one (fun H hb => k5 H _ hb) rfl ?_) | (refine CallP.one (fun H hb => k6 H _ hb) rfl ?_) | (refine CallP.one (fun H hb => k7 H _ hb) rfl ?_) | (refine CallP.one (fun H hb => k8 H _ hb) rfl ?_) | (refine onSome.intro (idx_ms rfl rfl rfl (by omega) (by omega)) ?_) | (refine onSome.intro (load_ms (l := [(1000 : Int), 1000000]) (enc := ei) (i := u5) (v := .int .i64 e5) rfl rfl (by omega) (show u5 < 2 by omega) (he5 ▸ rfl)) ?_) | (first | refine condP.dec (fun h => ?_) (fun h => ?_) | refine condP.eq (fun h => ?_) (fun h => ?_) | refine condP.ne (fun h => ?_) (fun h => ?_)) | (refine .i64 (by omega) (by omega) ?_) | (refine onSome.intro (idx_fs rfl rfl (by omega) (by omega) (fun _ => rfl)) ?_) | (refine onSome.intro (load_fs rfl (by omega) (by omega) rfl) ?_) | (refine And.intro rfl ?_))
          conv => whnf
          have hP' := hP.snoc g2 (z := (⟨f, u1, u1 + u2 * u3, 0, 0⟩ : Zone)) rfl ⟨u10, by dsimp only; omega, by dsimp only; omega⟩ ⟨Int.le_refl _, Int.le_refl _, show (0 : Int) ≤ 1000000 by decide⟩ (d := d4) (by omega)
          exact .more ([] ++ [(⟨f, u1, u1 + u2 * u3, 0, 0⟩ : Zone)], f + d4, t8, q - 1) [0, 1, 2, 3, 6] rfl ⟨hP', by dsimp only; omega, by simp at hq ⊢; omega, fun h => by simp at h⟩ (by dsimp only; omega) rfl
            ⟨.pt rfl, .pt rfl, .pt rfl, .same (.int _ _), .nn (.int _ _) (frz_int (by dsimp only; omega)), trivial⟩
            ⟨.same (S1_no _), .same row0, .same rowV, .row (.cons (.same (.int _ _)) (.cons (.ms rfl) .nil)), (by
              show MvS _ _ _ _ (.live 5 (([] ++ [(⟨f, u1, u1 + u2 * u3, 0, 0⟩ : Zone)]).map zr))
              rw [List.map_append]; exact .same (s := .live 5 ([].map zr ++ [(⟨f, u1, u1 + u2 * u3, 0, 0⟩ : Zone)].map zr)) (by rw [← List.map_append]; exact rowZ _)), trivial⟩
        · repeat' ((conv => whnf); first | (refine CallP.one (fun H hb => k1 H _ hb) rfl ?_) | (refine CallP.one (fun H hb => k2 H _ hb) rfl ?_) | (refine CallP.one (fun H hb => k3 H _ hb) rfl ?_) | (refine CallP.one (fun H hb => k4 H _ hb) rfl ?_) | (refine CallP.one (fun H hb => k5 H _ hb) rfl ?_) | (refine CallP.one (fun H hb => k6 H _ hb) rfl ?_) | (refine CallP.one (fun H hb => k7 H _ hb) rfl ?_) | (refine CallP.one (fun H hb => k8 H _ hb) rfl ?_) | (refine onSome.intro (idx_ms rfl rfl rfl (by omega) (by omega)) ?_) | (refine onSome.intro (load_ms (l := [(1000 : Int), 1000000]) (enc := ei) (i := u5) (v := .int .i64 e5) rfl rfl (by omega) (show u5 < 2 by omega) (he5 ▸ rfl)) ?_) | (first | refine condP.dec (fun h => ?_) (fun h => ?_) | refine condP.eq (fun h => ?_) (fun h => ?_) | refine condP.ne (fun h => ?_) (fun h => ?_)) | (refine .i64 (by omega) (by omega) ?_) | (refine onSome.intro (idx_fs rfl rfl (by omega) (by omega) (fun _ => rfl)) ?_) | (refine onSome.intro (load_fs rfl (by omega) (by omega) rfl) ?_) | (refine And.intro rfl ?_))
          all_goals first | (exfalso; omega) | skip
          conv => whnf
          refine .nil (.inl rfl) rfl (by simp) (fun e he => by simp at he; subst he; rfl) (fun e he c hc => by simp at he; subst he; simp at hc; rcases hc with rfl | rfl | rfl | rfl | rfl <;> rfl) (n' := 1) rfl (by omega) ?_
          repeat' ((conv => whnf); first | (refine CallP.one (fun H hb => k1 H _ hb) rfl ?_) | (refine CallP.one (fun H hb => k2 H _ hb) rfl ?_) | (refine CallP.one (fun H hb => k3 H _ hb) rfl ?_) | (refine CallP.one (fun H hb => k4 H _ hb) rfl ?_) | (refine CallP.one (fun H hb => k5 H _ hb) rfl ?_) | (refine CallP.one (fun H hb => k6 H _ hb) rfl ?_) | (refine CallP.one (fun H hb => k7 H _ hb) rfl ?_) | (refine CallP.one (fun H hb => k8 H _ hb) rfl ?_) | (refine onSome.intro (idx_ms rfl rfl rfl (by omega) (by omega)) ?_) | (refine onSome.intro (load_ms (l := [(1000 : Int), 1000000]) (enc := ei) (i := u5) (v := .int .i64 e5) rfl rfl (by omega) (show u5 < 2 by omega) (he5 ▸ rfl)) ?_) | (first | refine condP.dec (fun h => ?_) (fun h => ?_) | refine condP.eq (fun h => ?_) (fun h => ?_) | refine condP.ne (fun h => ?_) (fun h => ?_)) | (refine .i64 (by omega) (by omega) ?_) | (refine onSome.intro (idx_fs rfl rfl (by omega) (by omega) (fun _ => rfl)) ?_) | (refine onSome.intro (load_fs rfl (by omega) (by omega) rfl) ?_) | (refine And.intro rfl ?_))
          conv => whnf
          have hP' := hP.snoc g2 (z := (⟨f, u1, u1 + u2 * u3, ra, rb⟩ : Zone)) rfl ⟨u10, by dsimp only; omega, by dsimp only; omega⟩ ⟨r0, r1, by dsimp only; omega⟩ (d := d6) (by omega)
          exact .more ([] ++ [(⟨f, u1, u1 + u2 * u3, ra, rb⟩ : Zone)], f + d6, t7, q - 1) [0, 1, 2, 3, 7] rfl ⟨hP', by dsimp only; omega, by simp at hq ⊢; omega, fun h => by simp at h⟩ (by dsimp only; omega) rfl
            ⟨.pt rfl, .pt rfl, .pt rfl, .same (.int _ _), .nn (.int _ _) (frz_int (by dsimp only; omega)), trivial⟩
            ⟨.same (S1_no _), .same row0, .same rowV, .row (.cons (.same (.int _ _)) (.cons (.ms rfl) .nil)), (by
              show MvS _ _ _ _ (.live 5 (([] ++ [(⟨f, u1, u1 + u2 * u3, ra, rb⟩ : Zone)]).map zr))
              rw [List.map_append]; exact .same (s := .live 5 ([].map zr ++ [(⟨f, u1, u1 + u2 * u3, ra, rb⟩ : Zone)].map zr)) (by rw [← List.map_append]; exact rowZ _)), trivial⟩
      · dsimp only
        cases w
        · repeat' ((conv => whnf); first | (refine CallP.one (fun H hb => k1 H _ hb) rfl ?_) | (refine CallP.one (fun H hb => k2 H _ hb) rfl ?_) | (refine CallP.one (fun H hb => k3 H _ hb) rfl ?_) | (refine CallP.one (fun H hb => k4 H _ hb) rfl ?_) | (refine CallP.one (fun H hb => k5 H _ hb) rfl ?_) | (refine CallP.one (fun H hb => k6 H _ hb) rfl ?_) | (refine CallP.one (fun H hb => k7 H _ hb) rfl ?_) | (refine CallP.one (fun H hb => k8 H _ hb) rfl ?_) | (refine onSome.intro (idx_ms rfl rfl rfl (by omega) (by omega)) ?_) | (refine onSome.intro (load_ms (l := [(1000 : Int), 1000000]) (enc := ei) (i := u5) (v := .int .i64 e5) rfl rfl (by omega) (show u5 < 2 by omega) (he5 ▸ rfl)) ?_) | (first | refine condP.dec (fun h => ?_) (fun h => ?_) | refine condP.eq (fun h => ?_) (fun h => ?_) | refine condP.ne (fun h => ?_) (fun h => ?_)) | (refine .i64 (by omega) (by omega) ?_) | (refine onSome.intro (idx_fs rfl rfl (by omega) (by omega) (fun _ => rfl)) ?_) | (refine onSome.intro (load_fs rfl (by omega) (by omega) rfl) ?_) | (refine And.intro rfl ?_))
          all_goals first | (exfalso; omega) | skip
          conv => whnf
          refine .grow rfl rfl (by simp) (es' := [[.int .i64 f, .int .i64 u1, .int .i64 (u1 + u2 * u3), .int .i64 0, .int .i64 0]]) rfl (by simp) (fun e he => by simp at he; subst he; rfl) (fun e he c hc => by simp at he; subst he; simp at hc; rcases hc with rfl | rfl | rfl | rfl | rfl <;> rfl) (r := ((z0 :: zs).map zr) ++ [[.int .i64 f, .int .i64 u1, .int .i64 (u1 + u2 * u3), .int .i64 0, .int .i64 0]]) rfl (n' := zs.length + 1 + 1) (by simp) (by simp at hq; omega) ?_
          repeat' ((conv => whnf); first | (refine CallP.one (fun H hb => k1 H _ hb) rfl ?_) | (refine CallP.one (fun H hb => k2 H _ hb) rfl ?_) | (refine CallP.one (fun H hb => k3 H _ hb) rfl ?_) | (refine CallP.one (fun H hb => k4 H _ hb) rfl ?_) | (refine CallP.one (fun H hb => k5 H _ hb) rfl ?_) | (refine CallP.one (fun H hb => k6 H _ hb) rfl ?_) | (refine CallP.one (fun H hb => k7 H _ hb) rfl ?_) | (refine CallP.one (fun H hb => k8 H _ hb) rfl ?_) | (refine onSome.intro (idx_ms rfl rfl rfl (by omega) (by omega)) ?_) | (refine onSome.intro (load_ms (l := [(1000 : Int), 1000000]) (enc := ei) (i := u5) (v := .int .i64 e5) rfl rfl (by omega) (show u5 < 2 by omega) (he5 ▸ rfl)) ?_) | (first | refine condP.dec (fun h => ?_) (fun h => ?_) | refine condP.eq (fun h => ?_) (fun h => ?_) | refine condP.ne (fun h => ?_) (fun h => ?_)) | (refine .i64 (by omega) (by omega) ?_) | (refine onSome.intro (idx_fs rfl rfl (by omega) (by omega) (fun _ => rfl)) ?_) | (refine onSome.intro (load_fs rfl (by omega) (by omega) rfl) ?_) | (refine And.intro rfl ?_))
          conv => whnf
          have hP' := hP.snoc g2 (z := (⟨f, u1, u1 + u2 * u3, 0, 0⟩ : Zone)) rfl ⟨u10, by dsimp only; omega, by dsimp only; omega⟩ ⟨Int.le_refl _, Int.le_refl _, show (0 : Int) ≤ 1000000 by decide⟩ (d := d4) (by omega)
          exact .more ((z0 :: zs) ++ [(⟨f, u1, u1 + u2 * u3, 0, 0⟩ : Zone)], f + d4, t8, q - 1) [0, 1, 2, 3, 7] rfl ⟨hP', by dsimp only; omega, by simp at hq ⊢; omega, fun h => by simp at h⟩ (by dsimp only; omega) rfl
            ⟨.pt rfl, .pt rfl, .pt rfl, .same (.int _ _), .nn (.int _ _) (frz_int (by dsimp only; omega)), trivial⟩
            ⟨.same (S1_no _), .same row0, .same rowV, .row (.cons (.same (.int _ _)) (.cons (by show Mv _ _ _ _ (.mslice 4 0 ((zs ++ [(⟨f, u1, u1 + u2 * u3, 0, 0⟩ : Zone)]).length + 1) ((zs ++ [(⟨f, u1, u1 + u2 * u3, 0, 0⟩ : Zone)]).length + 1) false); rw [List.length_append]; exact .ms rfl) .nil)), (by
              show MvS _ _ _ _ (.live 5 (((z0 :: zs) ++ [(⟨f, u1, u1 + u2 * u3, 0, 0⟩ : Zone)]).map zr))
              rw [List.map_append]; exact .same (s := .live 5 ((z0 :: zs).map zr ++ [(⟨f, u1, u1 + u2 * u3, 0, 0⟩ : Zone)].map zr)) (by rw [← List.map_append]; exact rowZ _)), trivial⟩
        · repeat' ((conv => whnf); first | (refine CallP.one (fun H hb => k1 H _ hb) rfl ?_) | (refine CallP.one (fun H hb => k2 H _ hb) rfl ?_) | (refine CallP.one (fun H hb => k3 H _ hb) rfl ?_) | (refine CallP.one (fun H hb => k4 H _ hb) rfl ?_) | (refine CallP.one (fun H hb => k5 H _ hb) rfl ?_) | (refine CallP.one (fun H hb => k6 H _ hb) rfl ?_) | (refine CallP.one (fun H hb => k7 H _ hb) rfl ?_) | (refine CallP.one (fun H hb => k8 H _ hb) rfl ?_) | (refine onSome.intro (idx_ms rfl rfl rfl (by omega) (by omega)) ?_) | (refine onSome.intro (load_ms (l := [(1000 : Int), 1000000]) (enc := ei) (i := u5) (v := .int .i64 e5) rfl rfl (by omega) (show u5 < 2 by omega) (he5 ▸ rfl)) ?_) | (first | refine condP.dec (fun h => ?_) (fun h => ?_) | refine condP.eq (fun h => ?_) (fun h => ?_) | refine condP.ne (fun h => ?_) (fun h => ?_)) | (refine .i64 (by omega) (by omega) ?_) | (refine onSome.intro (idx_fs rfl rfl (by omega) (by omega) (fun _ => rfl)) ?_) | (refine onSome.intro (load_fs rfl (by omega) (by omega) rfl) ?_) | (refine And.intro rfl ?_))
          all_goals first | (exfalso; omega) | skip
          conv => whnf
          refine .grow rfl rfl (by simp) (es' := [[.int .i64 f, .int .i64 u1, .int .i64 (u1 + u2 * u3), .int .i64 ra, .int .i64 rb]]) rfl (by simp) (fun e he => by simp at he; subst he; rfl) (fun e he c hc => by simp at he; subst he; simp at hc; rcases hc with rfl | rfl | rfl | rfl | rfl <;> rfl) (r := ((z0 :: zs).map zr) ++ [[.int .i64 f, .int .i64 u1, .int .i64 (u1 + u2 * u3), .int .i64 ra, .int .i64 rb]]) rfl (n' := zs.length + 1 + 1) (by simp) (by simp at hq; omega) ?_
          repeat' ((conv => whnf); first | (refine CallP.one (fun H hb => k1 H _ hb) rfl ?_) | (refine CallP.one (fun H hb => k2 H _ hb) rfl ?_) | (refine CallP.one (fun H hb => k3 H _ hb) rfl ?_) | (refine CallP.one (fun H hb => k4 H _ hb) rfl ?_) | (refine CallP.one (fun H hb => k5 H _ hb) rfl ?_) | (refine CallP.one (fun H hb => k6 H _ hb) rfl ?_) | (refine CallP.one (fun H hb => k7 H _ hb) rfl ?_) | (refine CallP.one (fun H hb => k8 H _ hb) rfl ?_) | (refine onSome.intro (idx_ms rfl rfl rfl (by omega) (by omega)) ?_) | (refine onSome.intro (load_ms (l := [(1000 : Int), 1000000]) (enc := ei) (i := u5) (v := .int .i64 e5) rfl rfl (by omega) (show u5 < 2 by omega) (he5 ▸ rfl)) ?_) | (first | refine condP.dec (fun h => ?_) (fun h => ?_) | refine condP.eq (fun h => ?_) (fun h => ?_) | refine condP.ne (fun h => ?_) (fun h => ?_)) | (refine .i64 (by omega) (by omega) ?_) | (refine onSome.intro (idx_fs rfl rfl (by omega) (by omega) (fun _ => rfl)) ?_) | (refine onSome.intro (load_fs rfl (by omega) (by omega) rfl) ?_) | (refine And.intro rfl ?_))
          conv => whnf
          have hP' := hP.snoc g2 (z := (⟨f, u1, u1 + u2 * u3, ra, rb⟩ : Zone)) rfl ⟨u10, by dsimp only; omega, by dsimp only; omega⟩ ⟨r0, r1, by dsimp only; omega⟩ (d := d6) (by omega)
          exact .more ((z0 :: zs) ++ [(⟨f, u1, u1 + u2 * u3, ra, rb⟩ : Zone)], f + d6, t7, q - 1) [0, 1, 2, 3, 8] rfl ⟨hP', by dsimp only; omega, by simp at hq ⊢; omega, fun h => by simp at h⟩ (by dsimp only; omega) rfl
            ⟨.pt rfl, .pt rfl, .pt rfl, .same (.int _ _), .nn (.int _ _) (frz_int (by dsimp only; omega)), trivial⟩
            ⟨.same (S1_no _), .same row0, .same rowV, .row (.cons (.same (.int _ _)) (.cons (by show Mv _ _ _ _ (.mslice 4 0 ((zs ++ [(⟨f, u1, u1 + u2 * u3, ra, rb⟩ : Zone)]).length + 1) ((zs ++ [(⟨f, u1, u1 + u2 * u3, ra, rb⟩ : Zone)]).length + 1) false); rw [List.length_append]; exact .ms rfl) .nil)), (by
              show MvS _ _ _ _ (.live 5 (((z0 :: zs) ++ [(⟨f, u1, u1 + u2 * u3, ra, rb⟩ : Zone)]).map zr))
              rw [List.map_append]; exact .same (s := .live 5 ((z0 :: zs).map zr ++ [(⟨f, u1, u1 + u2 * u3, ra, rb⟩ : Zone)].map zr)) (by rw [← List.map_append]; exact rowZ _)), trivial⟩
    · rcases zs with _ | ⟨z0, zs⟩
      · exfalso
        have := hn rfl
        have := hP.nil rfl
        omega
      · dsimp only
        have hok := hP.ok (by simp) (by simp at hq ⊢; omega)
        repeat' ((conv => whnf); first | (first | refine condP.dec (fun h => ?_) (fun h => ?_) | refine condP.eq (fun h => ?_) (fun h => ?_) | refine condP.ne (fun h => ?_) (fun h => ?_)) | (refine .i64 (by omega) (by omega) ?_) | (refine onSome.intro (idx_fs rfl rfl (by omega) (by omega) (fun _ => rfl)) ?_) | (refine onSome.intro (load_fs rfl (by omega) (by omega) rfl) ?_) | (refine And.intro rfl ?_))
        all_goals first | (exfalso; omega) | skip
        all_goals conv => whnf
        all_goals refine .done (by simp) ?_
        all_goals conv => whnf
        all_goals exact .intro (stuffI b (z0 :: zs)) (S1 s) ⟨b, z0 :: zs, s, rfl, rfl, hb.1, hb.2, hok⟩ (stuffI_no _ _) (S1_no _) (.one (u := .agg [.int .i64 b, .mslice 4 0 (zs.length + 1) (zs.length + 1) false]) (.inl rfl) rfl rfl
          (.aggL (.cons (.refl _) (.cons (.whole (sz := 5) (es := (z0 :: zs).map zr) rfl (fun _ _ h => by cases h) (by simp) (.refl _)) .nil))) (stuffI_no _ _)))
  obtain ⟨v, z, ⟨b, zs, s', rfl, rfl, q1, q2, q3⟩, _, _, hh⟩ := key
  exact ⟨b, zs, s', q1, q2, q3, fun H n hn => hh H n hn⟩

end Go.Proofs.Ytpbadgghhiommaa.I
