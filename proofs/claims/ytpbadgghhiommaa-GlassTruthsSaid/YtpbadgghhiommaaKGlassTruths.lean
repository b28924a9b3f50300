/- GlassTruths runs to true. -/
import Derived.Test.YtpbadgghhiommaaGtruth
set_option linter.unusedVariables false
set_option maxHeartbeats 16000000
set_option linter.unusedSimpArgs false
namespace Go.Proofs.Ytpbadgghhiommaa.I
open Go.Ideal

theorem jG_snd (p : Nat → Int × Int) (b left : Int) (N : Nat) : ∀ (n m : Nat) (v a : Int), (jG p b left N n m v a).2 = a ∨ ∃ i : Nat, m ≤ i ∧ i < m + n ∧ (jG p b left N n m v a).2 = i
  | 0, m, v, a => .inl rfl
  | n + 1, m, v, a => by
    by_cases c1 : limA b left N m < (p m).1
    · have e : jG p b left N (n + 1) m v a = (2, (m : Int)) := if_pos c1
      rw [e]
      exact .inr ⟨m, Nat.le_refl _, by omega, rfl⟩
    · have e0 : jG p b left N (n + 1) m v a = if v = 1 ∧ limA b left N m < (p m).2 then jG p b left N n (m + 1) 3 m else jG p b left N n (m + 1) v a := if_neg c1
      by_cases c2 : v = 1 ∧ limA b left N m < (p m).2
      · rw [if_pos c2] at e0
        rw [e0]
        rcases jG_snd p b left N n (m + 1) 3 m with h | ⟨i, h1, h2, h3⟩
        · exact .inr ⟨m, Nat.le_refl _, by omega, h⟩
        · exact .inr ⟨i, by omega, by omega, h3⟩
      · rw [if_neg c2] at e0
        rw [e0]
        rcases jG_snd p b left N n (m + 1) v a with h | ⟨i, h1, h2, h3⟩
        · exact .inl h
        · exact .inr ⟨i, by omega, by omega, h3⟩
/-- What a verdict says of strains that are possible. -/
theorem judge_truth {b left : Int} {zs : List Zone} {k f : Int} {ls : List Leg} {l : List Int} (hb : 1 ≤ b) (hl : 0 ≤ left) (h : TruthN (rs zs k (allH f ls ls.length)) l (totT ls ls.length)) : (0 ≤ (judgeV b zs k f ls left).2 ∧ (judgeV b zs k f ls left).2 ≤ totT ls ls.length) ∧
    ∀ i : Nat, i ≤ totT ls ls.length → ((judgeV b zs k f ls left).1 = 1 → at' l (i : Int) ≤ b ∧ (i < totT ls ls.length ∨ at' l (i : Int) ≤ left)) ∧ ((judgeV b zs k f ls left).1 = 2 → (i : Int) = (judgeV b zs k f ls left).2 → ¬ (at' l (i : Int) ≤ b ∧ (i < totT ls ls.length ∨ at' l (i : Int) ≤ left))) := by
  have f1 := jG_facts (rs zs k (allH f ls ls.length)) b left (totT ls ls.length) (totT ls ls.length) 1 1 0 (.inl rfl)
  have f2 := jG_snd (rs zs k (allH f ls ls.length)) b left (totT ls ls.length) (totT ls ls.length) 1 1 0
  have z : at' l ((0 : Nat) : Int) ≤ 0 := (h.at_ 0 (Nat.zero_le _)).2
  have h := h.at_
  unfold judgeV
  generalize rs zs k (allH f ls ls.length) = p at *
  generalize totT ls ls.length = N at *
  generalize jG p b left N N 1 1 0 = V at *
  refine ⟨?_, fun i hi => ⟨fun hv => ?_, fun hv he => ?_⟩⟩
  · rcases f2 with h | ⟨i, h1, h2, h3⟩ <;> omega
  · rcases Nat.eq_zero_or_pos i with rfl | hp
    · exact ⟨by omega, .inr (by omega)⟩
    · have a := (f1.1 hv).2 i (by omega) (by omega)
      have c := h i hi
      unfold limA at a
      split at a <;> omega
  · obtain ⟨j, q1, q2, q3, q4⟩ := f1.2.2.1 hv
    obtain rfl : i = j := by omega
    have c := h i hi
    unfold limA at q4
    split at q4 <;> omega

theorem GlassTruths_ok (nums : List Int) (hn : nums.length ≤ 9223372036854775807) (H : Heap) :
    Ev T (.call (.func (.func 13) [] []) [sl nums] H) (.call (.bool true) H) := by
  refine run_pure T13 (nn_bool _) (nn_cons (sl_no _) nn_none) ?_ H
  have q := NewDice_ok nums hn
  obtain ⟨s, kd⟩ := q
  have q := StuffOf_ok s
  obtain ⟨bx, x, s1, bx0, bx1, hx, kx⟩ := q
  have q := OvenOf_any s1 4 30 (by omega) (by omega) (by omega) (by omega)
  obtain ⟨f, ls, s2, fo0, fo1, hll, hlg, ko⟩ := q
  have hO := hlg.oven (f := f) (by omega) (by omega) (by omega) (by omega)
  have q := Upto_any s2 2 (by omega)
  obtain ⟨u, s3, u0, u1, ku⟩ := q
  have hb3 : 20 ≤ at' [(20 : Int), 1000] u ∧ at' [(20 : Int), 1000] u ≤ 1000 := by
    have : u = 0 ∨ u = 1 := by omega
    rcases this with rfl | rfl <;> simp [at']
  have hy : ∃ m, m = at' [(20 : Int), 1000] u := ⟨_, rfl⟩
  obtain ⟨m, hy⟩ := hy
  rw [← hy] at hb3
  have q := Between_any s3 1 m (by omega) (by omega) (by omega)
  obtain ⟨w, s4, w0, w1, kw⟩ := q
  have q := LeftOf_any s4 bx x w f ls bx0 bx1 hx w0 (by omega) hO
  obtain ⟨r, s5, r0, r1, kl⟩ := q
  have q := StrainsOf_any s5 bx x w f ls hx w0 (by omega) hO
  obtain ⟨l, s6, hT, kt⟩ := q
  have k1 := Strain_at bx0 bx1 hx (k := w) (by omega) (by omega) hO
  have k2 := Judge_at bx0 bx1 hx (k := w) (by omega) (by omega) hO r0 r1
  have jt := judge_truth (b := bx) (left := r) (by omega) r0 hT
  have lx := strL_len (zs := x) (k := w) (f := f) (ls := ls) ls.length
  have cmp : ∀ i : Nat, i < ls.length → (at' (strL x w f ls ls.length) (i : Int)).1 ≤ at' l ((totT ls (i + 1) : Nat) : Int) ∧ at' l ((totT ls (i + 1) : Nat) : Int) ≤ (at' (strL x w f ls ls.length) (i : Int)).2 := fun i hi => by
    rw [strL_rs _ _ _ _ hO hi]
    exact hT.at_ _ (totT_mono ls (show i + 1 ≤ ls.length by omega))
  have hl := hT.len
  have htt := totT_le hO ls.length (Nat.le_refl _)
  generalize strL x w f ls ls.length = X at *
  have hv : ∃ v, v = judgeV bx x w f ls r := ⟨_, rfl⟩
  obtain ⟨v, hv⟩ := hv
  rw [← hv] at k2 jt
  clear hv hT
  obtain ⟨v1, v2⟩ := v
  dsimp only at k2 jt
  obtain ⟨jv, jt⟩ := jt
  have ex : (X.map er).length = X.length := List.length_map ..
  have el : (ls.map lr).length = ls.length := List.length_map ..
  have e1 : (l.map ei).length = l.length := List.length_map ..
  have hN : ∃ N, N = totT ls ls.length := ⟨_, rfl⟩
  obtain ⟨N, hN⟩ := hN
  rw [← hN] at jv jt hl htt
  repeat' ((conv => whnf); first | (refine CallP.new kd ?_) | (refine CallP.one (fun H hb => kx H _ hb) rfl ?_) | (refine CallP.one (fun H hb => ko H _ hb) rfl ?_) | (refine CallP.one (fun H hb => ku H _ hb) rfl ?_) | (refine onSome.intro (idx_ms rfl rfl rfl (by omega) (by omega)) ?_) | (refine onSome.intro (load_ms (l := [(20 : Int), 1000]) (enc := ei) (i := u) (v := .int .i64 m) rfl rfl (by omega) (by simp; omega) (by rw [hy]; rfl)) ?_) | (refine CallP.one (fun H hb => kw H _ hb) rfl ?_) | (refine CallP.one (fun H hb => kl H _ hb) rfl ?_) | (refine CallP.one (fun H hb => kt H _ hb) rfl ?_) | (refine CallP.pure k1 ?_) | (refine CallP.pure k2 ?_) | (first | refine condP.dec (fun h => ?_) (fun h => ?_) | refine condP.eq (fun h => ?_) (fun h => ?_) | refine condP.ne (fun h => ?_) (fun h => ?_)) | (refine .i64 (by omega) (by omega) ?_) | (refine onSome.intro (idx_fs rfl rfl (by omega) (by omega) (fun _ => rfl)) ?_) | (refine onSome.intro (load_fs rfl (by omega) (by omega) rfl) ?_) | (refine And.intro rfl ?_))
  all_goals first | (exfalso; omega) | skip
  all_goals conv => whnf
  refine loop_rule (X := Nat) (fun i => [(4, .ptr 1 0 0), (5, .ptr 2 0 0), (7, .int .i64 r), (8, sl l), (9, ersl X), (11, .int .i64 v1), (12, .int .i64 v2), (14, .int .i64 (totT ls i : Int)), (15, .int .i64 i)]) (fun _ => [S1 s6, .live 2 [[.int .i64 bx, zsl x]], .live 2 [[.int .i64 f, lsl ls]], .live 1 [[.int .i64 20], [.int .i64 1000]]]) (fun i => ls.length - i) (fun i => i ≤ ls.length) 0
    (Nat.zero_le _) ⟨rfl, rfl, rfl, rfl, rfl, rfl, rfl, rfl, rfl, trivial⟩ rfl (fun _ _ => rfl) (fun i hi => ?_)
  rcases Nat.lt_or_ge i ls.length with hlt | hge
  · have cmp := cmp i hlt
    have hleg := hO.leg i hlt
    have fl : at' ls (i : Int) = ln ls i := rfl
    have t1 := totT_le hO i hi
    have ts : totT ls (i + 1) = totT ls i + (ln ls i).ti.toNat := rfl
    have tm := totT_mono ls (show i + 1 ≤ ls.length by omega)
    rw [← fl] at hleg ts
    have et : ((totT ls (i + 1) : Nat) : Int) = (totT ls i : Int) + (at' ls (i : Int)).ti := by rw [ts]; omega
    generalize hq : (totT ls i : Int) + (at' ls (i : Int)).ti = q at *
    rw [et] at cmp
    repeat' ((conv => whnf); first | (refine condP.dec (fun _ => ?_) (fun h => absurd (by omega) h)) | (refine onSome.intro (load_fs (l := ls) (enc := lr) (i := (i : Int)) (v := .int .i64 (at' ls (i : Int)).ti) rfl (by omega) (by omega) rfl) ?_) | (rw [hq]) | (first | refine condP.dec (fun h => ?_) (fun h => ?_) | refine condP.eq (fun h => ?_) (fun h => ?_) | refine condP.ne (fun h => ?_) (fun h => ?_)) | (refine .i64 (by omega) (by omega) ?_) | (refine onSome.intro (idx_fs rfl rfl (by omega) (by omega) (fun _ => rfl)) ?_) | (refine onSome.intro (load_fs rfl (by omega) (by omega) rfl) ?_) | (refine And.intro rfl ?_))
    all_goals first | (exfalso; omega) | skip
    all_goals conv => whnf
    all_goals exact .more (i + 1) rfl (by omega) (by omega) ⟨rfl, rfl, rfl, rfl, rfl, rfl, rfl, (by show i6 _ = i6 _; rw [et]), rfl, trivial⟩ rfl ⟨.ptr _ _ _ (by simp), .ptr _ _ _ (by simp), .int _ _, (sl_no _).inn _, (ersl_no _).inn _, .int _ _, .int _ _, .int _ _, .int _ _, trivial⟩ ⟨row_inn (nn_cons (.int _ _) nn_none), row_inn (stuff_row _ _), row_inn (oven_row _ _), fun j k hj hk => (noS_map (sz := 1) (l := [(20 : Int), 1000]) (enc := ei) (fun a => nn_cons (.int _ _) nn_none) _ (List.getElem_mem hj) _ (List.getElem_mem hk)).inn _, trivial⟩
  · obtain rfl : i = ls.length := by omega
    conv => whnf
    refine condP.dec (fun h => absurd h (by omega)) (fun _ => ?_)
    conv => whnf
    refine .done (by simp) ?_
    conv => whnf
    refine loop_rule (X := Nat) (fun i => [(4, .ptr 1 0 0), (7, .int .i64 r), (8, sl l), (11, .int .i64 v1), (12, .int .i64 v2), (16, .int .i64 i)]) (fun _ => [S1 s6, .live 2 [[.int .i64 bx, zsl x]], .live 2 [[.int .i64 f, lsl ls]], .live 1 [[.int .i64 20], [.int .i64 1000]]]) (fun i => N + 1 - i) (fun i => i ≤ N + 1) 0
      (Nat.zero_le _) ⟨rfl, rfl, rfl, rfl, rfl, rfl, trivial⟩ rfl (fun _ _ => rfl) (fun i hi => ?_)
    rcases Nat.lt_or_ge i (N + 1) with hlt | hge
    · have jt := jt i (by omega)
      generalize hq : at' l (i : Int) = y at *
      repeat' ((conv => whnf); first | (refine condP.dec (fun _ => ?_) (fun h => absurd (by omega) h)) | (refine onSome.intro (load_fs (l := l) (enc := ei) (i := (i : Int)) (v := .int .i64 y) rfl (by omega) (by omega) (by rw [hq]; rfl)) ?_) | (first | refine condP.dec (fun h => ?_) (fun h => ?_) | refine condP.eq (fun h => ?_) (fun h => ?_) | refine condP.ne (fun h => ?_) (fun h => ?_)) | (refine .i64 (by omega) (by omega) ?_) | (refine onSome.intro (idx_fs rfl rfl (by omega) (by omega) (fun _ => rfl)) ?_) | (refine onSome.intro (load_fs rfl (by omega) (by omega) rfl) ?_) | (refine And.intro rfl ?_))
      all_goals first | (exfalso; omega) | skip
      all_goals conv => whnf
      all_goals exact .more (i + 1) rfl (by omega) (by omega) ⟨rfl, rfl, rfl, rfl, rfl, rfl, trivial⟩ rfl ⟨.ptr _ _ _ (by simp), .int _ _, (sl_no _).inn _, .int _ _, .int _ _, .int _ _, trivial⟩ ⟨row_inn (nn_cons (.int _ _) nn_none), row_inn (stuff_row _ _), row_inn (oven_row _ _), fun j k hj hk => (noS_map (sz := 1) (l := [(20 : Int), 1000]) (enc := ei) (fun a => nn_cons (.int _ _) nn_none) _ (List.getElem_mem hj) _ (List.getElem_mem hk)).inn _, trivial⟩
    · obtain rfl : i = N + 1 := by omega
      conv => whnf
      refine condP.dec (fun h => absurd h (by omega)) (fun _ => ?_)
      conv => whnf
      refine .done (by simp) ?_
      repeat' ((conv => whnf); first | (refine CallP.pure awake_ok ?_) | (first | refine condP.dec (fun h => ?_) (fun h => ?_) | refine condP.eq (fun h => ?_) (fun h => ?_) | refine condP.ne (fun h => ?_) (fun h => ?_)) | (refine .i64 (by omega) (by omega) ?_) | (refine onSome.intro (idx_fs rfl rfl (by omega) (by omega) (fun _ => rfl)) ?_) | (refine onSome.intro (load_fs rfl (by omega) (by omega) rfl) ?_) | (refine And.intro rfl ?_))
      all_goals first | (exfalso; omega) | skip
      all_goals conv => whnf
      all_goals exact PureP.intro (.bool true) (.inl rfl) rfl (.refl _)

end Go.Proofs.Ytpbadgghhiommaa.I
