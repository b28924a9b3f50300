/- The reference's laws of tubes. -/
import Derived.Test.YtlfaglkkeahamaaGreatKlaw
set_option linter.unusedVariables false
set_option maxHeartbeats 4000000
set_option linter.unusedSimpArgs false
namespace Go.Proofs.YtlfaglkkeahamaaGreat.I
open Go.Ideal

theorem down_ok {n d : Int} (hd : 0 < d) (hd1 : d ≤ 9000000000000000000) (h0 : -9000000000000000000 ≤ n) (h1 : n ≤ 9000000000000000000) (H : Heap) : Ev T (.call (.func (.func 184) [] []) [.int .i64 n, .int .i64 d] H) (.call (.int .i64 (n / d)) H) := by
  refine run_pure T184 (nn_int _ _) (nn_cons (nn_int _ _) (nn_cons (nn_int _ _) nn_none)) ?_ H
  have a := tdiv_bounds hd h0 h1
  have e := tdiv_floor (n := n) hd
  have m : n.tmod d = n - n.tdiv d * d := by rw [Int.tmod_def, Int.mul_comm]
  conv => whnf
  refine onTrue.intro (by simp; omega) ?_
  conv => whnf
  refine .i64 (by omega) (by omega) ?_
  conv => whnf
  refine onTrue.intro (by simp; omega) ?_
  conv => whnf
  refine condP.dec (fun h => ?_) (fun h => ?_)
  · conv => whnf
    refine .i64 (by omega) (by omega) ?_
    conv => whnf
    rw [if_pos (by omega)] at e
    exact .intro (.int .i64 (n.tdiv d - 1)) (.inl rfl) rfl (frz_int e.symm)
  · conv => whnf
    rw [if_neg (by omega)] at e
    exact .intro (.int .i64 (n.tdiv d)) (.inl rfl) rfl (frz_int e.symm)

theorem up_ok {n d : Int} (hd : 0 < d) (hd1 : d ≤ 9000000000000000000) (h0 : -9000000000000000000 ≤ n) (h1 : n ≤ 9000000000000000000) (H : Heap) : Ev T (.call (.func (.func 185) [] []) [.int .i64 n, .int .i64 d] H) (.call (.int .i64 (up n d)) H) := by
  refine run_pure T185 (nn_int _ _) (nn_cons (nn_int _ _) (nn_cons (nn_int _ _) nn_none)) ?_ H
  have a := up_ge n hd
  have b := up_lt n hd
  have c1 : -9000000000000000001 ≤ (-n) / d ∧ (-n) / d ≤ 9000000000000000000 := by
    have x1 := Int.ediv_mul_le (-n) (show d ≠ 0 by omega)
    have x2 := Int.lt_ediv_add_one_mul_self (-n) hd
    have x3 := tdiv_bounds (n := -n) hd (m := 9000000000000000000) (by omega) (by omega)
    have x4 := tdiv_floor (n := -n) hd
    split at x4 <;> omega
  conv => whnf
  refine .i64 (by omega) (by omega) ?_
  conv => whnf
  refine CallP.pure (down_ok hd hd1 (by omega) (by omega)) ?_
  conv => whnf
  have z : (0 : Int) - n = -n := by omega
  rw [z]
  refine .i64 (by omega) (by omega) ?_
  conv => whnf
  exact .intro (.int .i64 (0 - (-n) / d)) (.inl rfl) rfl (frz_int (by unfold up; omega))

theorem cut_ok (n : Int) (H : Heap) : Ev T (.call (.func (.func 199) [] []) [.int .i64 n] H) (.call (.int .i64 (clamp n)) H) := by
  refine run_pure T199 (nn_int _ _) (nn_cons (nn_int _ _) nn_none) ?_ H
  conv => whnf
  exact .intro (.int .i64 (max 0 (min n 1000000))) (.inl rfl) rfl (frz_int (by unfold clamp; split <;> (try split) <;> omega))

theorem right_ok (g p : Int) (H : Heap) : Ev T (.call (.func (.func 183) [] []) [.int .i64 g, .int .i64 p] H) (.call (.bool (decide (Volts g p))) H) := by
  refine run_pure T183 (nn_bool _) (nn_cons (nn_int _ _) (nn_cons (nn_int _ _) nn_none)) ?_ H
  repeat' ((conv => whnf); refine condP.dec (fun h => ?_) (fun h => ?_))
  all_goals conv => whnf
  all_goals first
    | exact .intro (.bool true) (.inl rfl) rfl (frz_bool (decide_eq_true (by unfold Volts; omega)).symm)
    | exact .intro (.bool false) (.inl rfl) rfl (frz_bool (decide_eq_false (by unfold Volts; omega)).symm)

theorem rdrive_ok {p0 p1 g0 g1 s0 s1 f0 f1 q0 q1 grid plate : Int} (h : LawOk p0 p1 g0 g1 s0 s1 f0 f1 q0 q1) (hv : Volts grid plate) (H : Heap) :
    Ev T (.call (.func (.func 190) [] []) [lawI p0 p1 g0 g1 s0 s1 f0 f1 q0 q1, .int .i64 grid, .int .i64 plate] H) (.call (rgI (dLo g1 s0 grid plate) (dHi g0 s1 grid plate)) H) := by
  refine run_pure T190 (rgI_no _ _) (nn_cons (lawI_no ..) (nn_cons (nn_int _ _) (nn_cons (nn_int _ _) nn_none))) ?_ H
  obtain ⟨h1, h2, h3, h4⟩ := hv
  obtain ⟨_, hg, hs, _, _⟩ := h
  have b1 := quot_bounds (g := g1) (by omega) h3 h4
  have b0 := quot_bounds (g := g0) (by omega) h3 h4
  repeat' ((conv => whnf); first | ((first | refine condP.dec (fun h => ?_) (fun h => ?_) | refine condP.eq (fun h => ?_) (fun h => ?_) | refine condP.ne (fun h => ?_) (fun h => ?_))) | (refine .i64 (by omega) (by omega) ?_) | (refine And.intro rfl ?_))
  conv => whnf
  refine CallP.pure (down_ok (by omega) (by omega) (by omega) (by omega)) ?_
  repeat' ((conv => whnf); first | ((first | refine condP.dec (fun h => ?_) (fun h => ?_) | refine condP.eq (fun h => ?_) (fun h => ?_) | refine condP.ne (fun h => ?_) (fun h => ?_))) | (refine .i64 (by omega) (by omega) ?_) | (refine And.intro rfl ?_))
  conv => whnf
  refine CallP.pure (cut_ok _) ?_
  repeat' ((conv => whnf); first | ((first | refine condP.dec (fun h => ?_) (fun h => ?_) | refine condP.eq (fun h => ?_) (fun h => ?_) | refine condP.ne (fun h => ?_) (fun h => ?_))) | (refine .i64 (by omega) (by omega) ?_) | (refine And.intro rfl ?_))
  conv => whnf
  refine CallP.pure (up_ok (by omega) (by omega) (by omega) (by omega)) ?_
  repeat' ((conv => whnf); first | ((first | refine condP.dec (fun h => ?_) (fun h => ?_) | refine condP.eq (fun h => ?_) (fun h => ?_) | refine condP.ne (fun h => ?_) (fun h => ?_))) | (refine .i64 (by omega) (by omega) ?_) | (refine And.intro rfl ?_))
  conv => whnf
  refine CallP.pure (cut_ok _) ?_
  repeat' ((conv => whnf); first | ((first | refine condP.dec (fun h => ?_) (fun h => ?_) | refine condP.eq (fun h => ?_) (fun h => ?_) | refine condP.ne (fun h => ?_) (fun h => ?_))) | (refine .i64 (by omega) (by omega) ?_) | (refine And.intro rfl ?_))
  conv => whnf
  exact .intro (rgI (dLo g1 s0 grid plate) (dHi g0 s1 grid plate)) (.inl rfl) rfl (.refl _)

/-- By halving. -/
theorem root_ok (x : Int) (h0 : 0 ≤ x) (h1 : x ≤ 1000000000000000000) (H : Heap) : Ev T (.call (.func (.func 191) [] []) [.int .i64 x] H) (.call (.int .i64 (rt x)) H) := by
  refine run_pure T191 (nn_int _ _) (nn_cons (nn_int _ _) nn_none) ?_ H
  conv => whnf
  refine loop_rule (X := Int × Int) (fun s => [(0, .int .i64 x), (3, .int .i64 s.1), (4, .int .i64 s.2)]) (fun _ => []) (fun s => (s.2 - s.1).toNat) (fun s => 0 ≤ s.1 ∧ s.1 ≤ s.2 ∧ s.2 ≤ 3000000000 ∧ s.1 * s.1 ≤ x ∧ x < (s.2 + 1) * (s.2 + 1)) (0, 3000000000)
    ⟨by simp, by simp, by simp, by simpa using h0, by simp; omega⟩ ⟨rfl, rfl, rfl, trivial⟩ rfl (fun _ _ => rfl) (fun s hs => ?_)
  obtain ⟨lo, hi⟩ := s
  obtain ⟨a0, a1, a2, a3, a4⟩ := hs
  simp only at a0 a1 a2 a3 a4
  dsimp only
  conv => whnf
  refine condP.dec (fun h => ?_) (fun h => ?_)
  · conv => whnf
    refine .i64 (by omega) (by omega) ?_
    conv => whnf
    refine .i64 (by omega) (by omega) ?_
    conv => whnf
    have e1 : (lo + hi + 1).tdiv 2 = (lo + hi + 1) / 2 := Int.tdiv_eq_ediv_of_nonneg (by omega)
    rw [e1]
    refine .i64 (by omega) (by omega) ?_
    generalize hm : (lo + hi + 1) / 2 = m
    conv => whnf
    refine onTrue.intro (by simp; omega) ?_
    have e2 : x.tdiv m = x / m := Int.tdiv_eq_ediv_of_nonneg (by omega)
    have q0 := Int.ediv_nonneg (show 0 ≤ x by omega) (show 0 ≤ m by omega)
    have q1 := Int.ediv_le_self (a := x) m (by omega)
    have q2 := le_down (a := m) (n := x) (show 0 < m by omega)
    rw [e2]
    refine .i64 (by omega) (by omega) ?_
    conv => whnf
    refine condP.dec (fun h2 => ?_) (fun h2 => ?_)
    · conv => whnf
      exact .more (m, hi) rfl ⟨by simp only; omega, by simp only; omega, by simp only; omega, q2.mp h2, a4⟩ (by simp only; omega) ⟨rfl, rfl, rfl, trivial⟩ rfl ⟨.int _ _, .int _ _, .int _ _, trivial⟩ trivial
    · conv => whnf
      refine .i64 (by omega) (by omega) ?_
      conv => whnf
      have : x < m * m := by
        apply Classical.byContradiction
        intro hc
        exact h2 (q2.mpr (by omega))
      exact .more (lo, m - 1) rfl ⟨by simp only; omega, by simp only; omega, by simp only; omega, a3, by simp only; rw [show m - 1 + 1 = m by omega]; exact this⟩ (by simp only; omega) ⟨rfl, rfl, rfl, trivial⟩ rfl ⟨.int _ _, .int _ _, .int _ _, trivial⟩ trivial
  · have e : lo = hi := by omega
    subst e
    conv => whnf
    refine .done (by simp) ?_
    conv => whnf
    exact .intro (.int .i64 lo) (.inl rfl) rfl (frz_int (rt_eq ⟨a0, a3, a4⟩).symm)

theorem above_ok (n : Int) (h0 : 0 ≤ n) (h1 : n ≤ 1000000) (H : Heap) : Ev T (.call (.func (.func 192) [] []) [.int .i64 (n * n * n)] H) (.call (.int .i64 (rtUp (n * n * n))) H) := by
  refine run_pure T192 (nn_int _ _) (nn_cons (nn_int _ _) nn_none) ?_ H
  obtain ⟨c1, c2, c3, c4⟩ := cube_bounds h0 h1
  have hr := rt_root c3
  have hl := rt_le h0 h1
  unfold rtUp
  generalize n * n * n = x at *
  have hc := root_ok x c3 c4
  generalize rt x = r at *
  obtain ⟨k0, k1, k2⟩ := hr
  conv => whnf
  refine CallP.pure hc ?_
  conv => whnf
  refine .i64 (by have := Int.mul_nonneg k0 k0; omega) (by omega) ?_
  conv => whnf
  refine condP.dec (fun h => ?_) (fun h => ?_)
  · conv => whnf
    refine .i64 (by omega) (by omega) ?_
    conv => whnf
    exact .intro (.int .i64 (r + 1)) (.inl rfl) rfl (frz_int (by rw [if_neg (by omega)]))
  · conv => whnf
    exact .intro (.int .i64 r) (.inl rfl) rfl (frz_int (by rw [if_pos (by omega)]))

theorem rcurrent_ok {p0 p1 g0 g1 s0 s1 f0 f1 q0 q1 grid plate : Int} (h : LawOk p0 p1 g0 g1 s0 s1 f0 f1 q0 q1) (hv : Volts grid plate) (H : Heap) :
    Ev T (.call (.func (.func 173) [] []) [lawI p0 p1 g0 g1 s0 s1 f0 f1 q0 q1, .int .i64 grid, .int .i64 plate] H) (.call (rgI (cLo p0 g1 s0 f0 q0 grid plate) (cHi p1 g0 s1 f1 q1 grid plate)) H) := by
  refine run_pure T173 (rgI_no _ _) (nn_cons (lawI_no ..) (nn_cons (nn_int _ _) (nn_cons (nn_int _ _) nn_none))) ?_ H
  have hd := rdrive_ok h hv
  obtain ⟨hp, hg, hs, hf, hq⟩ := h
  have bl := clamp_bounds (grid + s0 + 1000 * plate / g1)
  have bh := clamp_bounds (grid + s1 + up (1000 * plate) g0)
  unfold cLo cHi
  unfold dLo dHi at *
  generalize clamp (grid + s0 + 1000 * plate / g1) = a at *
  generalize clamp (grid + s1 + up (1000 * plate) g0) = b at *
  have r1 := rt_le bl.1 bl.2
  have r2 := rtUp_bounds bh.1 bh.2
  have r3 := rt_le bh.1 bh.2
  have ca := cube_bounds bl.1 bl.2
  have cb := cube_bounds bh.1 bh.2
  have L := endLo_bounds (p := p0) (f := f0) (q := q0) (by omega) (by omega) (by omega) (by omega) (by omega) (by omega) r1.1 r1.2
  have M := endHi_bounds (p := p1) (f := f1) (q := q1) (r := rtUp (b * b * b)) (by omega) (by omega) (by omega) (by omega) (by omega) (by omega) (by omega) (by omega)
  conv => whnf
  refine CallP.pure hd ?_
  repeat' ((conv => whnf); first | ((first | refine condP.dec (fun h => ?_) (fun h => ?_) | refine condP.eq (fun h => ?_) (fun h => ?_) | refine condP.ne (fun h => ?_) (fun h => ?_))) | (refine .i64 (by omega) (by omega) ?_) | (refine And.intro rfl ?_))
  conv => whnf
  refine CallP.pure (root_ok _ (by omega) (by omega)) ?_
  repeat' ((conv => whnf); first | ((first | refine condP.dec (fun h => ?_) (fun h => ?_) | refine condP.eq (fun h => ?_) (fun h => ?_) | refine condP.ne (fun h => ?_) (fun h => ?_))) | (refine .i64 (by omega) (by omega) ?_) | (refine And.intro rfl ?_))
  conv => whnf
  refine CallP.pure (down_ok (by omega) (by omega) (by omega) (by omega)) ?_
  repeat' ((conv => whnf); first | ((first | refine condP.dec (fun h => ?_) (fun h => ?_) | refine condP.eq (fun h => ?_) (fun h => ?_) | refine condP.ne (fun h => ?_) (fun h => ?_))) | (refine .i64 (by omega) (by omega) ?_) | (refine And.intro rfl ?_))
  conv => whnf
  refine CallP.pure (above_ok b bh.1 bh.2) ?_
  generalize rtUp (b * b * b) = z at *
  generalize rt (a * a * a) = y at *
  repeat' ((conv => whnf); first | ((first | refine condP.dec (fun h => ?_) (fun h => ?_) | refine condP.eq (fun h => ?_) (fun h => ?_) | refine condP.ne (fun h => ?_) (fun h => ?_))) | (refine .i64 (by omega) (by omega) ?_) | (refine And.intro rfl ?_))
  conv => whnf
  refine CallP.pure (up_ok (by omega) (by omega) (by omega) (by omega)) ?_
  repeat' ((conv => whnf); first | ((first | refine condP.dec (fun h => ?_) (fun h => ?_) | refine condP.eq (fun h => ?_) (fun h => ?_) | refine condP.ne (fun h => ?_) (fun h => ?_))) | (refine .i64 (by omega) (by omega) ?_) | (refine And.intro rfl ?_))
  conv => whnf
  refine CallP.pure (down_ok (by omega) (by omega) (by omega) (by omega)) ?_
  repeat' ((conv => whnf); first | ((first | refine condP.dec (fun h => ?_) (fun h => ?_) | refine condP.eq (fun h => ?_) (fun h => ?_) | refine condP.ne (fun h => ?_) (fun h => ?_))) | (refine .i64 (by omega) (by omega) ?_) | (refine And.intro rfl ?_))
  conv => whnf
  refine CallP.pure (up_ok (by omega) (by omega) (by omega) (by omega)) ?_
  repeat' ((conv => whnf); first | ((first | refine condP.dec (fun h => ?_) (fun h => ?_) | refine condP.eq (fun h => ?_) (fun h => ?_) | refine condP.ne (fun h => ?_) (fun h => ?_))) | (refine .i64 (by omega) (by omega) ?_) | (refine And.intro rfl ?_))
  conv => whnf
  exact .intro (rgI (endLo p0 f0 q0 y) (endHi p1 f1 q1 z)) (.inl rfl) rfl (.refl _)

theorem rCheckLaw_ok (p0 p1 g0 g1 s0 s1 f0 f1 q0 q1 : Int) (H : Heap) : Ev T (.call (.func (.func 172) [] []) [lawI p0 p1 g0 g1 s0 s1 f0 f1 q0 q1] H) (.call (.int .i64 (lawErr p0 p1 g0 g1 s0 s1 f0 f1 q0 q1)) H) := by
  refine run_pure T172 (nn_int _ _) (nn_cons (lawI_no ..) nn_none) ?_ H
  unfold lawErr
  conv => whnf
  refine loop_step ?_
  conv => whnf
  refine CallP.pure (checkRange_ok p0 p1 0 1000000) ?_
  generalize rgErr p0 p1 0 1000000 = e0
  repeat' ((conv => whnf); refine And.intro rfl ?_)
  conv => whnf
  refine condP.ne (fun h0 => ?_) (fun h0 => ?_)
  · conv => whnf
    exact .intro (.int .i64 e0) (.inl rfl) rfl (frz_int (by simp [h0]))
  conv => whnf
  refine .i64 (by omega) (by omega) ?_
  conv => whnf
  refine loop_step ?_
  conv => whnf
  refine CallP.pure (checkRange_ok g0 g1 1 1000000) ?_
  generalize rgErr g0 g1 1 1000000 = e1
  repeat' ((conv => whnf); refine And.intro rfl ?_)
  conv => whnf
  refine condP.ne (fun h1 => ?_) (fun h1 => ?_)
  · conv => whnf
    exact .intro (.int .i64 e1) (.inl rfl) rfl (frz_int (by simp [h0, h1]))
  conv => whnf
  refine .i64 (by omega) (by omega) ?_
  conv => whnf
  refine loop_step ?_
  conv => whnf
  refine CallP.pure (checkRange_ok s0 s1 (-1000000) 1000000) ?_
  generalize rgErr s0 s1 (-1000000) 1000000 = e2
  repeat' ((conv => whnf); refine And.intro rfl ?_)
  conv => whnf
  refine condP.ne (fun h2 => ?_) (fun h2 => ?_)
  · conv => whnf
    exact .intro (.int .i64 e2) (.inl rfl) rfl (frz_int (by simp [h0, h1, h2]))
  conv => whnf
  refine .i64 (by omega) (by omega) ?_
  conv => whnf
  refine loop_step ?_
  conv => whnf
  refine CallP.pure (checkRange_ok f0 f1 0 1000000) ?_
  generalize rgErr f0 f1 0 1000000 = e3
  repeat' ((conv => whnf); refine And.intro rfl ?_)
  conv => whnf
  refine condP.ne (fun h3 => ?_) (fun h3 => ?_)
  · conv => whnf
    exact .intro (.int .i64 e3) (.inl rfl) rfl (frz_int (by simp [h0, h1, h2, h3]))
  conv => whnf
  refine .i64 (by omega) (by omega) ?_
  conv => whnf
  refine loop_step ?_
  conv => whnf
  refine CallP.pure (checkRange_ok q0 q1 0 1000000) ?_
  generalize rgErr q0 q1 0 1000000 = e4
  repeat' ((conv => whnf); refine And.intro rfl ?_)
  conv => whnf
  refine condP.ne (fun h4 => ?_) (fun h4 => ?_)
  · conv => whnf
    exact .intro (.int .i64 e4) (.inl rfl) rfl (frz_int (by simp [h0, h1, h2, h3, h4]))
  conv => whnf
  refine .i64 (by omega) (by omega) ?_
  conv => whnf
  refine loop_step ?_
  conv => whnf
  exact .intro (.int .i64 0) (.inl rfl) rfl (frz_int (by simp [h0, h1, h2, h3, h4]))

end Go.Proofs.YtlfaglkkeahamaaGreat.I
