/- CurveLaws: laws, their drives, currents and families. -/
import Derived.Test.YtbomgfbfnkfamaaKsame
import Derived.Test.YtbomgfbfnkfamaaKCurveAt
set_option linter.unusedVariables false
set_option maxHeartbeats 8000000
set_option linter.unusedSimpArgs false
namespace Go.Proofs.Ytbomgfbfnkfamaa.I
open Go.Ideal

theorem law_same (p0 p1 g0 g1 s0 s1 f0 f1 q0 q1 v w : Int) : ∃ A B E C D F X : Int,
    (∀ H, Ev T (.call (.func (.func 29) [] []) [lawI p0 p1 g0 g1 s0 s1 f0 f1 q0 q1, .int .i64 v, .int .i64 w] H) (.call (.tuple [rgI A B, .int .i64 E]) H)) ∧
    (∀ H, Ev T (.call (.func (.func 31) [] []) [lawI p0 p1 g0 g1 s0 s1 f0 f1 q0 q1, .int .i64 v, .int .i64 w] H) (.call (.tuple [rgI A B, .int .i64 E]) H)) ∧
    (∀ H, Ev T (.call (.func (.func 27) [] []) [lawI p0 p1 g0 g1 s0 s1 f0 f1 q0 q1, .int .i64 v, .int .i64 w] H) (.call (.tuple [rgI C D, .int .i64 F]) H)) ∧
    (∀ H, Ev T (.call (.func (.func 32) [] []) [lawI p0 p1 g0 g1 s0 s1 f0 f1 q0 q1, .int .i64 v, .int .i64 w] H) (.call (.tuple [rgI C D, .int .i64 F]) H)) ∧
    (∀ H, Ev T (.call (.func (.func 33) [] []) [lawI p0 p1 g0 g1 s0 s1 f0 f1 q0 q1] H) (.call (.int .i64 X) H)) ∧
    (∀ H, Ev T (.call (.func (.func 34) [] []) [lawI p0 p1 g0 g1 s0 s1 f0 f1 q0 q1] H) (.call (.int .i64 X) H)) := by
  obtain ⟨A, B, E, h⟩ := orErr_form (askErr p0 p1 g0 g1 s0 s1 f0 f1 q0 q1 v w) (dLo g1 s0 v w) (dHi g0 s1 v w)
  obtain ⟨C, D, F, h'⟩ := orErr_form (askErr p0 p1 g0 g1 s0 s1 f0 f1 q0 q1 v w) (cLo p0 g1 s0 f0 q0 v w) (cHi p1 g0 s1 f1 q1 v w)
  exact ⟨A, B, E, C, D, F, _, fun H => by rw [← h]; exact Drive_ok _ _ _ _ _ _ _ _ _ _ _ _ H, fun H => by rw [← h]; exact rDrive_ok _ _ _ _ _ _ _ _ _ _ _ _ H, fun H => by rw [← h']; exact Current_ok _ _ _ _ _ _ _ _ _ _ _ _ H, fun H => by rw [← h']; exact rCurrent_ok _ _ _ _ _ _ _ _ _ _ _ _ H, CheckLaw_ok _ _ _ _ _ _ _ _ _ _, rCheckLaw_ok _ _ _ _ _ _ _ _ _ _⟩

theorem families_ok (p0 p1 g0 g1 s0 s1 f0 f1 q0 q1 : Int) (g p l : List Int) (hl : l.length ≤ 9223372036854775807) (H : Heap) : Ev T (.call (.func (.func 35) [] []) [lawI p0 p1 g0 g1 s0 s1 f0 f1 q0 q1, sl g, sl p, sl l] H) (.call (.bool true) H) := by
  refine run_pure T35 (nn_bool _) (nn_cons (lawI_no ..) (nn_cons (sl_no _) (nn_cons (sl_no _) (nn_cons (sl_no _) nn_none)))) ?_ H
  obtain ⟨s, ks⟩ := NewDice_ok l hl
  obtain ⟨p0', p1', g0', g1', s0', s1', f0', f1', q0', q1', t1, _, k1⟩ := LawOf_ok s
  obtain ⟨g', t2, _, _, m1, k2⟩ := Lines_ok t1 (-9000) 9000 6 (by omega) (by omega) (by omega) (by omega) (by omega)
  obtain ⟨p', t3, _, _, m2, k3⟩ := Lines_ok t2 0 400000 6 (by omega) (by omega) (by omega) (by omega) (by omega)
  have e1 : (g.map ei).length = g.length := List.length_map ..
  have e2 : (p.map ei).length = p.length := List.length_map ..
  conv => whnf
  refine CallP.inl T62 rfl ?_
  conv => whnf
  refine loop_step ?_
  conv => whnf
  refine condP.dec (fun _ => ?_) (fun h1 => ?_)
  · conv => whnf
    exact .intro (.bool true) (.inl rfl) rfl (.refl _)
  conv => whnf
  refine .i64 (by omega) (by omega) ?_
  conv => whnf
  refine loop_step ?_
  conv => whnf
  refine condP.dec (fun _ => ?_) (fun h2 => ?_)
  · conv => whnf
    exact .intro (.bool true) (.inl rfl) rfl (.refl _)
  conv => whnf
  refine .i64 (by omega) (by omega) ?_
  conv => whnf
  refine loop_step ?_
  conv => whnf
  obtain ⟨ga, pa, la, ha, Ea, fa, xa, ya⟩ := of_same p0 p1 g0 g1 s0 s1 f0 f1 q0 q1 g p (by omega) (by omega)
  obtain ⟨gb, pb, lb, hb, Eb, fb, xb, yb⟩ := of_same p0' p1' g0' g1' s0' s1' f0' f1' q0' q1' g' p' (by omega) (by omega)
  refine CallP.new ks ?_
  conv => whnf
  refine CallP.one (fun H hb => k1 H _ hb) rfl ?_
  (repeat ((conv => whnf); refine And.intro rfl ?_)); conv => whnf
  refine CallP.one (fun H hb => k2 H _ hb) rfl ?_
  (repeat ((conv => whnf); refine And.intro rfl ?_)); conv => whnf
  refine CallP.one (fun H hb => k3 H _ hb) rfl ?_
  (repeat ((conv => whnf); refine And.intro rfl ?_)); conv => whnf
  refine loop_step ?_
  conv => whnf
  refine CallP.pure (OwnF_ok g (by omega)) ?_
  (repeat ((conv => whnf); refine And.intro rfl ?_)); conv => whnf
  refine CallP.pure (OwnF_ok p (by omega)) ?_
  (repeat ((conv => whnf); refine And.intro rfl ?_)); conv => whnf
  refine CallP.pure xa ?_
  (repeat ((conv => whnf); refine And.intro rfl ?_)); conv => whnf
  refine CallP.pure ya ?_
  (repeat ((conv => whnf); refine And.intro rfl ?_)); conv => whnf
  refine condP.ne (fun h => absurd rfl h) (fun _ => ?_)
  conv => whnf
  refine CallP.dec (rSame_ok _ _ _ _ _ _ _ _ fa) (fun _ => ?_) (fun h => absurd ⟨rfl, rfl, rfl, rfl⟩ h)
  conv => whnf
  refine CallP.dec (Same_ok g g (by omega)) (fun _ => ?_) (fun h => absurd rfl h)
  conv => whnf
  refine CallP.dec (Same_ok p p (by omega)) (fun _ => ?_) (fun h => absurd rfl h)
  conv => whnf
  refine .i64 (by omega) (by omega) ?_
  conv => whnf
  refine loop_step ?_
  conv => whnf
  refine CallP.pure (OwnF_ok g' (by omega)) ?_
  (repeat ((conv => whnf); refine And.intro rfl ?_)); conv => whnf
  refine CallP.pure (OwnF_ok p' (by omega)) ?_
  (repeat ((conv => whnf); refine And.intro rfl ?_)); conv => whnf
  refine CallP.pure xb ?_
  (repeat ((conv => whnf); refine And.intro rfl ?_)); conv => whnf
  refine CallP.pure yb ?_
  (repeat ((conv => whnf); refine And.intro rfl ?_)); conv => whnf
  refine condP.ne (fun h => absurd rfl h) (fun _ => ?_)
  conv => whnf
  refine CallP.dec (rSame_ok _ _ _ _ _ _ _ _ fb) (fun _ => ?_) (fun h => absurd ⟨rfl, rfl, rfl, rfl⟩ h)
  conv => whnf
  refine CallP.dec (Same_ok g' g' (by omega)) (fun _ => ?_) (fun h => absurd rfl h)
  conv => whnf
  refine CallP.dec (Same_ok p' p' (by omega)) (fun _ => ?_) (fun h => absurd rfl h)
  conv => whnf
  refine .i64 (by omega) (by omega) ?_
  conv => whnf
  refine loop_step ?_
  conv => whnf
  exact .intro (.bool true) (.inl rfl) rfl (.refl _)

theorem CurveLaws_ok (p0 p1 g0 g1 s0 s1 f0 f1 q0 q1 v w : Int) (across along l : List Int) (h1 : across.length ≤ 9223372036854775807) (h2 : along.length ≤ 9223372036854775807) (hl : l.length ≤ 9223372036854775807) (H : Heap) :
    Ev T (.call (.func (.func 6) [] []) [lawI p0 p1 g0 g1 s0 s1 f0 f1 q0 q1, .int .i64 v, .int .i64 w, sl across, sl along, sl l] H) (.call (.bool true) H) := by
  refine run_pure T6 (nn_bool _) (nn_cons (lawI_no ..) (nn_cons (nn_int _ _) (nn_cons (nn_int _ _) (nn_cons (sl_no _) (nn_cons (sl_no _) (nn_cons (sl_no _) nn_none)))))) ?_ H
  obtain ⟨s, ks⟩ := NewDice_ok l hl
  obtain ⟨p0', p1', g0', g1', s0', s1', f0', f1', q0', q1', t1, _, k1⟩ := LawOf_ok s
  obtain ⟨v1, t2, _, _, k2⟩ := Between_any t1 (-9000) 9000 (by omega) (by omega) (by omega)
  obtain ⟨v2, t3, _, _, k3⟩ := Between_any t2 (-9000) 9000 (by omega) (by omega) (by omega)
  obtain ⟨w1, t4, _, _, k4⟩ := Upto_any t3 400000 (by omega)
  obtain ⟨w2, t5, _, _, k5⟩ := Upto_any t4 400000 (by omega)
  obtain ⟨A1, B1, E1, C1, D1, F1, X1, a1, b1, c1, d1, x1, y1⟩ := law_same p0 p1 g0 g1 s0 s1 f0 f1 q0 q1 v w
  obtain ⟨A2, B2, E2, C2, D2, F2, X2, a2, b2, c2, d2, x2, y2⟩ := law_same p0' p1' g0' g1' s0' s1' f0' f1' q0' q1' v1 w1
  obtain ⟨A3, B3, E3, C3, D3, F3, X3, a3, b3, c3, d3, x3, y3⟩ := law_same p0 p1 g0 g1 s0 s1 f0 f1 q0 q1 v2 w2
  have hf := families_ok p0 p1 g0 g1 s0 s1 f0 f1 q0 q1 across along l hl
  conv => whnf
  refine CallP.new ks ?_
  conv => whnf
  refine CallP.one (fun H hb => k1 H _ hb) rfl ?_
  (repeat ((conv => whnf); refine And.intro rfl ?_)); conv => whnf
  refine CallP.one (fun H hb => k2 H _ hb) rfl ?_
  (repeat ((conv => whnf); refine And.intro rfl ?_)); conv => whnf
  refine CallP.one (fun H hb => k3 H _ hb) rfl ?_
  (repeat ((conv => whnf); refine And.intro rfl ?_)); conv => whnf
  refine CallP.one (fun H hb => k4 H _ hb) rfl ?_
  (repeat ((conv => whnf); refine And.intro rfl ?_)); conv => whnf
  refine CallP.one (fun H hb => k5 H _ hb) rfl ?_
  (repeat ((conv => whnf); refine And.intro rfl ?_)); conv => whnf
  refine loop_step ?_
  conv => whnf
  refine CallP.pure a1 ?_
  (repeat ((conv => whnf); refine And.intro rfl ?_)); conv => whnf
  refine CallP.pure b1 ?_
  (repeat ((conv => whnf); refine And.intro rfl ?_)); conv => whnf
  refine CallP.pure c1 ?_
  (repeat ((conv => whnf); refine And.intro rfl ?_)); conv => whnf
  refine CallP.pure d1 ?_
  (repeat ((conv => whnf); refine And.intro rfl ?_)); conv => whnf
  refine CallP.pure x1 ?_
  (repeat ((conv => whnf); refine And.intro rfl ?_)); conv => whnf
  refine CallP.pure y1 ?_
  (repeat ((conv => whnf); refine And.intro rfl ?_)); conv => whnf
  refine condP.ne (fun h => absurd rfl h) (fun _ => ?_)
  conv => whnf
  refine condP.intro (fun _ => ?_) (fun h => by simp at h)
  conv => whnf
  refine condP.ne (fun h => absurd rfl h) (fun _ => ?_)
  conv => whnf
  refine condP.intro (fun _ => ?_) (fun h => by simp at h)
  conv => whnf
  refine condP.ne (fun h => absurd rfl h) (fun _ => ?_)
  conv => whnf
  refine .i64 (by omega) (by omega) ?_
  conv => whnf
  refine loop_step ?_
  conv => whnf
  refine CallP.pure a2 ?_
  (repeat ((conv => whnf); refine And.intro rfl ?_)); conv => whnf
  refine CallP.pure b2 ?_
  (repeat ((conv => whnf); refine And.intro rfl ?_)); conv => whnf
  refine CallP.pure c2 ?_
  (repeat ((conv => whnf); refine And.intro rfl ?_)); conv => whnf
  refine CallP.pure d2 ?_
  (repeat ((conv => whnf); refine And.intro rfl ?_)); conv => whnf
  refine CallP.pure x2 ?_
  (repeat ((conv => whnf); refine And.intro rfl ?_)); conv => whnf
  refine CallP.pure y2 ?_
  (repeat ((conv => whnf); refine And.intro rfl ?_)); conv => whnf
  refine condP.ne (fun h => absurd rfl h) (fun _ => ?_)
  conv => whnf
  refine condP.intro (fun _ => ?_) (fun h => by simp at h)
  conv => whnf
  refine condP.ne (fun h => absurd rfl h) (fun _ => ?_)
  conv => whnf
  refine condP.intro (fun _ => ?_) (fun h => by simp at h)
  conv => whnf
  refine condP.ne (fun h => absurd rfl h) (fun _ => ?_)
  conv => whnf
  refine .i64 (by omega) (by omega) ?_
  conv => whnf
  refine loop_step ?_
  conv => whnf
  refine CallP.pure a3 ?_
  (repeat ((conv => whnf); refine And.intro rfl ?_)); conv => whnf
  refine CallP.pure b3 ?_
  (repeat ((conv => whnf); refine And.intro rfl ?_)); conv => whnf
  refine CallP.pure c3 ?_
  (repeat ((conv => whnf); refine And.intro rfl ?_)); conv => whnf
  refine CallP.pure d3 ?_
  (repeat ((conv => whnf); refine And.intro rfl ?_)); conv => whnf
  refine CallP.pure x3 ?_
  (repeat ((conv => whnf); refine And.intro rfl ?_)); conv => whnf
  refine CallP.pure y3 ?_
  (repeat ((conv => whnf); refine And.intro rfl ?_)); conv => whnf
  refine condP.ne (fun h => absurd rfl h) (fun _ => ?_)
  conv => whnf
  refine condP.intro (fun _ => ?_) (fun h => by simp at h)
  conv => whnf
  refine condP.ne (fun h => absurd rfl h) (fun _ => ?_)
  conv => whnf
  refine condP.intro (fun _ => ?_) (fun h => by simp at h)
  conv => whnf
  refine condP.ne (fun h => absurd rfl h) (fun _ => ?_)
  conv => whnf
  refine .i64 (by omega) (by omega) ?_
  conv => whnf
  refine loop_step ?_
  conv => whnf
  refine CallP.pure hf ?_
  conv => whnf
  refine CallP.pure awake_ok ?_
  conv => whnf
  exact .intro (.bool true) (.inl rfl) rfl (.refl _)

end Go.Proofs.Ytbomgfbfnkfamaa.I
