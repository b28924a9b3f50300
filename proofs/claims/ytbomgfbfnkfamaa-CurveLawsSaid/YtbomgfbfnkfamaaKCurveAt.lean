/- CurveAt: currents between lines. -/
import Derived.Test.YtbomgfbfnkfamaaKfamof
import Derived.Test.YtbomgfbfnkfamaaKawake
set_option linter.unusedVariables false
set_option maxHeartbeats 4000000
set_option linter.unusedSimpArgs false
namespace Go.Proofs.Ytbomgfbfnkfamaa.I
open Go.Ideal

theorem orErr_form (e a b : Int) : ∃ A B E : Int, orErr e a b = .tuple [rgI A B, .int .i64 E] := by
  unfold orErr
  split
  · exact ⟨_, _, _, rfl⟩
  · exact ⟨_, _, _, rfl⟩
theorem at_same (g p : List Int) (lo hi : List (List Int)) (hg : g.length ≤ 50) (hp : p.length ≤ 50) (hlo : lo.length ≤ 50) (hhi : hi.length ≤ 50) (v w : Int) : ∃ A B E : Int,
    (∀ H, Ev T (.call (.func (.func 22) [] []) [famI g p lo hi, .int .i64 v, .int .i64 w] H) (.call (.tuple [rgI A B, .int .i64 E]) H)) ∧
    (∀ H, Ev T (.call (.func (.func 23) [] []) [famI g p lo hi, .int .i64 v, .int .i64 w] H) (.call (.tuple [rgI A B, .int .i64 E]) H)) := by
  obtain ⟨A, B, E, h⟩ := orErr_form (atErr g p lo hi v w) (atLo g p lo v w) (atHi g p hi v w)
  exact ⟨A, B, E, fun H => by rw [← h]; exact At_ok g p lo hi (by omega) (by omega) (by omega) (by omega) v w H, fun H => by rw [← h]; exact rAt_ok g p lo hi (by omega) (by omega) (by omega) (by omega) v w H⟩
theorem CurveAt_ok (g p : List Int) (lo hi : List (List Int)) (v w : Int) (l : List Int) (hlo : lo.length ≤ 9223372036854775807) (hhi : hi.length ≤ 9223372036854775807) (hl : l.length ≤ 9223372036854775807) (H : Heap) :
    Ev T (.call (.func (.func 3) [] []) [famI g p lo hi, .int .i64 v, .int .i64 w, sl l] H) (.call (.bool true) H) := by
  refine run_pure T3 (nn_bool _) (nn_cons (famI_no ..) (nn_cons (nn_int _ _) (nn_cons (nn_int _ _) (nn_cons (sl_no _) nn_none)))) ?_ H
  obtain ⟨b, hb, kb⟩ := large_ok g p lo hi hlo hhi
  obtain ⟨s, ks⟩ := NewDice_ok l hl
  obtain ⟨g', p', lo', hi', s1, made, k1⟩ := FamilyOf_ok s
  obtain ⟨v1, s2, _, _, k2⟩ := Between_any s1 (-10000) 4000 (by omega) (by omega) (by omega)
  obtain ⟨v2, s3, _, _, k3⟩ := Between_any s2 (-10000) 4000 (by omega) (by omega) (by omega)
  obtain ⟨w1, s4, _, _, k4⟩ := Upto_any s3 350000 (by omega)
  obtain ⟨w2, s5, _, _, k5⟩ := Upto_any s4 350000 (by omega)
  conv => whnf
  refine CallP.pure kb ?_
  cases b with
  | true =>
    conv => whnf
    refine CallP.pure awake_ok ?_
    conv => whnf
    exact .intro (.bool true) (.inl rfl) rfl (.refl _)
  | false =>
    have hb : ¬ Large g p lo hi := fun q => by simpa using hb.mpr q
    unfold Large at hb
    have m1 := made.gl
    have m2 := made.pl
    have m3 := made.fam.tl.len
    have m4 := made.fam.th.len
    obtain ⟨A1, B1, E1, x1, y1⟩ := at_same g p lo hi (by omega) (by omega) (by omega) (by omega) v w
    obtain ⟨A2, B2, E2, x2, y2⟩ := at_same g' p' lo' hi' (by omega) (by omega) (by omega) (by omega) v1 w1
    obtain ⟨A3, B3, E3, x3, y3⟩ := at_same g p lo hi (by omega) (by omega) (by omega) (by omega) v2 w2
    conv => whnf
    refine CallP.new ks ?_
    conv => whnf
    refine CallP.one (fun H hb => k1 H _ hb) rfl ?_
    (repeat ((conv => whnf); refine And.intro rfl ?_)); conv => whnf
    refine CallP.one (fun H hb => k2 H _ hb) rfl ?_
    (repeat ((conv => whnf); refine And.intro rfl ?_)); conv => whnf
    refine CallP.one (fun H hb => k3 H _ hb) rfl ?_
    (repeat ((conv => whnf); refine And.intro rfl ?_)); conv => whnf
    refine CallP.one (fun H hb => k4 H _ hb) rfl ?_
    (repeat ((conv => whnf); refine And.intro rfl ?_)); conv => whnf
    refine CallP.one (fun H hb => k5 H _ hb) rfl ?_
    (repeat ((conv => whnf); refine And.intro rfl ?_)); conv => whnf
    refine loop_step ?_
    conv => whnf
    refine CallP.pure x1 ?_
    (repeat ((conv => whnf); refine And.intro rfl ?_)); conv => whnf
    refine CallP.pure y1 ?_
    (repeat ((conv => whnf); refine And.intro rfl ?_)); conv => whnf
    refine condP.intro (fun _ => ?_) (fun h => by simp at h)
    conv => whnf
    refine condP.ne (fun h => absurd rfl h) (fun _ => ?_)
    conv => whnf
    refine .i64 (by omega) (by omega) ?_
    conv => whnf
    refine loop_step ?_
    conv => whnf
    refine CallP.pure x2 ?_
    (repeat ((conv => whnf); refine And.intro rfl ?_)); conv => whnf
    refine CallP.pure y2 ?_
    (repeat ((conv => whnf); refine And.intro rfl ?_)); conv => whnf
    refine condP.intro (fun _ => ?_) (fun h => by simp at h)
    conv => whnf
    refine condP.ne (fun h => absurd rfl h) (fun _ => ?_)
    conv => whnf
    refine .i64 (by omega) (by omega) ?_
    conv => whnf
    refine loop_step ?_
    conv => whnf
    refine CallP.pure x3 ?_
    (repeat ((conv => whnf); refine And.intro rfl ?_)); conv => whnf
    refine CallP.pure y3 ?_
    (repeat ((conv => whnf); refine And.intro rfl ?_)); conv => whnf
    refine condP.intro (fun _ => ?_) (fun h => by simp at h)
    conv => whnf
    refine condP.ne (fun h => absurd rfl h) (fun _ => ?_)
    conv => whnf
    refine .i64 (by omega) (by omega) ?_
    conv => whnf
    refine loop_step ?_
    conv => whnf
    refine CallP.pure awake_ok ?_
    conv => whnf
    exact .intro (.bool true) (.inl rfl) rfl (.refl _)

end Go.Proofs.Ytbomgfbfnkfamaa.I
