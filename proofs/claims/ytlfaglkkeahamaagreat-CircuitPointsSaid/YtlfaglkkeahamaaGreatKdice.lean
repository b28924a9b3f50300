/- Dice. -/
import Derived.Test.YtlfaglkkeahamaaGreatF
import Derived.Test.YtlfaglkkeahamaaGreatI3
set_option linter.unusedSimpArgs false
set_option linter.unusedVariables false
namespace Go.Proofs.YtlfaglkkeahamaaGreat.I
open Go.Ideal

theorem next_ok (s : Int) (H : Heap) {b : Nat} (hb : H b = S1 s) : Ev T (.call (.func (.func 68) [] []) [.ptr b 0 0] H) (.call (.int .u64 (dout s)) (H.set b (S1 (dnext s)))) := by
  refine run_one T68 (nn_int _ _) nn_none (S1_no _) (S1_no _) ?_ H hb
  repeat ((conv => whnf); refine .wrap ?_)
  conv => whnf
  exact .one (u := .int .u64 (dout s)) (.inl rfl) rfl rfl (.refl _) (nn_int _ _)

theorem Upto_ok (s n : Int) (hn : n ≤ 9223372036854775807) (H : Heap) {b : Nat} (hb : H b = S1 s) : Ev T (.call (.func (.func 33) [] []) [.ptr b 0 0, .int .i64 n] H) (.call (.int .i64 (dUpto s n)) (H.set b (S1 (dnext s)))) := by
  refine run_one T33 (nn_int _ _) (nn_cons (nn_int _ _) nn_none) (S1_no _) (S1_no _) ?_ H hb
  have hd := dout_lt s
  conv => whnf
  refine CallP.one (fun H hb => next_ok s H hb) rfl ?_
  conv => whnf
  refine condP.dec (fun h => ?_) (fun h => ?_)
  · conv => whnf
    exact .one (u := .int .i64 0) (.inl rfl) rfl rfl (by rw [dUpto, if_pos h]; exact .refl _) (nn_int _ _)
  · conv => whnf
    refine .u64 (by omega) (by omega) ?_
    conv => whnf
    refine onTrue.intro (by simp; omega) ?_
    conv => whnf
    have e : Int.tmod (dout s) n = dout s % n := Int.tmod_eq_emod_of_nonneg hd.1
    have h1 := Int.emod_nonneg (dout s) (b := n) (by omega)
    have h2 := Int.emod_lt_of_pos (dout s) (b := n) (by omega)
    rw [e]
    refine .i64 (by omega) (by omega) ?_
    conv => whnf
    exact .one (u := .int .i64 (dout s % n)) (.inl rfl) rfl rfl (by rw [dUpto, if_neg h]; exact .refl _) (nn_int _ _)

theorem Between_ok (s lo hi : Int) (h1 : -1000000000000000000 ≤ lo) (h2 : hi ≤ 1000000000000000000) (h3 : lo ≤ 1000000000000000000) (h4 : -1000000000000000000 ≤ hi) (H : Heap) {b : Nat} (hb : H b = S1 s) :
    Ev T (.call (.func (.func 65) [] []) [.ptr b 0 0, .int .i64 lo, .int .i64 hi] H) (.call (.int .i64 (dBetween s lo hi)) (H.set b (S1 (dnext s)))) := by
  refine run_one T65 (nn_int _ _) (nn_cons (nn_int _ _) (nn_cons (nn_int _ _) nn_none)) (S1_no _) (S1_no _) ?_ H hb
  have hu := dUpto_range s (hi - lo + 1)
  conv => whnf
  refine .i64 (by omega) (by omega) ?_
  conv => whnf
  refine .i64 (by omega) (by omega) ?_
  conv => whnf
  refine CallP.one (fun H hb => Upto_ok s _ (by omega) H hb) rfl ?_
  conv => whnf
  refine .i64 (by omega) (by omega) ?_
  conv => whnf
  exact .one (u := .int .i64 (dBetween s lo hi)) (.inl rfl) rfl rfl (.refl _) (nn_int _ _)

theorem One_ok (s n : Int) (hn : n ≤ 9223372036854775807) (H : Heap) {b : Nat} (hb : H b = S1 s) : Ev T (.call (.func (.func 36) [] []) [.ptr b 0 0, .int .i64 n] H) (.call (.bool (dUpto s n == 0)) (H.set b (S1 (dnext s)))) := by
  refine run_one T36 (nn_bool _) (nn_cons (nn_int _ _) nn_none) (S1_no _) (S1_no _) ?_ H hb
  have hu : ∀ (H : Heap), H 0 = S1 s → _ := fun H hb => Upto_ok s n hn H hb
  generalize dUpto s n = d at hu ⊢
  conv => whnf
  refine CallP.one hu rfl ?_
  conv => whnf
  refine condP.eq (fun h => ?_) (fun h => ?_)
  · conv => whnf
    exact .one (u := .bool true) (.inl rfl) rfl rfl (frz_bool (by simpa using h)) (nn_bool _)
  · conv => whnf
    exact .one (u := .bool false) (.inl rfl) rfl rfl (frz_bool (by simpa using h)) (nn_bool _)

theorem Upto_any (s n : Int) (hn : n ≤ 9223372036854775807) : ∃ v s' : Int, 0 ≤ v ∧ (v < n ∨ v = 0) ∧ ∀ (H : Heap) (b : Nat), H b = S1 s → Ev T (.call (.func (.func 33) [] []) [.ptr b 0 0, .int .i64 n] H) (.call (.int .i64 v) (H.set b (S1 s'))) :=
  ⟨dUpto s n, dnext s, (dUpto_range s n).1, (dUpto_range s n).2, fun H b hb => Upto_ok s n hn H hb⟩
theorem Between_any (s lo hi : Int) (h : lo ≤ hi) (h1 : -1000000000000000000 ≤ lo) (h2 : hi ≤ 1000000000000000000) : ∃ v s' : Int, lo ≤ v ∧ v ≤ hi ∧ ∀ (H : Heap) (b : Nat), H b = S1 s →
    Ev T (.call (.func (.func 65) [] []) [.ptr b 0 0, .int .i64 lo, .int .i64 hi] H) (.call (.int .i64 v) (H.set b (S1 s'))) := by
  have := dUpto_lt (s := s) (n := hi - lo + 1) (by omega)
  exact ⟨dBetween s lo hi, dnext s, by unfold dBetween; omega, by unfold dBetween; omega, fun H b hb => Between_ok s lo hi (by omega) (by omega) (by omega) (by omega) H hb⟩
theorem One_any (s n : Int) (hn : n ≤ 9223372036854775807) : ∃ (q : Bool) (s' : Int), ∀ (H : Heap) (b : Nat), H b = S1 s → Ev T (.call (.func (.func 36) [] []) [.ptr b 0 0, .int .i64 n] H) (.call (.bool q) (H.set b (S1 s'))) :=
  ⟨_, _, fun H b hb => One_ok s n hn H hb⟩

end Go.Proofs.YtlfaglkkeahamaaGreat.I
