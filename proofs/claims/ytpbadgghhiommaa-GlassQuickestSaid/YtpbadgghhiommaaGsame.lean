/- Equal lists. -/
import Derived.Test.YtpbadgghhiommaaGdice
set_option linter.unusedVariables false
set_option maxHeartbeats 4000000
set_option linter.unusedSimpArgs false
namespace Go.Proofs.Ytpbadgghhiommaa.I
open Go.Ideal

theorem Same_ok (a b : List Int) (ha : a.length ≤ 9223372036854775807) (H : Heap) : Ev T (.call (.func (.func 52) [] []) [sl a, sl b] H) (.call (.bool (decide (a = b))) H) := by
  refine run_pure T52 (nn_bool _) (nn_cons (sl_no _) (nn_cons (sl_no _) nn_none)) ?_ H
  conv => whnf
  refine condP.ne (fun h => ?_) (fun h => ?_)
  · conv => whnf
    refine .intro (.bool false) (.inl rfl) rfl (frz_bool (decide_eq_false ?_).symm)
    rintro rfl; exact h rfl
  · have hl : a.length = b.length := by
      simp only [List.length_map] at h
      omega
    conv => whnf
    refine loop_rule (X := Nat) (fun i => [(0, sl a), (1, sl b), (5, .int .i64 i)]) (fun _ => []) (fun i => a.length - i) (fun i => i ≤ a.length ∧ ∀ (j : Nat) (h : j < i) (h1 : j < a.length) (h2 : j < b.length), a[j] = b[j]) 0
      ⟨Nat.zero_le _, fun j h => by omega⟩ ⟨rfl, rfl, rfl, trivial⟩ rfl (fun _ _ => rfl) (fun i hi => ?_)
    obtain ⟨hi, hall⟩ := hi
    conv => whnf
    refine condP.dec (fun h => ?_) (fun h => ?_)
    · have hlt : (i : Int) < a.length := by simpa using h
      have hlt' : (i : Int) < b.length := by omega
      conv => whnf
      refine onSome.intro (idx_fs rfl rfl (Int.natCast_nonneg _) hlt (fun _ => rfl)) ?_
      conv => whnf
      refine onSome.intro (load_fs (v := .int .i64 (at' a i)) rfl (Int.natCast_nonneg _) hlt rfl) ?_
      conv => whnf
      refine onSome.intro (idx_fs rfl rfl (Int.natCast_nonneg _) hlt' (fun _ => rfl)) ?_
      conv => whnf
      refine onSome.intro (load_fs (v := .int .i64 (at' b i)) rfl (Int.natCast_nonneg _) hlt' rfl) ?_
      rw [at'_get (show i < a.length by omega), at'_get (show i < b.length by omega)]
      conv => whnf
      refine condP.ne (fun h => ?_) (fun h => ?_)
      · conv => whnf
        refine .done (by simp) ?_
        conv => whnf
        refine .intro (.bool false) (.inl rfl) rfl (frz_bool (decide_eq_false ?_).symm)
        rintro rfl; exact h rfl
      · conv => whnf
        refine .i64 (by omega) (by omega) ?_
        conv => whnf
        refine .more (i + 1) rfl ⟨by omega, fun j h1 h2 h3 => ?_⟩ (by omega) ⟨rfl, rfl, rfl, trivial⟩ rfl ⟨(sl_no _).inn _, (sl_no _).inn _, .int _ _, trivial⟩ trivial
        by_cases e : j = i
        · subst e; exact h
        · exact hall j (by omega) h2 h3
    · conv => whnf
      refine .done (by simp) ?_
      conv => whnf
      refine .intro (.bool true) (.inl rfl) rfl (frz_bool (decide_eq_true ?_).symm)
      apply List.ext_getElem hl
      intro j h1 h2
      have : ¬ ((i : Int) < a.length) := by simpa using h
      exact hall j (by omega) h1 h2

end Go.Proofs.Ytpbadgghhiommaa.I
