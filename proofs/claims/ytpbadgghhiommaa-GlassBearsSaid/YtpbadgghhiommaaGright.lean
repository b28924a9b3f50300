/- Right orders of fires: those of a list, one by one. -/
import Derived.Test.YtpbadgghhiommaaGmay
import Derived.Test.YtpbadgghhiommaaGown
set_option linter.unusedVariables false
set_option maxHeartbeats 16000000
set_option linter.unusedSimpArgs false
namespace Go.Proofs.Ytpbadgghhiommaa.I
open Go.Ideal

theorem Has_any (l : List Int) (hl : l.length ≤ 9223372036854775807) (n : Int) : ∃ q : Bool, (q = true ↔ n ∈ l) ∧ ∀ H, Ev T (.call (.func (.func 58) [] []) [sl l, .int .i64 n] H) (.call (.bool q) H) := by
  refine ⟨@decide _ (Classical.propDecidable (n ∈ l)), by simp, fun H => ?_⟩
  refine run_pure T58 (nn_bool _) (nn_cons (sl_no _) (nn_cons (nn_int _ _) nn_none)) ?_ H
  have e1 : (l.map ei).length = l.length := List.length_map ..
  have hx : ∃ r, r = @decide _ (Classical.propDecidable (n ∈ l)) := ⟨_, rfl⟩
  obtain ⟨r, hr⟩ := hx
  rw [← hr]
  have hr1 : r = true ↔ n ∈ l := by rw [hr]; simp
  clear hr
  conv => whnf
  refine loop_rule (X := Nat) (fun i => [(0, sl l), (1, .int .i64 n), (5, .int .i64 i)]) (fun _ => []) (fun i => l.length - i) (fun i => i ≤ l.length ∧ ∀ j : Nat, j < i → at' l (j : Int) ≠ n) 0
    ⟨Nat.zero_le _, fun j hj => by omega⟩ ⟨rfl, rfl, rfl, trivial⟩ rfl (fun _ _ => rfl) (fun i hi => ?_)
  obtain ⟨hi, h0⟩ := hi
  rcases Nat.lt_or_ge i l.length with hlt | hge
  · have hmem : at' l (i : Int) ∈ l := by rw [at'_get hlt]; exact List.getElem_mem hlt
    generalize hv : at' l (i : Int) = v at *
    repeat' ((conv => whnf); first | (refine condP.dec (fun _ => ?_) (fun h => absurd (by omega) h)) | (refine onSome.intro (load_fs (l := l) (enc := ei) (i := (i : Int)) (v := .int .i64 v) rfl (by omega) (by omega) (by rw [hv]; rfl)) ?_) | (first | refine condP.dec (fun h => ?_) (fun h => ?_) | refine condP.eq (fun h => ?_) (fun h => ?_) | refine condP.ne (fun h => ?_) (fun h => ?_)) | (refine .i64 (by omega) (by omega) ?_) | (refine onSome.intro (idx_fs rfl rfl (by omega) (by omega) (fun _ => rfl)) ?_) | (refine onSome.intro (load_fs rfl (by omega) (by omega) rfl) ?_) | (refine And.intro rfl ?_))
    all_goals first | (exfalso; omega) | skip
    all_goals conv => whnf
    all_goals first
      | (refine .done (by simp) ?_
         conv => whnf
         refine .intro (.bool true) (.inl rfl) rfl ?_
         rw [hr1.mpr (by rw [show n = v by omega]; exact hmem)]
         exact .refl _)
      | (have h1 : ∀ j : Nat, j < i + 1 → at' l (j : Int) ≠ n := fun j hj => by
           by_cases q : j = i
           · subst q; omega
           · exact h0 j (by omega)
         exact .more (i + 1) rfl ⟨by omega, h1⟩ (by omega) ⟨rfl, rfl, rfl, trivial⟩ rfl ⟨(sl_no _).inn _, .int _ _, .int _ _, trivial⟩ trivial)
  · obtain rfl : i = l.length := by omega
    conv => whnf
    refine condP.dec (fun h => absurd h (by omega)) (fun _ => ?_)
    conv => whnf
    refine .done (by simp) ?_
    conv => whnf
    refine .intro (.bool false) (.inl rfl) rfl ?_
    have hb : r = false := by
      cases r with
      | false => rfl
      | true =>
        exfalso
        obtain ⟨j, hj, e⟩ := List.mem_iff_getElem.mp (hr1.mp rfl)
        exact h0 j hj (by rw [at'_get hj]; exact e)
    rw [hb]
    exact .refl _
end Go.Proofs.Ytpbadgghhiommaa.I
