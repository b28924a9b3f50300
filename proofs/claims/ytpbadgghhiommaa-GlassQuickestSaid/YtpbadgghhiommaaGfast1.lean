/- Lists that are checked; all lists of digits. -/
import Derived.Test.YtpbadgghhiommaaGdigs
import Derived.Test.YtpbadgghhiommaaGkit2
import Derived.Test.YtpbadgghhiommaaGown
set_option linter.unusedVariables false
set_option maxHeartbeats 16000000
set_option linter.unusedSimpArgs false
namespace Go.Proofs.Ytpbadgghhiommaa.I
open Go.Ideal

def InL (l : List Int) (lo hi : Int) : Prop := ∀ i : Nat, i < l.length → lo ≤ at' l (i : Int) ∧ at' l (i : Int) ≤ hi
open Classical in
noncomputable def listE (l : List Int) (most lo hi : Int) : Int := if (l.length : Int) = 0 then 6 else if most < l.length then 8 else if InL l lo hi then 0 else 2
theorem listE_zero {l : List Int} {most lo hi : Int} (h : listE l most lo hi = 0) : 0 < l.length ∧ (l.length : Int) ≤ most ∧ InL l lo hi := by
  unfold listE at h
  split at h
  · cases h
  · split at h
    · cases h
    · split at h
      · exact ⟨by omega, by omega, by assumption⟩
      · cases h
theorem checkList_ok (l : List Int) (hl : l.length ≤ 9223372036854775807) (most lo hi : Int) (H : Heap) : Ev T (.call (.func (.func 114) [] []) [sl l, .int .i64 most, .int .i64 lo, .int .i64 hi] H) (.call (.int .i64 (listE l most lo hi)) H) := by
  refine run_pure T114 (nn_int _ _) (nn_cons (sl_no _) (nn_cons (nn_int _ _) (nn_cons (nn_int _ _) (nn_cons (nn_int _ _) nn_none)))) ?_ H
  have e1 : (l.map ei).length = l.length := List.length_map ..
  have hx : ∃ r, r = listE l most lo hi := ⟨_, rfl⟩
  obtain ⟨r, hr⟩ := hx
  rw [← hr]
  unfold listE at hr
  by_cases h1 : (l.length : Int) = 0
  · rw [if_pos h1] at hr
    repeat' ((conv => whnf); first | (refine condP.eq (fun _ => ?_) (fun h => absurd (by omega) h)) | (first | refine condP.dec (fun h => ?_) (fun h => ?_) | refine condP.eq (fun h => ?_) (fun h => ?_) | refine condP.ne (fun h => ?_) (fun h => ?_)) | (refine .i64 (by omega) (by omega) ?_) | (refine onSome.intro (idx_fs rfl rfl (by omega) (by omega) (fun _ => rfl)) ?_) | (refine onSome.intro (load_fs rfl (by omega) (by omega) rfl) ?_) | (refine And.intro rfl ?_))
    conv => whnf
    exact .intro (.int .i64 6) (.inl rfl) rfl (by rw [hr]; exact .refl _)
  rw [if_neg h1] at hr
  by_cases h2 : most < l.length
  · rw [if_pos h2] at hr
    repeat' ((conv => whnf); first | (refine condP.eq (fun h => absurd h (by omega)) (fun _ => ?_)) | (refine condP.dec (fun _ => ?_) (fun h => absurd (by omega) h)) | (first | refine condP.dec (fun h => ?_) (fun h => ?_) | refine condP.eq (fun h => ?_) (fun h => ?_) | refine condP.ne (fun h => ?_) (fun h => ?_)) | (refine .i64 (by omega) (by omega) ?_) | (refine onSome.intro (idx_fs rfl rfl (by omega) (by omega) (fun _ => rfl)) ?_) | (refine onSome.intro (load_fs rfl (by omega) (by omega) rfl) ?_) | (refine And.intro rfl ?_))
    conv => whnf
    exact .intro (.int .i64 8) (.inl rfl) rfl (by rw [hr]; exact .refl _)
  rw [if_neg h2] at hr
  repeat' ((conv => whnf); first | (refine condP.eq (fun h => absurd h (by omega)) (fun _ => ?_)) | (refine condP.dec (fun h => absurd h (by omega)) (fun _ => ?_)) | (refine CallP.inl T135 rfl ?_) | (refine CallP.inl T138 rfl ?_) | (first | refine condP.dec (fun h => ?_) (fun h => ?_) | refine condP.eq (fun h => ?_) (fun h => ?_) | refine condP.ne (fun h => ?_) (fun h => ?_)) | (refine .i64 (by omega) (by omega) ?_) | (refine onSome.intro (idx_fs rfl rfl (by omega) (by omega) (fun _ => rfl)) ?_) | (refine onSome.intro (load_fs rfl (by omega) (by omega) rfl) ?_) | (refine And.intro rfl ?_))
  conv => whnf
  refine loop_rule (X := Nat) (fun i => [(0, sl l), (1, .func (.func 136) [] [.ptr 0 0 0, .ptr 1 0 0]), (7, .int .i64 l.length), (8, .int .i64 i)]) (fun _ => [.live 1 [[.int .i64 lo]], .live 1 [[.int .i64 hi]]]) (fun i => l.length - i) (fun i => i ≤ l.length ∧ ∀ j : Nat, j < i → lo ≤ at' l (j : Int) ∧ at' l (j : Int) ≤ hi) 0
    ⟨Nat.zero_le _, fun j hj => by omega⟩ ⟨rfl, rfl, (by show i6 _ = i6 _; rw [e1]), rfl, trivial⟩ rfl (fun _ _ => rfl) (fun i hq => ?_)
  obtain ⟨hile, hall⟩ := hq
  rcases Nat.lt_or_ge i l.length with hlt | hge
  · have hin : InL l lo hi → lo ≤ at' l (i : Int) ∧ at' l (i : Int) ≤ hi := fun h => h i hlt
    have hnext : lo ≤ at' l (i : Int) ∧ at' l (i : Int) ≤ hi → ∀ j : Nat, j < i + 1 → lo ≤ at' l (j : Int) ∧ at' l (j : Int) ≤ hi := fun h j hj => by
      by_cases q : j = i
      · subst q; exact h
      · exact hall j (by omega)
    generalize hv : at' l (i : Int) = v at *
    repeat' ((conv => whnf); first | (refine condP.dec (fun _ => ?_) (fun h => absurd (by omega) h)) | (refine onSome.intro (load_fs (l := l) (enc := ei) (i := (i : Int)) (v := .int .i64 v) rfl (by omega) (by omega) (by rw [hv]; rfl)) ?_) | (refine CallP.inl T136 rfl ?_) | (first | refine condP.dec (fun h => ?_) (fun h => ?_) | refine condP.eq (fun h => ?_) (fun h => ?_) | refine condP.ne (fun h => ?_) (fun h => ?_)) | (refine .i64 (by omega) (by omega) ?_) | (refine onSome.intro (idx_fs rfl rfl (by omega) (by omega) (fun _ => rfl)) ?_) | (refine onSome.intro (load_fs rfl (by omega) (by omega) rfl) ?_) | (refine And.intro rfl ?_))
    all_goals first | (exfalso; omega) | skip
    all_goals first
      | (refine .more (i + 1) rfl ⟨by omega, hnext (by omega)⟩ (by omega) ⟨rfl, rfl, rfl, rfl, trivial⟩ rfl ⟨(sl_no _).inn _, .func _ _ _ (fun i h => by simp at h) (fun i h => by
          match i, h with
          | 0, _ => exact .ptr _ _ _ (by simp)
          | 1, _ => exact .ptr _ _ _ (by simp)), .int _ _, .int _ _, trivial⟩ ⟨row_inn (nn_cons (.int _ _) nn_none), row_inn (nn_cons (.int _ _) nn_none), trivial⟩)
      | (have hr2 : r = 2 := by rw [hr, if_neg (fun h => by have := hin h; omega)]
         refine .done (by simp) ?_
         repeat' ((conv => whnf); first | (refine condP.dec (fun _ => ?_) (fun h => absurd (by omega) h)) | (first | refine condP.dec (fun h => ?_) (fun h => ?_) | refine condP.eq (fun h => ?_) (fun h => ?_) | refine condP.ne (fun h => ?_) (fun h => ?_)) | (refine .i64 (by omega) (by omega) ?_) | (refine onSome.intro (idx_fs rfl rfl (by omega) (by omega) (fun _ => rfl)) ?_) | (refine onSome.intro (load_fs rfl (by omega) (by omega) rfl) ?_) | (refine And.intro rfl ?_))
         conv => whnf
         exact .intro (.int .i64 2) (.inl rfl) rfl (by rw [hr2]; exact .refl _))
  · obtain rfl : i = l.length := by omega
    have hr0 : r = 0 := by rw [hr]; exact if_pos (show InL l lo hi from fun j hj => hall j hj)
    repeat' ((conv => whnf); first | (refine condP.dec (fun h => absurd h (by omega)) (fun _ => ?_)) | (first | refine condP.dec (fun h => ?_) (fun h => ?_) | refine condP.eq (fun h => ?_) (fun h => ?_) | refine condP.ne (fun h => ?_) (fun h => ?_)) | (refine .i64 (by omega) (by omega) ?_) | (refine onSome.intro (idx_fs rfl rfl (by omega) (by omega) (fun _ => rfl)) ?_) | (refine onSome.intro (load_fs rfl (by omega) (by omega) rfl) ?_) | (refine And.intro rfl ?_))
    refine .done (by simp) ?_
    conv => whnf
    exact .intro (.int .i64 0) (.inl rfl) rfl (by rw [hr0]; exact .refl _)
end Go.Proofs.Ytpbadgghhiommaa.I
