/- The reference's First and Count. -/
import Derived.Test.YtpbadgghhiommaaGrord
set_option linter.unusedVariables false
set_option maxHeartbeats 16000000
set_option linter.unusedSimpArgs false
namespace Go.Proofs.Ytpbadgghhiommaa.I
open Go.Ideal

noncomputable def allL (l : List Fire) : List (List Int) := ordL l l.length []
noncomputable def firstR (l : List Fire) : List Int × Int := if firesE l ≠ 0 then ([], firesE l) else if (allL l).length = 0 then ([], 7) else ((allL l).headD [], 0)
noncomputable def countR (l : List Fire) : Int × Int := if firesE l ≠ 0 then (0, firesE l) else ((allL l).length, 0)
theorem rFirst_ok (l : List Fire) (hl : l.length ≤ 100000) (ha : ∀ i : Nat, i < l.length → (at' l (i : Int)).aft.length ≤ 9000000000000000000) (H : Heap) :
    Ev T (.call (.func (.func 60) [] []) [frsl l] H) (.call (.tuple [sl (firstR l).1, .int .i64 (firstR l).2]) H) := by
  refine run_pure T60 (nn_tuple (nn_cons (sl_no _) (nn_cons (nn_int _ _) nn_none))) (nn_cons (frsl_no _) nn_none) ?_ H
  have kc := rCheckFires_ok l (by omega) ha
  have ko := fun h : firesE l = 0 => rorders_ok l (fires_zero h) ha l.length [] (by simp) (fun b hb => by cases hb)
  have hx : ∃ r, r = firstR l := ⟨_, rfl⟩
  obtain ⟨r, hr⟩ := hx
  rw [← hr]
  unfold firstR allL at hr
  generalize ordL l l.length [] = Q at *
  generalize firesE l = e at *
  by_cases h0 : e = 0
  · subst h0
    have ko := ko rfl
    rw [if_neg (by simp)] at hr
    have hz : (Q.length : Int) = 0 → r = ([], 7) := fun h => by rw [hr, if_pos (by omega)]
    have hnz : ¬ (Q.length : Int) = 0 → r = (Q.headD [], 0) := fun h => by rw [hr, if_neg (by omega)]
    generalize (Q.length : Int) = A at *
    generalize Q.headD [] = q at *
    repeat' ((conv => whnf); first | (refine CallP.pure kc ?_) | (refine condP.differ1 ?_) | (refine CallP.frz [] rfl [frsl l, sl []] (.cons (.refl _) (.cons .nil .nil)) ?_) | (refine CallP.pure ko ?_) | (first | refine condP.dec (fun h => ?_) (fun h => ?_) | refine condP.eq (fun h => ?_) (fun h => ?_) | refine condP.ne (fun h => ?_) (fun h => ?_)) | (refine .i64 (by omega) (by omega) ?_) | (refine onSome.intro (idx_fs rfl rfl (by omega) (by omega) (fun _ => rfl)) ?_) | (refine onSome.intro (load_fs rfl (by omega) (by omega) rfl) ?_) | (refine And.intro rfl ?_))
    all_goals first | (exfalso; omega) | skip
    all_goals conv => whnf
    all_goals first
      | exact .intro (.tuple [.nilslice, .int .i64 7]) (.inl rfl) rfl (by rw [hz (by assumption)]; exact .tupleL (.cons .nil (.cons (.refl _) .nil)))
      | exact .intro (.tuple [sl q, .int .i64 0]) (.inl rfl) rfl (by rw [hnz (by assumption)]; exact .refl _)
  · rw [if_pos h0] at hr
    repeat' ((conv => whnf); first | (refine CallP.pure kc ?_) | (first | refine condP.dec (fun h => ?_) (fun h => ?_) | refine condP.eq (fun h => ?_) (fun h => ?_) | refine condP.ne (fun h => ?_) (fun h => ?_)) | (refine .i64 (by omega) (by omega) ?_) | (refine onSome.intro (idx_fs rfl rfl (by omega) (by omega) (fun _ => rfl)) ?_) | (refine onSome.intro (load_fs rfl (by omega) (by omega) rfl) ?_) | (refine And.intro rfl ?_))
    all_goals first | (exfalso; omega) | skip
    all_goals conv => whnf
    all_goals exact .intro (.tuple [.nilslice, .int .i64 e]) (.inl rfl) rfl (by rw [hr]; exact .tupleL (.cons .nil (.cons (.refl _) .nil)))
theorem rCount_ok (l : List Fire) (hl : l.length ≤ 100000) (ha : ∀ i : Nat, i < l.length → (at' l (i : Int)).aft.length ≤ 9000000000000000000) (H : Heap) :
    Ev T (.call (.func (.func 62) [] []) [frsl l] H) (.call (.tuple [.int .i64 (countR l).1, .int .i64 (countR l).2]) H) := by
  refine run_pure T62 (nn_tuple (nn_cons (nn_int _ _) (nn_cons (nn_int _ _) nn_none))) (nn_cons (frsl_no _) nn_none) ?_ H
  have kc := rCheckFires_ok l (by omega) ha
  have ko := fun h : firesE l = 0 => rorders_ok l (fires_zero h) ha l.length [] (by simp) (fun b hb => by cases hb)
  have hx : ∃ r, r = countR l := ⟨_, rfl⟩
  obtain ⟨r, hr⟩ := hx
  rw [← hr]
  unfold countR allL at hr
  generalize ordL l l.length [] = Q at *
  generalize firesE l = e at *
  by_cases h0 : e = 0
  · subst h0
    have ko := ko rfl
    rw [if_neg (by simp)] at hr
    generalize (Q.length : Int) = A at *
    generalize Q.headD [] = q at *
    repeat' ((conv => whnf); first | (refine CallP.pure kc ?_) | (refine condP.differ1 ?_) | (refine CallP.frz [] rfl [frsl l, sl []] (.cons (.refl _) (.cons .nil .nil)) ?_) | (refine CallP.pure ko ?_) | (first | refine condP.dec (fun h => ?_) (fun h => ?_) | refine condP.eq (fun h => ?_) (fun h => ?_) | refine condP.ne (fun h => ?_) (fun h => ?_)) | (refine .i64 (by omega) (by omega) ?_) | (refine onSome.intro (idx_fs rfl rfl (by omega) (by omega) (fun _ => rfl)) ?_) | (refine onSome.intro (load_fs rfl (by omega) (by omega) rfl) ?_) | (refine And.intro rfl ?_))
    all_goals first | (exfalso; omega) | skip
    all_goals conv => whnf
    all_goals exact .intro (.tuple [.int .i64 A, .int .i64 0]) (.inl rfl) rfl (by rw [hr]; exact .refl _)
  · rw [if_pos h0] at hr
    repeat' ((conv => whnf); first | (refine CallP.pure kc ?_) | (first | refine condP.dec (fun h => ?_) (fun h => ?_) | refine condP.eq (fun h => ?_) (fun h => ?_) | refine condP.ne (fun h => ?_) (fun h => ?_)) | (refine .i64 (by omega) (by omega) ?_) | (refine onSome.intro (idx_fs rfl rfl (by omega) (by omega) (fun _ => rfl)) ?_) | (refine onSome.intro (load_fs rfl (by omega) (by omega) rfl) ?_) | (refine And.intro rfl ?_))
    all_goals first | (exfalso; omega) | skip
    all_goals conv => whnf
    all_goals exact .intro (.tuple [.int .i64 0, .int .i64 e]) (.inl rfl) rfl (by rw [hr]; exact .refl _)

end Go.Proofs.Ytpbadgghhiommaa.I
