/- Stuffs of glass: are they valid? -/
import Derived.Test.YtpbadgghhiommaaGdice
import Derived.Test.YtpbadgghhiommaaMfam
set_option linter.unusedVariables false
set_option maxHeartbeats 4000000
set_option linter.unusedSimpArgs false
namespace Go.Proofs.Ytpbadgghhiommaa.I
open Go.Ideal

structure Zone where
  fr : Int
  gl : Int
  gh : Int
  rl : Int
  rh : Int
  deriving Inhabited
abbrev i6 (n : Int) : IV := .int .i64 n
def zr (z : Zone) : List IV := [.int .i64 z.fr, .int .i64 z.gl, .int .i64 z.gh, .int .i64 z.rl, .int .i64 z.rh]
def zsl (zs : List Zone) : IV := .fslice (zs.map zr)
theorem zsl_no (zs : List Zone) : Noname (zsl zs) := nn_fs (fun _ _ => nn_cons (.int _ _) (nn_cons (.int _ _) (nn_cons (.int _ _) (nn_cons (.int _ _) (nn_cons (.int _ _) nn_none)))))
def stuffI (b : Int) (zs : List Zone) : IV := .agg [.int .i64 b, zsl zs]
theorem stuffI_no (b : Int) (zs : List Zone) : Noname (stuffI b zs) := nn_agg (nn_cons (.int _ _) (nn_cons (zsl_no _) nn_none))
def rgI (a b : Int) : IV := .agg [.int .i64 a, .int .i64 b]
theorem rgI_no (a b : Int) : Noname (rgI a b) := nn_agg (nn_cons (.int _ _) (nn_cons (.int _ _) nn_none))

abbrev zn (zs : List Zone) (i : Nat) : Zone := zs.getD i default
def Outs (n m : Int) : Prop := n < 0 ∨ m < n
instance (n m : Int) : Decidable (Outs n m) := inferInstanceAs (Decidable (n < 0 ∨ m < n))
def Beyond (n a b : Int) : Prop := n < a ∨ b < n
instance (n a b : Int) : Decidable (Beyond n a b) := inferInstanceAs (Decidable (n < a ∨ b < n))
def rangeE (a b m : Int) : Int := if a < 0 ∨ m < a ∨ b < 0 ∨ m < b then 2 else if b < a then 11 else 0
def zoneE (zs : List Zone) (i : Nat) : Int :=
  if (zn zs i).fr < 0 ∨ 2000 < (zn zs i).fr then 2
  else if (i = 0 ∧ (zn zs i).fr ≠ 0) ∨ (0 < i ∧ (zn zs i).fr ≤ (zn zs (i - 1)).fr) then 11
  else if rangeE (zn zs i).gl (zn zs i).gh 100000 ≠ 0 then rangeE (zn zs i).gl (zn zs i).gh 100000
  else rangeE (zn zs i).rl (zn zs i).rh 1000000
def checkE (b : Int) (zs : List Zone) : Int :=
  if b < 1 ∨ 1000000000 < b then 2 else if zs.length = 0 then 6 else if 16 < zs.length then 8 else firstErr (zoneE zs) zs.length

theorem row_inn {S : Nat → Prop} {r : List IV} (h : ∀ x ∈ r, Noname x) : ∀ (j k : Nat) (hj : j < [r].length) (hk : k < ([r][j]).length), Inn S ([r][j][k]) := fun j k hj hk =>
  (noS_row (sz := 0) h _ (List.getElem_mem hj) _ (List.getElem_mem hk)).inn _

theorem outside_ok (n m : Int) (H : Heap) : Ev T (.call (.func (.func 85) [] []) [.int .i64 n, .int .i64 m] H) (.call (.bool (decide (Outs n m))) H) := by
  refine run_pure T85 (nn_bool _) (nn_cons (nn_int _ _) (nn_cons (nn_int _ _) nn_none)) ?_ H
  repeat' ((conv => whnf); refine condP.dec (fun h => ?_) (fun h => ?_))
  all_goals conv => whnf
  all_goals first
    | exact .intro (.bool true) (.inl rfl) rfl (frz_bool (decide_eq_true (by unfold Outs; omega)).symm)
    | exact .intro (.bool false) (.inl rfl) rfl (frz_bool (decide_eq_false (by unfold Outs; omega)).symm)
theorem beyond_ok (n a b : Int) (H : Heap) : Ev T (.call (.func (.func 87) [] []) [.int .i64 n, .int .i64 a, .int .i64 b] H) (.call (.bool (decide (Beyond n a b))) H) := by
  refine run_pure T87 (nn_bool _) (nn_cons (nn_int _ _) (nn_cons (nn_int _ _) (nn_cons (nn_int _ _) nn_none))) ?_ H
  repeat' ((conv => whnf); refine condP.dec (fun h => ?_) (fun h => ?_))
  all_goals conv => whnf
  all_goals first
    | exact .intro (.bool true) (.inl rfl) rfl (frz_bool (decide_eq_true (by unfold Beyond; omega)).symm)
    | exact .intro (.bool false) (.inl rfl) rfl (frz_bool (decide_eq_false (by unfold Beyond; omega)).symm)

theorem checkRange_ok (a b m : Int) (H : Heap) : Ev T (.call (.func (.func 86) [] []) [rgI a b, .int .i64 m] H) (.call (.int .i64 (rangeE a b m)) H) := by
  refine run_pure T86 (nn_int _ _) (nn_cons (rgI_no _ _) (nn_cons (nn_int _ _) nn_none)) ?_ H
  conv => whnf
  refine CallP.dec (outside_ok _ _) (fun h1 => ?_) (fun h1 => ?_)
  all_goals unfold Outs at h1
  · conv => whnf
    exact .intro (.int .i64 2) (.inl rfl) rfl (frz_int (by unfold rangeE; rw [if_pos (by omega)]))
  · conv => whnf
    refine CallP.dec (outside_ok _ _) (fun h2 => ?_) (fun h2 => ?_)
    all_goals unfold Outs at h2
    · conv => whnf
      exact .intro (.int .i64 2) (.inl rfl) rfl (frz_int (by unfold rangeE; rw [if_pos (by omega)]))
    · conv => whnf
      refine condP.dec (fun h3 => ?_) (fun h3 => ?_)
      · conv => whnf
        exact .intro (.int .i64 11) (.inl rfl) rfl (frz_int (by unfold rangeE; rw [if_neg (by omega), if_pos (by omega)]))
      · conv => whnf
        exact .intro (.int .i64 0) (.inl rfl) rfl (frz_int (by unfold rangeE; rw [if_neg (by omega), if_neg (by omega)]))
theorem rcheckRange_ok (a b m : Int) (H : Heap) : Ev T (.call (.func (.func 88) [] []) [rgI a b, .int .i64 m] H) (.call (.int .i64 (rangeE a b m)) H) := by
  refine run_pure T88 (nn_int _ _) (nn_cons (rgI_no _ _) (nn_cons (nn_int _ _) nn_none)) ?_ H
  conv => whnf
  refine CallP.dec (beyond_ok _ _ _) (fun h1 => ?_) (fun h1 => ?_)
  all_goals unfold Beyond at h1
  · conv => whnf
    exact .intro (.int .i64 2) (.inl rfl) rfl (frz_int (by unfold rangeE; rw [if_pos (by omega)]))
  · conv => whnf
    refine CallP.dec (beyond_ok _ _ _) (fun h2 => ?_) (fun h2 => ?_)
    all_goals unfold Beyond at h2
    · conv => whnf
      exact .intro (.int .i64 2) (.inl rfl) rfl (frz_int (by unfold rangeE; rw [if_pos (by omega)]))
    · conv => whnf
      refine condP.dec (fun h3 => ?_) (fun h3 => ?_)
      · conv => whnf
        exact .intro (.int .i64 11) (.inl rfl) rfl (frz_int (by unfold rangeE; rw [if_neg (by omega), if_pos (by omega)]))
      · conv => whnf
        exact .intro (.int .i64 0) (.inl rfl) rfl (frz_int (by unfold rangeE; rw [if_neg (by omega), if_neg (by omega)]))

theorem Check_ok (b : Int) (zs : List Zone) (hz : zs.length ≤ 9000000000000000000) (H : Heap) : Ev T (.call (.func (.func 30) [] []) [stuffI b zs] H) (.call (.int .i64 (checkE b zs)) H) := by
  refine run_pure T30 (nn_int _ _) (nn_cons (stuffI_no _ _) nn_none) ?_ H
  have e1 : (zs.map zr).length = zs.length := List.length_map ..
  have hx : ∃ r, r = checkE b zs := ⟨_, rfl⟩
  obtain ⟨r, hr⟩ := hx
  rw [← hr]
  unfold checkE at hr
  repeat' ((conv => whnf); first | (first | refine condP.dec (fun h => ?_) (fun h => ?_) | refine condP.eq (fun h => ?_) (fun h => ?_) | refine condP.ne (fun h => ?_) (fun h => ?_)) | (refine .i64 (by omega) (by omega) ?_) | (refine onSome.intro (idx_fs rfl rfl (by omega) (by omega) (fun _ => rfl)) ?_) | (refine onSome.intro (load_fs rfl (by omega) (by omega) rfl) ?_) | (refine And.intro rfl ?_))
  all_goals first | (exfalso; omega) | skip
  all_goals conv => whnf
  all_goals first
    | exact .intro (.int .i64 2) (.inl rfl) rfl (frz_int (by rw [hr, if_pos (by omega)]))
    | exact .intro (.int .i64 6) (.inl rfl) rfl (frz_int (by rw [hr, if_neg (by omega), if_pos (by omega)]))
    | exact .intro (.int .i64 8) (.inl rfl) rfl (frz_int (by rw [hr, if_neg (by omega), if_neg (by omega), if_pos (by omega)]))
    | skip
  rw [if_neg (by omega), if_neg (by omega), if_neg (by omega)] at hr
  refine loop_rule (X := Nat) (fun i => [(1, .ptr 0 0 0), (27, zsl zs), (28, .int .i64 zs.length), (29, .int .i64 i)]) (fun _ => [.live 2 [[.int .i64 b, zsl zs]]]) (fun i => zs.length - i) (fun i => i ≤ zs.length ∧ firstErr (zoneE zs) i = 0) 0
    ⟨Nat.zero_le _, rfl⟩ ⟨rfl, rfl, by show i6 _ = i6 _; rw [e1], rfl, trivial⟩ rfl (fun _ _ => rfl) (fun i hi => ?_)
  obtain ⟨hi, h0⟩ := hi
  conv => whnf
  refine condP.dec (fun hlt => ?_) (fun hlt => ?_)
  · have hnext : zoneE zs i = 0 → firstErr (zoneE zs) (i + 1) = 0 := fun h => firstErr_succ h0 h
    have hstop : zoneE zs i ≠ 0 → firstErr (zoneE zs) zs.length = zoneE zs i := fun h => firstErr_stop h0 h (by omega)
    have f1 : at' zs (i : Int) = zn zs i := rfl
    have f2 : i = 0 ∨ (at' zs ((i : Int) - 1)).fr = (zn zs (i - 1)).fr := by
      rcases Nat.eq_zero_or_pos i with q | q
      · exact .inl q
      · rw [show ((i : Int) - 1) = ((i - 1 : Nat) : Int) by omega]
        exact .inr rfl
    have hce : ∃ c, c = zoneE zs i := ⟨_, rfl⟩
    obtain ⟨c, hc⟩ := hce
    rw [← hc] at hnext hstop
    unfold zoneE at hc
    rw [← f1] at hc
    have k1 := checkRange_ok (at' zs (i : Int)).gl (at' zs (i : Int)).gh 100000
    have k2 := checkRange_ok (at' zs (i : Int)).rl (at' zs (i : Int)).rh 1000000
    have hg1 : ∃ g, g = rangeE (at' zs (i : Int)).gl (at' zs (i : Int)).gh 100000 := ⟨_, rfl⟩
    obtain ⟨g1, hg1⟩ := hg1
    have hg2 : ∃ g, g = rangeE (at' zs (i : Int)).rl (at' zs (i : Int)).rh 1000000 := ⟨_, rfl⟩
    obtain ⟨g2, hg2⟩ := hg2
    rw [← hg1] at k1 hc
    rw [← hg2] at k2 hc
    clear hg1 hg2
    repeat' ((conv => whnf); first | (refine CallP.dec (outside_ok _ _) (fun h => ?_) (fun h => ?_)) | (refine CallP.pure k1 ?_) | (refine CallP.pure k2 ?_) | (first | refine condP.dec (fun h => ?_) (fun h => ?_) | refine condP.eq (fun h => ?_) (fun h => ?_) | refine condP.ne (fun h => ?_) (fun h => ?_)) | (refine .i64 (by omega) (by omega) ?_) | (refine onSome.intro (idx_fs rfl rfl (by omega) (by omega) (fun _ => rfl)) ?_) | (refine onSome.intro (load_fs rfl (by omega) (by omega) rfl) ?_) | (refine And.intro rfl ?_))
    all_goals unfold Outs at *
    all_goals first | (exfalso; omega) | skip
    all_goals conv => whnf
    all_goals first
      | (have hc0 : c = 0 := by
           rw [hc]
           repeat' split
           all_goals omega
         exact .more (i + 1) rfl ⟨by omega, hnext hc0⟩ (by omega) ⟨rfl, rfl, rfl, rfl, trivial⟩ rfl ⟨.ptr _ _ _ (by simp), (zsl_no _).inn _, .int _ _, .int _ _, trivial⟩ ⟨row_inn (nn_cons (.int _ _) (nn_cons (zsl_no _) nn_none)), trivial⟩)
      | (refine .done (by simp) ?_
         conv => whnf
         have hcn : c ≠ 0 := by
           rw [hc]
           repeat' split
           all_goals omega
         refine .intro (.int .i64 _) (.inl rfl) rfl (frz_int ?_)
         rw [hr, hstop hcn, hc]
         repeat' split
         all_goals omega)
  · obtain rfl : i = zs.length := by omega
    conv => whnf
    refine .done (by simp) ?_
    conv => whnf
    exact .intro (.int .i64 0) (.inl rfl) rfl (frz_int (by rw [hr, h0]))
theorem rCheck_ok (b : Int) (zs : List Zone) (hz : zs.length ≤ 9000000000000000000) (H : Heap) : Ev T (.call (.func (.func 31) [] []) [stuffI b zs] H) (.call (.int .i64 (checkE b zs)) H) := by
  refine run_pure T31 (nn_int _ _) (nn_cons (stuffI_no _ _) nn_none) ?_ H
  have e1 : (zs.map zr).length = zs.length := List.length_map ..
  have hx : ∃ r, r = checkE b zs := ⟨_, rfl⟩
  obtain ⟨r, hr⟩ := hx
  rw [← hr]
  unfold checkE at hr
  repeat' ((conv => whnf); first | (refine CallP.dec (beyond_ok _ _ _) (fun h => ?_) (fun h => ?_)) | (first | refine condP.dec (fun h => ?_) (fun h => ?_) | refine condP.eq (fun h => ?_) (fun h => ?_) | refine condP.ne (fun h => ?_) (fun h => ?_)) | (refine .i64 (by omega) (by omega) ?_) | (refine onSome.intro (idx_fs rfl rfl (by omega) (by omega) (fun _ => rfl)) ?_) | (refine onSome.intro (load_fs rfl (by omega) (by omega) rfl) ?_) | (refine And.intro rfl ?_))
  all_goals unfold Beyond at *
  all_goals first | (exfalso; omega) | skip
  all_goals conv => whnf
  all_goals first
    | exact .intro (.int .i64 2) (.inl rfl) rfl (frz_int (by rw [hr, if_pos (by omega)]))
    | exact .intro (.int .i64 6) (.inl rfl) rfl (frz_int (by rw [hr, if_neg (by omega), if_pos (by omega)]))
    | exact .intro (.int .i64 8) (.inl rfl) rfl (frz_int (by rw [hr, if_neg (by omega), if_neg (by omega), if_pos (by omega)]))
    | skip
  rw [if_neg (by omega), if_neg (by omega), if_neg (by omega)] at hr
  refine loop_rule (X := Nat × Int) (fun x => [(1, .ptr 0 0 0), (3, .int .i64 x.2), (4, .int .i64 x.1)]) (fun _ => [.live 2 [[.int .i64 b, zsl zs]]]) (fun x => zs.length - x.1)
    (fun x => x.1 ≤ zs.length ∧ firstErr (zoneE zs) x.1 = 0 ∧ (x.1 = 0 ∧ x.2 = -1 ∨ 0 < x.1 ∧ x.2 = (zn zs (x.1 - 1)).fr)) (0, -1)
    ⟨Nat.zero_le _, rfl, .inl ⟨rfl, rfl⟩⟩ ⟨rfl, rfl, rfl, trivial⟩ rfl (fun _ _ => rfl) (fun x hi => ?_)
  obtain ⟨i, la⟩ := x
  obtain ⟨hi, h0, f2⟩ := hi
  dsimp only at hi h0 f2 ⊢
  conv => whnf
  refine condP.dec (fun hlt => ?_) (fun hlt => ?_)
  · have hnext : zoneE zs i = 0 → firstErr (zoneE zs) (i + 1) = 0 := fun h => firstErr_succ h0 h
    have hstop : zoneE zs i ≠ 0 → firstErr (zoneE zs) zs.length = zoneE zs i := fun h => firstErr_stop h0 h (by omega)
    have f1 : at' zs (i : Int) = zn zs i := rfl
    have f3 : (zn zs (i + 1 - 1)).fr = (at' zs (i : Int)).fr := rfl
    have hce : ∃ c, c = zoneE zs i := ⟨_, rfl⟩
    obtain ⟨c, hc⟩ := hce
    rw [← hc] at hnext hstop
    unfold zoneE at hc
    rw [← f1] at hc
    have k1 := rcheckRange_ok (at' zs (i : Int)).gl (at' zs (i : Int)).gh 100000
    have k2 := rcheckRange_ok (at' zs (i : Int)).rl (at' zs (i : Int)).rh 1000000
    have hg1 : ∃ g, g = rangeE (at' zs (i : Int)).gl (at' zs (i : Int)).gh 100000 := ⟨_, rfl⟩
    obtain ⟨g1, hg1⟩ := hg1
    have hg2 : ∃ g, g = rangeE (at' zs (i : Int)).rl (at' zs (i : Int)).rh 1000000 := ⟨_, rfl⟩
    obtain ⟨g2, hg2⟩ := hg2
    rw [← hg1] at k1 hc
    rw [← hg2] at k2 hc
    clear hg1 hg2
    repeat' ((conv => whnf); first | (refine CallP.dec (beyond_ok _ _ _) (fun h => ?_) (fun h => ?_)) | (refine CallP.pure k1 ?_) | (refine CallP.pure k2 ?_) | (first | refine condP.dec (fun h => ?_) (fun h => ?_) | refine condP.eq (fun h => ?_) (fun h => ?_) | refine condP.ne (fun h => ?_) (fun h => ?_)) | (refine .i64 (by omega) (by omega) ?_) | (refine onSome.intro (idx_fs rfl rfl (by omega) (by omega) (fun _ => rfl)) ?_) | (refine onSome.intro (load_fs rfl (by omega) (by omega) rfl) ?_) | (refine And.intro rfl ?_))
    all_goals unfold Beyond at *
    all_goals first | (exfalso; omega) | skip
    all_goals conv => whnf
    all_goals first
      | (have hc0 : c = 0 := by
           rw [hc]
           repeat' split
           all_goals omega
         exact .more (i + 1, (at' zs (i : Int)).fr) rfl ⟨by dsimp only; omega, hnext hc0, .inr ⟨by dsimp only; omega, f3.symm⟩⟩ (by dsimp only; omega) ⟨rfl, rfl, rfl, trivial⟩ rfl ⟨.ptr _ _ _ (by simp), .int _ _, .int _ _, trivial⟩ ⟨row_inn (nn_cons (.int _ _) (nn_cons (zsl_no _) nn_none)), trivial⟩)
      | (refine .done (by simp) ?_
         conv => whnf
         have hcn : c ≠ 0 := by
           rw [hc]
           repeat' split
           all_goals omega
         refine .intro (.int .i64 _) (.inl rfl) rfl (frz_int ?_)
         rw [hr, hstop hcn, hc]
         repeat' split
         all_goals omega)
  · obtain rfl : i = zs.length := by omega
    conv => whnf
    refine .done (by simp) ?_
    conv => whnf
    exact .intro (.int .i64 0) (.inl rfl) rfl (frz_int (by rw [hr, h0]))

end Go.Proofs.Ytpbadgghhiommaa.I
