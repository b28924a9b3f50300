/- Nets: are they valid? The program's answer. -/
import Derived.Test.YtlfaglkkeahamaaGreatNin
set_option linter.unusedVariables false
set_option maxHeartbeats 16000000
set_option linter.unusedSimpArgs false
namespace Go.Proofs.YtlfaglkkeahamaaGreat.I
open Go.Ideal

theorem c9out_ok (n a b : Int) (H : Heap) : Ev T (.call (.func (.func 75) [] []) [.int .i64 n, .int .i64 a, .int .i64 b] H) (.call (.bool (decide (Out3 n a b))) H) := by
  refine run_pure T75 (nn_bool _) (nn_cons (nn_int _ _) (nn_cons (nn_int _ _) (nn_cons (nn_int _ _) nn_none))) ?_ H
  repeat' ((conv => whnf); refine condP.dec (fun h => ?_) (fun h => ?_))
  all_goals conv => whnf
  all_goals first
    | exact .intro (.bool true) (.inl rfl) rfl (frz_bool (decide_eq_true (by unfold Out3; omega)).symm)
    | exact .intro (.bool false) (.inl rfl) rfl (frz_bool (decide_eq_false (by unfold Out3; omega)).symm)
theorem c9rng_ok (r : Rg) (a b : Int) (H : Heap) : Ev T (.call (.func (.func 86) [] []) [r.I, .int .i64 a, .int .i64 b] H) (.call (.int .i64 (rgE r a b)) H) := by
  refine run_pure T86 (nn_int _ _) (nn_cons r.I_no (nn_cons (nn_int _ _) (nn_cons (nn_int _ _) nn_none))) ?_ H
  have hx : ∃ e, e = rgE r a b := ⟨_, rfl⟩
  obtain ⟨e, he⟩ := hx
  rw [← he]
  unfold rgE at he
  repeat' ((conv => whnf); first | (refine CallP.dec (c9out_ok _ _ _) (fun h => ?_) (fun h => ?_)) | (first | refine condP.dec (fun h => ?_) (fun h => ?_) | refine condP.eq (fun h => ?_) (fun h => ?_) | refine condP.ne (fun h => ?_) (fun h => ?_)) | (refine .i64 (by omega) (by omega) ?_) | (refine onSome.intro (idx_fs rfl rfl (by omega) (by omega) (fun _ => rfl)) ?_) | (refine onSome.intro (load_fs rfl (by omega) (by omega) rfl) ?_) | (refine And.intro rfl ?_))
  all_goals conv => whnf
  all_goals exact .intro (.int .i64 _) (.inl rfl) rfl (frz_int (by
    rw [he]
    unfold Out3 at *
    repeat' split
    all_goals omega))
theorem c9nodes_ok (n : Net) (h0 : -1000 ≤ n.ins) (h1 : n.ins ≤ 1000) (h2 : n.stages.length ≤ 1000) (H : Heap) : Ev T (.call (.func (.func 100) [] []) [n.I] H) (.call (.int .i64 (n.ins + n.stages.length)) H) := by
  refine run_pure T100 (nn_int _ _) (nn_cons n.I_no nn_none) ?_ H
  have e1 : (n.stages.map Stg.R).length = n.stages.length := List.length_map ..
  repeat' ((conv => whnf); first | (refine .i64 (by omega) (by omega) ?_) | (first | refine condP.dec (fun h => ?_) (fun h => ?_) | refine condP.eq (fun h => ?_) (fun h => ?_) | refine condP.ne (fun h => ?_) (fun h => ?_)) | (refine .i64 (by omega) (by omega) ?_) | (refine onSome.intro (idx_fs rfl rfl (by omega) (by omega) (fun _ => rfl)) ?_) | (refine onSome.intro (load_fs rfl (by omega) (by omega) rfl) ?_) | (refine And.intro rfl ?_))
  conv => whnf
  exact .intro (.int .i64 _) (.inl rfl) rfl (frz_int (by rw [e1]))
theorem c9taps_ok (n : Net) (h0 : -1000 ≤ n.ins) (h1 : n.ins ≤ 1000) (h2 : n.stages.length ≤ 1000) (l : List Tap) (hl : l.length ≤ 9223372036854775807) (H : Heap) :
    Ev T (.call (.func (.func 111) [] []) [n.I, tapsI l] H) (.call (.int .i64 (tapsE (n.ins + n.stages.length) l)) H) := by
  refine run_pure T111 (nn_int _ _) (nn_cons n.I_no (nn_cons (tapsI_no _) nn_none)) ?_ H
  have e1 : (l.map Tap.R).length = l.length := List.length_map ..
  have kn := c9nodes_ok n h0 h1 h2
  have hx : ∃ r, r = tapsE (n.ins + n.stages.length) l := ⟨_, rfl⟩
  obtain ⟨r, hr⟩ := hx
  rw [← hr]
  unfold tapsE at hr
  have hm : ∃ m, m = n.ins + (n.stages.length : Int) := ⟨_, rfl⟩
  obtain ⟨m, hm⟩ := hm
  rw [← hm] at hr kn
  repeat' ((conv => whnf); first | (first | refine condP.dec (fun h => ?_) (fun h => ?_) | refine condP.eq (fun h => ?_) (fun h => ?_) | refine condP.ne (fun h => ?_) (fun h => ?_)) | (refine .i64 (by omega) (by omega) ?_) | (refine onSome.intro (idx_fs rfl rfl (by omega) (by omega) (fun _ => rfl)) ?_) | (refine onSome.intro (load_fs rfl (by omega) (by omega) rfl) ?_) | (refine And.intro rfl ?_))
  all_goals first | (exfalso; omega) | skip
  all_goals conv => whnf
  all_goals first
    | exact .intro (.int .i64 8) (.inl rfl) rfl (frz_int (by rw [hr, if_pos (by omega)]))
    | skip
  rw [if_neg (by omega)] at hr
  refine loop_rule (X := Nat) (fun i => [(1, tapsI l), (2, .ptr 0 0 0), (10, tapsI l), (11, .int .i64 l.length), (12, .int .i64 i)]) (fun _ => [.live 3 [n.R]]) (fun i => l.length - i) (fun i => i ≤ l.length ∧ firstErr (tapE m l) i = 0) 0
    ⟨Nat.zero_le _, rfl⟩ ⟨rfl, rfl, rfl, by show i6 _ = i6 _; rw [e1], rfl, trivial⟩ rfl (fun _ _ => rfl) (fun i hi => ?_)
  obtain ⟨hi, h0⟩ := hi
  rcases Nat.lt_or_ge i l.length with hlt | hge
  · have hnext : tapE m l i = 0 → firstErr (tapE m l) (i + 1) = 0 := fun h => firstErr_succ h0 h
    have hstop : tapE m l i ≠ 0 → firstErr (tapE m l) l.length = tapE m l i := fun h => firstErr_stop h0 h (by omega)
    have hge : ∃ g, g = tapE m l i := ⟨_, rfl⟩
    obtain ⟨g, hg⟩ := hge
    rw [← hg] at hnext hstop
    unfold tapE at hg
    generalize hv : at' l (i : Int) = v at *
    generalize hw : at' l ((i : Int) - 1) = w at *
    obtain ⟨v0, v1, v2⟩ := v
    obtain ⟨w0, w1, w2⟩ := w
    dsimp only at hg
    repeat' ((conv => whnf); first | (refine condP.dec (fun _ => ?_) (fun h => absurd (by omega) h)) | (refine onSome.intro (load_fs (l := l) (enc := Tap.R) (i := (i : Int)) (v := .agg [.int .i64 v0, .int .i64 v1, .int .i64 v2]) rfl (by omega) (by omega) (by rw [hv]; rfl)) ?_) | (refine onSome.intro (load_fs (l := l) (enc := Tap.R) (i := (i : Int) - 1) (v := .int .i64 w0) rfl (by omega) (by omega) (by rw [hw]; rfl)) ?_) | (refine And.intro (load_fs (l := l) (enc := Tap.R) (i := (i : Int) - 1) (v := .int .i64 w0) rfl (by omega) (by omega) (by rw [hw]; rfl)) ?_) | (refine CallP.pure kn ?_) | (refine CallP.dec (c9out_ok _ _ _) (fun h => ?_) (fun h => ?_)) | (first | refine condP.dec (fun h => ?_) (fun h => ?_) | refine condP.eq (fun h => ?_) (fun h => ?_) | refine condP.ne (fun h => ?_) (fun h => ?_)) | (refine .i64 (by omega) (by omega) ?_) | (refine onSome.intro (idx_fs rfl rfl (by omega) (by omega) (fun _ => rfl)) ?_) | (refine onSome.intro (load_fs rfl (by omega) (by omega) rfl) ?_) | (refine And.intro rfl ?_))
    all_goals unfold Out3 at *
    all_goals first | (exfalso; omega) | skip
    all_goals conv => whnf
    all_goals first
      | (have hg0 : g = 0 := by
           rw [hg]
           repeat' split
           all_goals omega
         exact .more (i + 1) rfl ⟨by omega, hnext hg0⟩ (by omega) ⟨rfl, rfl, rfl, rfl, rfl, trivial⟩ rfl ⟨(tapsI_no _).inn _, .ptr _ _ _ (by simp), (tapsI_no _).inn _, .int _ _, .int _ _, trivial⟩ ⟨row_inn (Net.R_no _), trivial⟩)
      | (refine .done (by simp) ?_
         conv => whnf
         have hgn : g ≠ 0 := by
           rw [hg]
           repeat' split
           all_goals omega
         refine .intro (.int .i64 _) (.inl rfl) rfl (frz_int ?_)
         rw [hr, hstop hgn, hg]
         repeat' split
         all_goals omega)
  · obtain rfl : i = l.length := by omega
    repeat' ((conv => whnf); first | (refine condP.dec (fun h => absurd h (by omega)) (fun _ => ?_)) | (first | refine condP.dec (fun h => ?_) (fun h => ?_) | refine condP.eq (fun h => ?_) (fun h => ?_) | refine condP.ne (fun h => ?_) (fun h => ?_)) | (refine .i64 (by omega) (by omega) ?_) | (refine onSome.intro (idx_fs rfl rfl (by omega) (by omega) (fun _ => rfl)) ?_) | (refine onSome.intro (load_fs rfl (by omega) (by omega) rfl) ?_) | (refine And.intro rfl ?_))
    all_goals refine .done (by simp) ?_
    all_goals conv => whnf
    all_goals exact .intro (.int .i64 0) (.inl rfl) rfl (frz_int (by rw [hr, h0]))

end Go.Proofs.YtlfaglkkeahamaaGreat.I
