/- Nets: are they valid? The reference's answer. -/
import Derived.Test.YtlfaglkkeahamaaGreatNchk2
import Derived.Test.YtlfaglkkeahamaaGreatKrat
set_option linter.unusedVariables false
set_option maxHeartbeats 16000000
set_option linter.unusedSimpArgs false
namespace Go.Proofs.YtlfaglkkeahamaaGreat.I
open Go.Ideal

theorem r9out_ok (n a b : Int) (H : Heap) : Ev T (.call (.func (.func 82) [] []) [.int .i64 n, .int .i64 a, .int .i64 b] H) (.call (.bool (decide (Out3 n a b))) H) := by
  refine run_pure T82 (nn_bool _) (nn_cons (nn_int _ _) (nn_cons (nn_int _ _) (nn_cons (nn_int _ _) nn_none))) ?_ H
  repeat' ((conv => whnf); refine condP.dec (fun h => ?_) (fun h => ?_))
  all_goals conv => whnf
  all_goals first
    | exact .intro (.bool true) (.inl rfl) rfl (frz_bool (decide_eq_true (by unfold Out3; omega)).symm)
    | exact .intro (.bool false) (.inl rfl) rfl (frz_bool (decide_eq_false (by unfold Out3; omega)).symm)
theorem r9rng_ok (r : Rg) (a b : Int) (H : Heap) : Ev T (.call (.func (.func 104) [] []) [r.I, .int .i64 a, .int .i64 b] H) (.call (.int .i64 (rgE r a b)) H) := by
  refine run_pure T104 (nn_int _ _) (nn_cons r.I_no (nn_cons (nn_int _ _) (nn_cons (nn_int _ _) nn_none))) ?_ H
  have hx : ∃ e, e = rgE r a b := ⟨_, rfl⟩
  obtain ⟨e, he⟩ := hx
  rw [← he]
  unfold rgE at he
  repeat' ((conv => whnf); first | (refine CallP.dec (r9out_ok _ _ _) (fun h => ?_) (fun h => ?_)) | (first | refine condP.dec (fun h => ?_) (fun h => ?_) | refine condP.eq (fun h => ?_) (fun h => ?_) | refine condP.ne (fun h => ?_) (fun h => ?_)) | (refine .i64 (by omega) (by omega) ?_) | (refine onSome.intro (idx_fs rfl rfl (by omega) (by omega) (fun _ => rfl)) ?_) | (refine onSome.intro (load_fs rfl (by omega) (by omega) rfl) ?_) | (refine And.intro rfl ?_))
  all_goals conv => whnf
  all_goals exact .intro (.int .i64 _) (.inl rfl) rfl (frz_int (by
    rw [he]
    unfold Out3 at *
    repeat' split
    all_goals omega))
theorem r9stage_ok (n : Net) (h0 : -1000 ≤ n.ins) (h1 : n.ins ≤ 1000) (h2 : n.stages.length ≤ 1000) (h3 : n.tubes.length ≤ 1000) (s : Stg) (hl : s.taps.length ≤ 9223372036854775807) (H : Heap) :
    Ev T (.call (.func (.func 113) [] []) [n.I, s.I] H) (.call (.int .i64 (stE n.tubes.length (n.ins + n.stages.length) s)) H) := by
  refine run_pure T113 (nn_int _ _) (nn_cons n.I_no (nn_cons s.I_no nn_none)) ?_ H
  have e1 : (s.taps.map Tap.R).length = s.taps.length := List.length_map ..
  have e2 : (n.stages.map Stg.R).length = n.stages.length := List.length_map ..
  have e3 : (n.tubes.map Fam.R).length = n.tubes.length := List.length_map ..
  have k1 := r9rng_ok s.su 0 1000000
  have k2 := r9rng_ok s.ld 1 1000000
  have k3 := r9rng_ok s.bi (-1000000) 1000000
  have hx : ∃ r, r = stE n.tubes.length (n.ins + n.stages.length) s := ⟨_, rfl⟩
  obtain ⟨r, hr⟩ := hx
  rw [← hr]
  have hm : ∃ m, m = n.ins + (n.stages.length : Int) := ⟨_, rfl⟩
  obtain ⟨m, hm⟩ := hm
  unfold stE at hr
  generalize rgE s.su 0 1000000 = x1 at *
  generalize rgE s.ld 1 1000000 = x2 at *
  generalize rgE s.bi (-1000000) 1000000 = x3 at *
  rw [← hm] at hr
  have hy : ∃ z, z = tapsE m s.taps := ⟨_, rfl⟩
  obtain ⟨z, hz⟩ := hy
  rw [← hz] at hr
  unfold tapsE at hz
  repeat' ((conv => whnf); first | (refine CallP.dec (r9out_ok _ _ _) (fun h => ?_) (fun h => ?_)) | (refine CallP.pure k1 ?_) | (refine CallP.pure k2 ?_) | (refine CallP.pure k3 ?_) | (first | refine condP.dec (fun h => ?_) (fun h => ?_) | refine condP.eq (fun h => ?_) (fun h => ?_) | refine condP.ne (fun h => ?_) (fun h => ?_)) | (refine .i64 (by omega) (by omega) ?_) | (refine onSome.intro (idx_fs rfl rfl (by omega) (by omega) (fun _ => rfl)) ?_) | (refine onSome.intro (load_fs rfl (by omega) (by omega) rfl) ?_) | (refine And.intro rfl ?_))
  all_goals unfold Out3 at *
  all_goals first | (exfalso; omega) | skip
  all_goals conv => whnf
  all_goals first
    | exact .intro (.int .i64 _) (.inl rfl) rfl (frz_int (by
        rw [hr]
        repeat' split
        all_goals first | rfl | omega))
    | skip
  have hr : r = z := by
    rw [hr]
    repeat' split
    all_goals first | rfl | omega
  rw [if_neg (by omega)] at hz
  refine loop_rule (X := Nat) (fun i => [(2, .ptr 0 0 0), (3, .ptr 1 0 0), (8, .int .i64 i)]) (fun _ => [.live 3 [n.R], .live 8 [s.R]]) (fun i => s.taps.length - i) (fun i => i ≤ s.taps.length ∧ firstErr (tapE m s.taps) i = 0) 0
    ⟨Nat.zero_le _, rfl⟩ ⟨rfl, rfl, rfl, trivial⟩ rfl (fun _ _ => rfl) (fun i hi => ?_)
  obtain ⟨hi, h0⟩ := hi
  have hl : ∃ l, l = s.taps := ⟨_, rfl⟩
  rcases Nat.lt_or_ge i s.taps.length with hlt | hge
  · have hnext : tapE m s.taps i = 0 → firstErr (tapE m s.taps) (i + 1) = 0 := fun h => firstErr_succ h0 h
    have hstop : tapE m s.taps i ≠ 0 → firstErr (tapE m s.taps) s.taps.length = tapE m s.taps i := fun h => firstErr_stop h0 h (by omega)
    have hge : ∃ g, g = tapE m s.taps i := ⟨_, rfl⟩
    obtain ⟨g, hg⟩ := hge
    rw [← hg] at hnext hstop
    unfold tapE at hg
    generalize hv : at' s.taps (i : Int) = v at *
    generalize hw : at' s.taps ((i : Int) - 1) = w at *
    obtain ⟨v0, v1, v2⟩ := v
    obtain ⟨w0, w1, w2⟩ := w
    dsimp only at hg
    repeat' ((conv => whnf); first | (refine condP.dec (fun _ => ?_) (fun h => absurd (by omega) h)) | (refine onSome.intro (load_fs (l := s.taps) (enc := Tap.R) (i := (i : Int)) (v := .agg [.int .i64 v0, .int .i64 v1, .int .i64 v2]) rfl (by omega) (by omega) (by rw [hv]; rfl)) ?_) | (refine onSome.intro (load_fs (l := s.taps) (enc := Tap.R) (i := (i : Int) - 1) (v := .int .i64 w0) rfl (by omega) (by omega) (by rw [hw]; rfl)) ?_) | (refine And.intro (load_fs (l := s.taps) (enc := Tap.R) (i := (i : Int) - 1) (v := .int .i64 w0) rfl (by omega) (by omega) (by rw [hw]; rfl)) ?_) | (refine CallP.dec (r9out_ok _ _ _) (fun h => ?_) (fun h => ?_)) | (first | refine condP.dec (fun h => ?_) (fun h => ?_) | refine condP.eq (fun h => ?_) (fun h => ?_) | refine condP.ne (fun h => ?_) (fun h => ?_)) | (refine .i64 (by omega) (by omega) ?_) | (refine onSome.intro (idx_fs rfl rfl (by omega) (by omega) (fun _ => rfl)) ?_) | (refine onSome.intro (load_fs rfl (by omega) (by omega) rfl) ?_) | (refine And.intro rfl ?_))
    all_goals unfold Out3 at *
    all_goals first | (exfalso; omega) | skip
    all_goals conv => whnf
    all_goals first
      | (have hg0 : g = 0 := by
           rw [hg]
           repeat' split
           all_goals omega
         exact .more (i + 1) rfl ⟨by omega, hnext hg0⟩ (by omega) ⟨rfl, rfl, rfl, trivial⟩ rfl ⟨.ptr _ _ _ (by simp), .ptr _ _ _ (by simp), .int _ _, trivial⟩ ⟨row_inn (Net.R_no _), row_inn (Stg.R_no _), trivial⟩)
      | (refine .done (by simp) ?_
         conv => whnf
         have hgn : g ≠ 0 := by
           rw [hg]
           repeat' split
           all_goals omega
         refine .intro (.int .i64 _) (.inl rfl) rfl (frz_int ?_)
         rw [hr, hz, hstop hgn, hg]
         repeat' split
         all_goals omega)
  · obtain rfl : i = s.taps.length := by omega
    repeat' ((conv => whnf); first | (refine condP.dec (fun h => absurd h (by omega)) (fun _ => ?_)) | (first | refine condP.dec (fun h => ?_) (fun h => ?_) | refine condP.eq (fun h => ?_) (fun h => ?_) | refine condP.ne (fun h => ?_) (fun h => ?_)) | (refine .i64 (by omega) (by omega) ?_) | (refine onSome.intro (idx_fs rfl rfl (by omega) (by omega) (fun _ => rfl)) ?_) | (refine onSome.intro (load_fs rfl (by omega) (by omega) rfl) ?_) | (refine And.intro rfl ?_))
    all_goals refine .done (by simp) ?_
    all_goals conv => whnf
    all_goals exact .intro (.int .i64 0) (.inl rfl) rfl (frz_int (by rw [hr, hz, h0]))

theorem r9check_ok (n : Net) (hn : n.Sz) (H : Heap) : Ev T (.call (.func (.func 53) [] []) [n.I] H) (.call (.int .i64 (netE n)) H) := by
  refine run_pure T53 (nn_int _ _) (nn_cons n.I_no nn_none) ?_ H
  have e1 : (n.tubes.map Fam.R).length = n.tubes.length := List.length_map ..
  have e2 : (n.stages.map Stg.R).length = n.stages.length := List.length_map ..
  have ht := hn.t
  have hs := hn.s
  have hx : ∃ r, r = netE n := ⟨_, rfl⟩
  obtain ⟨r, hr⟩ := hx
  rw [← hr]
  unfold netE at hr
  repeat' ((conv => whnf); first | (refine condP.eq (fun h => ?_) (fun h => ?_)) | (refine condP.dec (fun h => ?_) (fun h => ?_)) | (first | refine condP.dec (fun h => ?_) (fun h => ?_) | refine condP.eq (fun h => ?_) (fun h => ?_) | refine condP.ne (fun h => ?_) (fun h => ?_)) | (refine .i64 (by omega) (by omega) ?_) | (refine onSome.intro (idx_fs rfl rfl (by omega) (by omega) (fun _ => rfl)) ?_) | (refine onSome.intro (load_fs rfl (by omega) (by omega) rfl) ?_) | (refine And.intro rfl ?_))
  all_goals first | (exfalso; omega) | skip
  all_goals conv => whnf
  all_goals first
    | exact .intro (.int .i64 6) (.inl rfl) rfl (frz_int (by rw [hr, if_pos (by omega)]))
    | exact .intro (.int .i64 8) (.inl rfl) rfl (frz_int (by rw [hr, if_neg (by omega), if_pos (by omega)]))
    | skip
  rw [if_neg (by omega), if_neg (by omega)] at hr
  refine loop_rule (X := Nat) (fun i => [(1, .ptr 0 0 0), (3, .int .i64 i)]) (fun _ => [.live 3 [n.R]]) (fun i => n.tubes.length - i) (fun i => i ≤ n.tubes.length ∧ firstErr (tubesE n.tubes) i = 0) 0
    ⟨Nat.zero_le _, rfl⟩ ⟨rfl, rfl, trivial⟩ rfl (fun _ _ => rfl) (fun i hi => ?_)
  obtain ⟨hi, h0⟩ := hi
  rcases Nat.lt_or_ge i n.tubes.length with hlt | hge
  · have hnext : tubesE n.tubes i = 0 → firstErr (tubesE n.tubes) (i + 1) = 0 := fun h => firstErr_succ h0 h
    have hstop : tubesE n.tubes i ≠ 0 → firstErr (tubesE n.tubes) n.tubes.length = tubesE n.tubes i := fun h => firstErr_stop h0 h (by omega)
    obtain ⟨z1, z2, z3, z4⟩ := hn.f i hlt
    have kC := rCheck_ok (at' n.tubes (i : Int)).g (at' n.tubes (i : Int)).p (at' n.tubes (i : Int)).lo (at' n.tubes (i : Int)).hi z1 z2 z3 z4
    have hce : ∃ c, c = tubesE n.tubes i := ⟨_, rfl⟩
    obtain ⟨c, hc⟩ := hce
    rw [← hc] at hnext hstop
    unfold tubesE Fam.err at hc
    rw [← hc] at kC
    generalize hf : at' n.tubes (i : Int) = f at *
    repeat' ((conv => whnf); first | (refine condP.dec (fun _ => ?_) (fun h => absurd (by omega) h)) | (refine onSome.intro (load_fs (l := n.tubes) (enc := Fam.R) (i := (i : Int)) (v := f.I) rfl (by omega) (by omega) (by rw [hf]; rfl)) ?_) | (refine CallP.pure kC ?_) | (first | refine condP.dec (fun h => ?_) (fun h => ?_) | refine condP.eq (fun h => ?_) (fun h => ?_) | refine condP.ne (fun h => ?_) (fun h => ?_)) | (refine .i64 (by omega) (by omega) ?_) | (refine onSome.intro (idx_fs rfl rfl (by omega) (by omega) (fun _ => rfl)) ?_) | (refine onSome.intro (load_fs rfl (by omega) (by omega) rfl) ?_) | (refine And.intro rfl ?_))
    all_goals conv => whnf
    all_goals first
      | (refine .done (by simp) ?_
         conv => whnf
         exact .intro (.int .i64 _) (.inl rfl) rfl (frz_int (by rw [hr, if_pos (by rw [hstop (by assumption)]; assumption), hstop (by assumption)])))
      | exact .more (i + 1) rfl ⟨by omega, hnext (by omega)⟩ (by omega) ⟨rfl, rfl, trivial⟩ rfl ⟨.ptr _ _ _ (by simp), .int _ _, trivial⟩ ⟨row_inn (Net.R_no _), trivial⟩
  obtain rfl : i = n.tubes.length := by omega
  rw [if_neg (by simpa using h0)] at hr
  repeat' ((conv => whnf); first | (refine condP.dec (fun h => absurd h (by omega)) (fun _ => ?_)) | (first | refine condP.dec (fun h => ?_) (fun h => ?_) | refine condP.eq (fun h => ?_) (fun h => ?_) | refine condP.ne (fun h => ?_) (fun h => ?_)) | (refine .i64 (by omega) (by omega) ?_) | (refine onSome.intro (idx_fs rfl rfl (by omega) (by omega) (fun _ => rfl)) ?_) | (refine onSome.intro (load_fs rfl (by omega) (by omega) rfl) ?_) | (refine And.intro rfl ?_))
  all_goals refine .done (by simp) ?_
  repeat' ((conv => whnf); first | (refine condP.eq (fun h => ?_) (fun h => ?_)) | (refine CallP.dec (r9out_ok _ _ _) (fun h => ?_) (fun h => ?_)) | (first | refine condP.dec (fun h => ?_) (fun h => ?_) | refine condP.eq (fun h => ?_) (fun h => ?_) | refine condP.ne (fun h => ?_) (fun h => ?_)) | (refine .i64 (by omega) (by omega) ?_) | (refine onSome.intro (idx_fs rfl rfl (by omega) (by omega) (fun _ => rfl)) ?_) | (refine onSome.intro (load_fs rfl (by omega) (by omega) rfl) ?_) | (refine And.intro rfl ?_))
  all_goals first | (exfalso; omega) | skip
  all_goals conv => whnf
  all_goals first
    | exact .intro (.int .i64 2) (.inl rfl) rfl (frz_int (by rw [hr, if_pos (by assumption)]))
    | exact .intro (.int .i64 6) (.inl rfl) rfl (frz_int (by rw [hr, if_neg (by assumption), if_pos (by omega)]))
    | exact .intro (.int .i64 8) (.inl rfl) rfl (frz_int (by rw [hr, if_neg (by assumption), if_neg (by omega), if_pos (by omega)]))
    | skip
  have hin : ¬ Out3 n.ins 0 4 := by assumption
  rw [if_neg hin, if_neg (by omega), if_neg (by omega)] at hr
  refine loop_rule (X := Nat) (fun i => [(1, .ptr 0 0 0), (5, .int .i64 i)]) (fun _ => [.live 3 [n.R]]) (fun i => n.stages.length - i) (fun i => i ≤ n.stages.length ∧ firstErr (stagesE n) i = 0) 0
    ⟨Nat.zero_le _, rfl⟩ ⟨rfl, rfl, trivial⟩ rfl (fun _ _ => rfl) (fun i hi => ?_)
  obtain ⟨hi, h0⟩ := hi
  rcases Nat.lt_or_ge i n.stages.length with hlt | hge
  · have hnext : stagesE n i = 0 → firstErr (stagesE n) (i + 1) = 0 := fun h => firstErr_succ h0 h
    have hstop : stagesE n i ≠ 0 → firstErr (stagesE n) n.stages.length = stagesE n i := fun h => firstErr_stop h0 h (by omega)
    have z1 := hn.p i hlt
    have hin2 : ¬ (n.ins < 0 ∨ 4 < n.ins) := hin
    have kS := r9stage_ok n (by omega) (by omega) (by omega) (by omega) (at' n.stages (i : Int)) (by omega)
    have hce : ∃ c, c = stagesE n i := ⟨_, rfl⟩
    obtain ⟨c, hc⟩ := hce
    rw [← hc] at hnext hstop
    unfold stagesE at hc
    rw [← hc] at kS
    generalize hf : at' n.stages (i : Int) = s at *
    repeat' ((conv => whnf); first | (refine condP.dec (fun _ => ?_) (fun h => absurd (by omega) h)) | (refine onSome.intro (load_fs (l := n.stages) (enc := Stg.R) (i := (i : Int)) (v := s.I) rfl (by omega) (by omega) (by rw [hf]; rfl)) ?_) | (refine And.intro (load_fs (l := n.stages) (enc := Stg.R) (i := (i : Int)) (v := s.I) rfl (by omega) (by omega) (by rw [hf]; rfl)) ?_) | (refine And.intro (idx_fs rfl rfl (by omega) (by omega) (fun _ => rfl)) ?_) | (refine CallP.pure kS ?_) | (first | refine condP.dec (fun h => ?_) (fun h => ?_) | refine condP.eq (fun h => ?_) (fun h => ?_) | refine condP.ne (fun h => ?_) (fun h => ?_)) | (refine .i64 (by omega) (by omega) ?_) | (refine onSome.intro (idx_fs rfl rfl (by omega) (by omega) (fun _ => rfl)) ?_) | (refine onSome.intro (load_fs rfl (by omega) (by omega) rfl) ?_) | (refine And.intro rfl ?_))
    all_goals conv => whnf
    all_goals first
      | (refine .done (by simp) ?_
         conv => whnf
         exact .intro (.int .i64 _) (.inl rfl) rfl (frz_int (by rw [hr, hstop (by assumption)])))
      | exact .more (i + 1) rfl ⟨by omega, hnext (by omega)⟩ (by omega) ⟨rfl, rfl, trivial⟩ rfl ⟨.ptr _ _ _ (by simp), .int _ _, trivial⟩ ⟨row_inn (Net.R_no _), trivial⟩
  · obtain rfl : i = n.stages.length := by omega
    repeat' ((conv => whnf); first | (refine condP.dec (fun h => absurd h (by omega)) (fun _ => ?_)) | (first | refine condP.dec (fun h => ?_) (fun h => ?_) | refine condP.eq (fun h => ?_) (fun h => ?_) | refine condP.ne (fun h => ?_) (fun h => ?_)) | (refine .i64 (by omega) (by omega) ?_) | (refine onSome.intro (idx_fs rfl rfl (by omega) (by omega) (fun _ => rfl)) ?_) | (refine onSome.intro (load_fs rfl (by omega) (by omega) rfl) ?_) | (refine And.intro rfl ?_))
    all_goals refine .done (by simp) ?_
    all_goals conv => whnf
    all_goals exact .intro (.int .i64 0) (.inl rfl) rfl (frz_int (by rw [hr, h0]))

theorem r9volts_ok (l : List Rg) (many low high : Int) (hl : l.length ≤ 9223372036854775807) (H : Heap) : Ev T (.call (.func (.func 102) [] []) [rgsI l, .int .i64 many, .int .i64 low, .int .i64 high] H) (.call (.int .i64 (rgsE l many low high)) H) := by
  refine run_pure T102 (nn_int _ _) (nn_cons (rgsI_no _) (nn_cons (nn_int _ _) (nn_cons (nn_int _ _) (nn_cons (nn_int _ _) nn_none)))) ?_ H
  have e1 : (l.map Rg.R).length = l.length := List.length_map ..
  have hx : ∃ r, r = rgsE l many low high := ⟨_, rfl⟩
  obtain ⟨r, hr⟩ := hx
  rw [← hr]
  unfold rgsE at hr
  repeat' ((conv => whnf); first | (first | refine condP.dec (fun h => ?_) (fun h => ?_) | refine condP.eq (fun h => ?_) (fun h => ?_) | refine condP.ne (fun h => ?_) (fun h => ?_)) | (refine .i64 (by omega) (by omega) ?_) | (refine onSome.intro (idx_fs rfl rfl (by omega) (by omega) (fun _ => rfl)) ?_) | (refine onSome.intro (load_fs rfl (by omega) (by omega) rfl) ?_) | (refine And.intro rfl ?_))
  all_goals conv => whnf
  all_goals first
    | exact .intro (.int .i64 3) (.inl rfl) rfl (frz_int (by rw [hr, if_pos (by omega)]))
    | skip
  rw [if_neg (by omega)] at hr
  refine loop_rule (X := Nat) (fun i => [(0, rgsI l), (2, .int .i64 low), (3, .int .i64 high), (9, .int .i64 i)]) (fun _ => []) (fun i => l.length - i) (fun i => i ≤ l.length ∧ firstErr (fun i => rgE (at' l (i : Int)) low high) i = 0) 0
    ⟨Nat.zero_le _, rfl⟩ ⟨rfl, rfl, rfl, rfl, trivial⟩ rfl (fun _ _ => rfl) (fun i hi => ?_)
  obtain ⟨hi, h0⟩ := hi
  rcases Nat.lt_or_ge i l.length with hlt | hge
  · have hnext : rgE (at' l (i : Int)) low high = 0 → firstErr (fun i => rgE (at' l (i : Int)) low high) (i + 1) = 0 := fun h => firstErr_succ h0 h
    have hstop : rgE (at' l (i : Int)) low high ≠ 0 → firstErr (fun i => rgE (at' l (i : Int)) low high) l.length = rgE (at' l (i : Int)) low high := fun h => firstErr_stop (e := fun i => rgE (at' l (i : Int)) low high) h0 h (by omega)
    have k1 := r9rng_ok (at' l (i : Int)) low high
    generalize rgE (at' l (i : Int)) low high = c at *
    generalize hf : at' l (i : Int) = s at *
    repeat' ((conv => whnf); first | (refine condP.dec (fun _ => ?_) (fun h => absurd (by omega) h)) | (refine onSome.intro (load_fs (l := l) (enc := Rg.R) (i := (i : Int)) (v := s.I) rfl (by omega) (by omega) (by rw [hf]; rfl)) ?_) | (refine CallP.pure k1 ?_) | (first | refine condP.dec (fun h => ?_) (fun h => ?_) | refine condP.eq (fun h => ?_) (fun h => ?_) | refine condP.ne (fun h => ?_) (fun h => ?_)) | (refine .i64 (by omega) (by omega) ?_) | (refine onSome.intro (idx_fs rfl rfl (by omega) (by omega) (fun _ => rfl)) ?_) | (refine onSome.intro (load_fs rfl (by omega) (by omega) rfl) ?_) | (refine And.intro rfl ?_))
    all_goals conv => whnf
    all_goals first
      | (refine .done (by simp) ?_
         conv => whnf
         exact .intro (.int .i64 _) (.inl rfl) rfl (frz_int (by rw [hr, hstop (by assumption)])))
      | exact .more (i + 1) rfl ⟨by omega, hnext (by omega)⟩ (by omega) ⟨rfl, rfl, rfl, rfl, trivial⟩ rfl ⟨(rgsI_no _).inn _, .int _ _, .int _ _, .int _ _, trivial⟩ trivial
  · obtain rfl : i = l.length := by omega
    repeat' ((conv => whnf); first | (refine condP.dec (fun h => absurd h (by omega)) (fun _ => ?_)) | (first | refine condP.dec (fun h => ?_) (fun h => ?_) | refine condP.eq (fun h => ?_) (fun h => ?_) | refine condP.ne (fun h => ?_) (fun h => ?_)) | (refine .i64 (by omega) (by omega) ?_) | (refine onSome.intro (idx_fs rfl rfl (by omega) (by omega) (fun _ => rfl)) ?_) | (refine onSome.intro (load_fs rfl (by omega) (by omega) rfl) ?_) | (refine And.intro rfl ?_))
    all_goals refine .done (by simp) ?_
    all_goals conv => whnf
    all_goals exact .intro (.int .i64 0) (.inl rfl) rfl (frz_int (by rw [hr, h0]))

end Go.Proofs.YtlfaglkkeahamaaGreat.I
