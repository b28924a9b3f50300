/- Nets: are they valid? All of it. -/
import Derived.Test.YtlfaglkkeahamaaGreatNchk
set_option linter.unusedVariables false
set_option maxHeartbeats 16000000
set_option linter.unusedSimpArgs false
namespace Go.Proofs.YtlfaglkkeahamaaGreat.I
open Go.Ideal

/-- Lists that are not too long to be looked at. -/
structure Net.Sz (n : Net) : Prop where
  t : n.tubes.length ≤ 9000000000000000000
  f : ∀ i : Nat, i < n.tubes.length → (at' n.tubes (i : Int)).g.length ≤ 9000000000000000000 ∧ (at' n.tubes (i : Int)).p.length ≤ 9000000000000000000 ∧ (at' n.tubes (i : Int)).lo.length ≤ 9000000000000000000 ∧ (at' n.tubes (i : Int)).hi.length ≤ 9000000000000000000
  s : n.stages.length ≤ 9000000000000000000
  p : ∀ i : Nat, i < n.stages.length → (at' n.stages (i : Int)).taps.length ≤ 9000000000000000000
theorem Net.Ok.sz {n : Net} (h : n.Ok) : n.Sz := by
  refine ⟨by have := h.t1; omega, fun i hi => ?_, by have := h.s1; omega, fun i hi => by have := (h.st i hi).taps.len; omega⟩
  have := h.fam i hi
  have a := this.g1
  have b := this.p1
  have c := this.tl.len
  have d := this.th.len
  exact ⟨by omega, by omega, by omega, by omega⟩

theorem c9check_ok (n : Net) (hn : n.Sz) (H : Heap) : Ev T (.call (.func (.func 52) [] []) [n.I] H) (.call (.int .i64 (netE n)) H) := by
  refine run_pure T52 (nn_int _ _) (nn_cons n.I_no nn_none) ?_ H
  have e1 : (n.tubes.map Fam.R).length = n.tubes.length := List.length_map ..
  have e2 : (n.stages.map Stg.R).length = n.stages.length := List.length_map ..
  have ht := hn.t
  have hs := hn.s
  have hx : ∃ r, r = netE n := ⟨_, rfl⟩
  obtain ⟨r, hr⟩ := hx
  rw [← hr]
  unfold netE at hr
  repeat' ((conv => whnf); first | (refine condP.eq (fun h => ?_) (fun h => ?_)) | (refine condP.dec (fun h => ?_) (fun h => ?_)) | (first | refine condP.dec (fun h => ?_) (fun h => ?_) | refine condP.eq (fun h => ?_) (fun h => ?_) | refine condP.ne (fun h => ?_) (fun h => ?_)) | (refine .i64 (by omega) (by omega) ?_) | (refine onSome.intro (idx_fs rfl rfl (by omega) (by omega) (fun _ => rfl)) ?_) | (refine onSome.intro (load_fs rfl (by omega) (by omega) rfl) ?_) | (refine And.intro rfl ?_))
  all_goals first | (exfalso; omega) | skip
  all_goals conv => whnf
  all_goals first
    | exact .intro (.int .i64 6) (.inl rfl) rfl (frz_int (by rw [hr, if_pos (by omega)]))
    | exact .intro (.int .i64 8) (.inl rfl) rfl (frz_int (by rw [hr, if_neg (by omega), if_pos (by omega)]))
    | skip
  rw [if_neg (by omega), if_neg (by omega)] at hr
  refine loop_rule (X := Nat) (fun i => [(1, .ptr 0 0 0), (20, famsI n.tubes), (21, .int .i64 n.tubes.length), (22, .int .i64 i)]) (fun _ => [.live 3 [n.R]]) (fun i => n.tubes.length - i) (fun i => i ≤ n.tubes.length ∧ firstErr (tubesE n.tubes) i = 0) 0
    ⟨Nat.zero_le _, rfl⟩ ⟨rfl, rfl, by show i6 _ = i6 _; rw [e1], rfl, trivial⟩ rfl (fun _ _ => rfl) (fun i hi => ?_)
  obtain ⟨hi, h0⟩ := hi
  rcases Nat.lt_or_ge i n.tubes.length with hlt | hge
  · have hnext : tubesE n.tubes i = 0 → firstErr (tubesE n.tubes) (i + 1) = 0 := fun h => firstErr_succ h0 h
    have hstop : tubesE n.tubes i ≠ 0 → firstErr (tubesE n.tubes) n.tubes.length = tubesE n.tubes i := fun h => firstErr_stop h0 h (by omega)
    obtain ⟨z1, z2, z3, z4⟩ := hn.f i hlt
    have kC := Check_ok (at' n.tubes (i : Int)).g (at' n.tubes (i : Int)).p (at' n.tubes (i : Int)).lo (at' n.tubes (i : Int)).hi z1 z2 z3 z4
    have hce : ∃ c, c = tubesE n.tubes i := ⟨_, rfl⟩
    obtain ⟨c, hc⟩ := hce
    rw [← hc] at hnext hstop
    unfold tubesE Fam.err at hc
    rw [← hc] at kC
    generalize hf : at' n.tubes (i : Int) = f at *
    repeat' ((conv => whnf); first | (refine condP.dec (fun _ => ?_) (fun h => absurd (by omega) h)) | (refine onSome.intro (load_fs (l := n.tubes) (enc := Fam.R) (i := (i : Int)) (v := f.I) rfl (by omega) (by omega) (by rw [hf]; rfl)) ?_) | (refine CallP.pure kC ?_) | (first | refine condP.dec (fun h => ?_) (fun h => ?_) | refine condP.eq (fun h => ?_) (fun h => ?_) | refine condP.ne (fun h => ?_) (fun h => ?_)) | (refine .i64 (by omega) (by omega) ?_) | (refine onSome.intro (idx_fs rfl rfl (by omega) (by omega) (fun _ => rfl)) ?_) | (refine onSome.intro (load_fs rfl (by omega) (by omega) rfl) ?_) | (refine And.intro rfl ?_))
    all_goals conv => whnf
    all_goals first
      | (refine .done (by simp) ?_
         conv => whnf
         exact .intro (.int .i64 _) (.inl rfl) rfl (frz_int (by rw [hr, if_pos (by rw [hstop (by assumption)]; assumption), hstop (by assumption)])))
      | exact .more (i + 1) rfl ⟨by omega, hnext (by omega)⟩ (by omega) ⟨rfl, rfl, rfl, rfl, trivial⟩ rfl ⟨.ptr _ _ _ (by simp), (famsI_no _).inn _, .int _ _, .int _ _, trivial⟩ ⟨row_inn (Net.R_no _), trivial⟩
  obtain rfl : i = n.tubes.length := by omega
  rw [if_neg (by simpa using h0)] at hr
  repeat' ((conv => whnf); first | (refine condP.dec (fun h => absurd h (by omega)) (fun _ => ?_)) | (first | refine condP.dec (fun h => ?_) (fun h => ?_) | refine condP.eq (fun h => ?_) (fun h => ?_) | refine condP.ne (fun h => ?_) (fun h => ?_)) | (refine .i64 (by omega) (by omega) ?_) | (refine onSome.intro (idx_fs rfl rfl (by omega) (by omega) (fun _ => rfl)) ?_) | (refine onSome.intro (load_fs rfl (by omega) (by omega) rfl) ?_) | (refine And.intro rfl ?_))
  all_goals refine .done (by simp) ?_
  repeat' ((conv => whnf); first | (refine condP.eq (fun h => ?_) (fun h => ?_)) | (refine CallP.dec (c9out_ok _ _ _) (fun h => ?_) (fun h => ?_)) | (first | refine condP.dec (fun h => ?_) (fun h => ?_) | refine condP.eq (fun h => ?_) (fun h => ?_) | refine condP.ne (fun h => ?_) (fun h => ?_)) | (refine .i64 (by omega) (by omega) ?_) | (refine onSome.intro (idx_fs rfl rfl (by omega) (by omega) (fun _ => rfl)) ?_) | (refine onSome.intro (load_fs rfl (by omega) (by omega) rfl) ?_) | (refine And.intro rfl ?_))
  all_goals first | (exfalso; omega) | skip
  all_goals conv => whnf
  all_goals first
    | exact .intro (.int .i64 2) (.inl rfl) rfl (frz_int (by rw [hr, if_pos (by assumption)]))
    | exact .intro (.int .i64 6) (.inl rfl) rfl (frz_int (by rw [hr, if_neg (by assumption), if_pos (by omega)]))
    | exact .intro (.int .i64 8) (.inl rfl) rfl (frz_int (by rw [hr, if_neg (by assumption), if_neg (by omega), if_pos (by omega)]))
    | skip
  have hin : ¬ Out3 n.ins 0 4 := by assumption
  rw [if_neg hin, if_neg (by omega), if_neg (by omega)] at hr
  refine loop_rule (X := Nat) (fun i => [(1, .ptr 0 0 0), (47, stgsI n.stages), (48, .int .i64 n.stages.length), (49, .int .i64 i)]) (fun _ => [.live 3 [n.R]]) (fun i => n.stages.length - i) (fun i => i ≤ n.stages.length ∧ firstErr (stagesE n) i = 0) 0
    ⟨Nat.zero_le _, rfl⟩ ⟨rfl, rfl, by show i6 _ = i6 _; rw [e2], rfl, trivial⟩ rfl (fun _ _ => rfl) (fun i hi => ?_)
  obtain ⟨hi, h0⟩ := hi
  rcases Nat.lt_or_ge i n.stages.length with hlt | hge
  · have hnext : stagesE n i = 0 → firstErr (stagesE n) (i + 1) = 0 := fun h => firstErr_succ h0 h
    have hstop : stagesE n i ≠ 0 → firstErr (stagesE n) n.stages.length = stagesE n i := fun h => firstErr_stop h0 h (by omega)
    have z1 := hn.p i hlt
    have hce : ∃ c, c = stagesE n i := ⟨_, rfl⟩
    obtain ⟨c, hc⟩ := hce
    rw [← hc] at hnext hstop
    unfold stagesE stE at hc
    generalize hf : at' n.stages (i : Int) = s at *
    have k1 := c9rng_ok s.su 0 1000000
    have k2 := c9rng_ok s.ld 1 1000000
    have k3 := c9rng_ok s.bi (-1000000) 1000000
    have hin2 : ¬ (n.ins < 0 ∨ 4 < n.ins) := hin
    have k4 := c9taps_ok n (by omega) (by omega) (by omega) s.taps (by omega)
    generalize rgE s.su 0 1000000 = x1 at *
    generalize rgE s.ld 1 1000000 = x2 at *
    generalize rgE s.bi (-1000000) 1000000 = x3 at *
    generalize tapsE (n.ins + n.stages.length) s.taps = x4 at *
    repeat' ((conv => whnf); first | (refine condP.dec (fun _ => ?_) (fun h => absurd (by omega) h)) | (refine onSome.intro (load_fs (l := n.stages) (enc := Stg.R) (i := (i : Int)) (v := s.I) rfl (by omega) (by omega) (by rw [hf]; rfl)) ?_) | (refine CallP.dec (c9out_ok _ _ _) (fun h => ?_) (fun h => ?_)) | (refine CallP.inl T71 rfl ?_) | (refine CallP.inl T107 rfl ?_) | (refine CallP.inl T108 rfl ?_) | (refine CallP.inl T109 rfl ?_) | (refine CallP.inl T110 rfl ?_) | (refine CallP.pure k1 ?_) | (refine CallP.pure k2 ?_) | (refine CallP.pure k3 ?_) | (refine CallP.pure k4 ?_) | (refine loop_step ?_) | (first | refine condP.dec (fun h => ?_) (fun h => ?_) | refine condP.eq (fun h => ?_) (fun h => ?_) | refine condP.ne (fun h => ?_) (fun h => ?_)) | (refine .i64 (by omega) (by omega) ?_) | (refine onSome.intro (idx_fs rfl rfl (by omega) (by omega) (fun _ => rfl)) ?_) | (refine onSome.intro (load_fs rfl (by omega) (by omega) rfl) ?_) | (refine And.intro rfl ?_))
    all_goals unfold Out3 at *
    all_goals first | (exfalso; omega) | skip
    all_goals conv => whnf
    all_goals first
      | (refine .done (by simp) ?_
         conv => whnf
         have hcn : c ≠ 0 := by
           rw [hc]
           repeat' split
           all_goals first | assumption | omega
         refine .intro (.int .i64 _) (.inl rfl) rfl (frz_int ?_)
         rw [hr, hstop hcn, hc]
         repeat' split
         all_goals first | rfl | omega)
      | (have hc0 : c = 0 := by
           rw [hc]
           repeat' split
           all_goals first | omega | (exfalso; omega)
         exact .more (i + 1) rfl ⟨by omega, hnext hc0⟩ (by omega) ⟨rfl, rfl, rfl, rfl, trivial⟩ rfl ⟨.ptr _ _ _ (by simp), (stgsI_no _).inn _, .int _ _, .int _ _, trivial⟩ ⟨row_inn (Net.R_no _), trivial⟩)
  · obtain rfl : i = n.stages.length := by omega
    repeat' ((conv => whnf); first | (refine condP.dec (fun h => absurd h (by omega)) (fun _ => ?_)) | (first | refine condP.dec (fun h => ?_) (fun h => ?_) | refine condP.eq (fun h => ?_) (fun h => ?_) | refine condP.ne (fun h => ?_) (fun h => ?_)) | (refine .i64 (by omega) (by omega) ?_) | (refine onSome.intro (idx_fs rfl rfl (by omega) (by omega) (fun _ => rfl)) ?_) | (refine onSome.intro (load_fs rfl (by omega) (by omega) rfl) ?_) | (refine And.intro rfl ?_))
    all_goals refine .done (by simp) ?_
    all_goals conv => whnf
    all_goals exact .intro (.int .i64 0) (.inl rfl) rfl (frz_int (by rw [hr, h0]))

theorem c9volts_ok (l : List Rg) (many low : Int) (hl : l.length ≤ 9223372036854775807) (H : Heap) : Ev T (.call (.func (.func 85) [] []) [rgsI l, .int .i64 many, .int .i64 low] H) (.call (.int .i64 (rgsE l many low 1000000)) H) := by
  refine run_pure T85 (nn_int _ _) (nn_cons (rgsI_no _) (nn_cons (nn_int _ _) (nn_cons (nn_int _ _) nn_none))) ?_ H
  have e1 : (l.map Rg.R).length = l.length := List.length_map ..
  have hx : ∃ r, r = rgsE l many low 1000000 := ⟨_, rfl⟩
  obtain ⟨r, hr⟩ := hx
  rw [← hr]
  unfold rgsE at hr
  repeat' ((conv => whnf); first | (first | refine condP.dec (fun h => ?_) (fun h => ?_) | refine condP.eq (fun h => ?_) (fun h => ?_) | refine condP.ne (fun h => ?_) (fun h => ?_)) | (refine .i64 (by omega) (by omega) ?_) | (refine onSome.intro (idx_fs rfl rfl (by omega) (by omega) (fun _ => rfl)) ?_) | (refine onSome.intro (load_fs rfl (by omega) (by omega) rfl) ?_) | (refine And.intro rfl ?_))
  all_goals conv => whnf
  all_goals first
    | exact .intro (.int .i64 3) (.inl rfl) rfl (frz_int (by rw [hr, if_pos (by omega)]))
    | skip
  rw [if_neg (by omega)] at hr
  refine loop_rule (X := Nat) (fun i => [(2, .int .i64 low), (14, rgsI l), (15, .int .i64 l.length), (16, .int .i64 i)]) (fun _ => []) (fun i => l.length - i) (fun i => i ≤ l.length ∧ firstErr (fun i => rgE (at' l (i : Int)) low 1000000) i = 0) 0
    ⟨Nat.zero_le _, rfl⟩ ⟨rfl, rfl, by show i6 _ = i6 _; rw [e1], rfl, trivial⟩ rfl (fun _ _ => rfl) (fun i hi => ?_)
  obtain ⟨hi, h0⟩ := hi
  rcases Nat.lt_or_ge i l.length with hlt | hge
  · have hnext : rgE (at' l (i : Int)) low 1000000 = 0 → firstErr (fun i => rgE (at' l (i : Int)) low 1000000) (i + 1) = 0 := fun h => firstErr_succ h0 h
    have hstop : rgE (at' l (i : Int)) low 1000000 ≠ 0 → firstErr (fun i => rgE (at' l (i : Int)) low 1000000) l.length = rgE (at' l (i : Int)) low 1000000 := fun h => firstErr_stop (e := fun i => rgE (at' l (i : Int)) low 1000000) h0 h (by omega)
    have k1 := c9rng_ok (at' l (i : Int)) low 1000000
    generalize rgE (at' l (i : Int)) low 1000000 = c at *
    generalize hf : at' l (i : Int) = s at *
    repeat' ((conv => whnf); first | (refine condP.dec (fun _ => ?_) (fun h => absurd (by omega) h)) | (refine onSome.intro (load_fs (l := l) (enc := Rg.R) (i := (i : Int)) (v := s.I) rfl (by omega) (by omega) (by rw [hf]; rfl)) ?_) | (refine CallP.pure k1 ?_) | (first | refine condP.dec (fun h => ?_) (fun h => ?_) | refine condP.eq (fun h => ?_) (fun h => ?_) | refine condP.ne (fun h => ?_) (fun h => ?_)) | (refine .i64 (by omega) (by omega) ?_) | (refine onSome.intro (idx_fs rfl rfl (by omega) (by omega) (fun _ => rfl)) ?_) | (refine onSome.intro (load_fs rfl (by omega) (by omega) rfl) ?_) | (refine And.intro rfl ?_))
    all_goals conv => whnf
    all_goals first
      | (refine .done (by simp) ?_
         conv => whnf
         exact .intro (.int .i64 _) (.inl rfl) rfl (frz_int (by rw [hr, hstop (by assumption)])))
      | exact .more (i + 1) rfl ⟨by omega, hnext (by omega)⟩ (by omega) ⟨rfl, rfl, rfl, rfl, trivial⟩ rfl ⟨.int _ _, (rgsI_no _).inn _, .int _ _, .int _ _, trivial⟩ trivial
  · obtain rfl : i = l.length := by omega
    repeat' ((conv => whnf); first | (refine condP.dec (fun h => absurd h (by omega)) (fun _ => ?_)) | (first | refine condP.dec (fun h => ?_) (fun h => ?_) | refine condP.eq (fun h => ?_) (fun h => ?_) | refine condP.ne (fun h => ?_) (fun h => ?_)) | (refine .i64 (by omega) (by omega) ?_) | (refine onSome.intro (idx_fs rfl rfl (by omega) (by omega) (fun _ => rfl)) ?_) | (refine onSome.intro (load_fs rfl (by omega) (by omega) rfl) ?_) | (refine And.intro rfl ?_))
    all_goals refine .done (by simp) ?_
    all_goals conv => whnf
    all_goals exact .intro (.int .i64 0) (.inl rfl) rfl (frz_int (by rw [hr, h0]))

end Go.Proofs.YtlfaglkkeahamaaGreat.I
