/- Nets made, and what is compared. -/
import Derived.Test.YtlfaglkkeahamaaGreatNpair
import Derived.Test.YtlfaglkkeahamaaGreatKmod
set_option linter.unusedVariables false
set_option maxHeartbeats 16000000
set_option linter.unusedSimpArgs false
namespace Go.Proofs.YtlfaglkkeahamaaGreat.I
open Go.Ideal

theorem made_any (S st inp : Int) (st0 : 1 ≤ st) (st1 : st ≤ 6) (in0 : 0 ≤ inp) (in1 : inp ≤ 4) : ∃ (n : Net) (s' : Int), n.Ok ∧
    ∀ (H : Heap) (b : Nat), H b = S1 S → Ev T (.call (.func (.func 26) [] []) [.ptr b 0 0, .int .i64 st, .int .i64 inp] H) (.call n.I (H.set b (S1 s'))) := by
  have key := run_one_some T26 (i := 0) (off := 0) (args := [.int .i64 st, .int .i64 inp]) (s := S1 S) (P := fun v z => ∃ (n : Net) (s' : Int), v = n.I ∧ z = S1 s' ∧ n.Ok)
    (nn_cons (nn_int _ _) (nn_cons (nn_int _ _) nn_none)) (S1_no _) (by
    have q := One_any S 5 (by omega)
    obtain ⟨w, s1, k1⟩ := q
    cases w
    · have q := NetOf_any s1 st inp false st0 st1 in0 in1
      obtain ⟨n, s2, hn, k2⟩ := q
      repeat' ((conv => whnf); first | (refine CallP.one (fun H hb => k1 H _ hb) rfl ?_) | (refine CallP.one (fun H hb => k2 H _ hb) rfl ?_) | (first | refine condP.dec (fun h => ?_) (fun h => ?_) | refine condP.eq (fun h => ?_) (fun h => ?_) | refine condP.ne (fun h => ?_) (fun h => ?_)) | (refine .i64 (by omega) (by omega) ?_) | (refine onSome.intro (idx_fs rfl rfl (by omega) (by omega) (fun _ => rfl)) ?_) | (refine onSome.intro (load_fs rfl (by omega) (by omega) rfl) ?_) | (refine And.intro rfl ?_))
      conv => whnf
      exact .intro n.I (S1 s2) ⟨n, s2, rfl, rfl, hn.ok⟩ (Net.I_no _) (S1_no _) (.one (.inl rfl) rfl rfl (.refl _) (Net.I_no _))
    · have q := Pair_any s1
      obtain ⟨n, s2, hn, k2⟩ := q
      repeat' ((conv => whnf); first | (refine CallP.one (fun H hb => k1 H _ hb) rfl ?_) | (refine CallP.one (fun H hb => k2 H _ hb) rfl ?_) | (first | refine condP.dec (fun h => ?_) (fun h => ?_) | refine condP.eq (fun h => ?_) (fun h => ?_) | refine condP.ne (fun h => ?_) (fun h => ?_)) | (refine .i64 (by omega) (by omega) ?_) | (refine onSome.intro (idx_fs rfl rfl (by omega) (by omega) (fun _ => rfl)) ?_) | (refine onSome.intro (load_fs rfl (by omega) (by omega) rfl) ?_) | (refine And.intro rfl ?_))
      conv => whnf
      exact .intro n.I (S1 s2) ⟨n, s2, rfl, rfl, hn⟩ (Net.I_no _) (S1_no _) (.one (.inl rfl) rfl rfl (.refl _) (Net.I_no _)))
  obtain ⟨v, z, ⟨n, s', rfl, rfl, h1⟩, _, _, k⟩ := key
  exact ⟨n, s', h1, fun H b hb => k H b hb⟩

theorem inside_ok {x y : List Rg} (hin : WIn x y) (hl : x.length ≤ 1000000) (H : Heap) : Ev T (.call (.func (.func 29) [] []) [rgsI x, rgsI y] H) (.call (.bool true) H) := by
  refine run_pure T29 (.bool _) (nn_cons (rgsI_no _) (nn_cons (rgsI_no _) nn_none)) ?_ H
  have e1 : (x.map Rg.R).length = x.length := List.length_map ..
  have e2 : (y.map Rg.R).length = y.length := List.length_map ..
  have e3 := hin.len
  repeat' ((conv => whnf); first | (first | refine condP.dec (fun h => ?_) (fun h => ?_) | refine condP.eq (fun h => ?_) (fun h => ?_) | refine condP.ne (fun h => ?_) (fun h => ?_)) | (refine .i64 (by omega) (by omega) ?_) | (refine onSome.intro (idx_fs rfl rfl (by omega) (by omega) (fun _ => rfl)) ?_) | (refine onSome.intro (load_fs rfl (by omega) (by omega) rfl) ?_) | (refine And.intro rfl ?_))
  all_goals first | (exfalso; omega) | skip
  conv => whnf
  refine loop_rule (X := Nat) (fun i => [(0, rgsI x), (1, rgsI y), (5, .int .i64 i)]) (fun _ => []) (fun i => x.length - i) (fun i => i ≤ x.length) 0 (Nat.zero_le _) ⟨rfl, rfl, rfl, trivial⟩ rfl (fun _ _ => rfl) (fun i hi => ?_)
  rcases Nat.lt_or_ge i x.length with hlt | hge
  · have kW := Within_ok (at' x (i : Int)).lo (at' x (i : Int)).hi (at' y (i : Int)).lo (at' y (i : Int)).hi
    have hr := hin.at_ i
    have r1 := hr.lo
    have r2 := hr.hi
    rw [decide_eq_true (by omega)] at kW
    generalize hf : at' x (i : Int) = s at *
    generalize hg : at' y (i : Int) = t at *
    repeat' ((conv => whnf); first | (refine condP.dec (fun _ => ?_) (fun h => absurd (by omega) h)) | (refine onSome.intro (load_fs (l := x) (enc := Rg.R) (i := (i : Int)) (v := s.I) rfl (by omega) (by omega) (by rw [hf]; rfl)) ?_) | (refine onSome.intro (load_fs (l := y) (enc := Rg.R) (i := (i : Int)) (v := t.I) rfl (by omega) (by omega) (by rw [hg]; rfl)) ?_) | (refine CallP.pure kW ?_) | (first | refine condP.dec (fun h => ?_) (fun h => ?_) | refine condP.eq (fun h => ?_) (fun h => ?_) | refine condP.ne (fun h => ?_) (fun h => ?_)) | (refine .i64 (by omega) (by omega) ?_) | (refine onSome.intro (idx_fs rfl rfl (by omega) (by omega) (fun _ => rfl)) ?_) | (refine onSome.intro (load_fs rfl (by omega) (by omega) rfl) ?_) | (refine And.intro rfl ?_))
    all_goals conv => whnf
    all_goals exact .more (i + 1) rfl (by omega) (by omega) ⟨rfl, rfl, rfl, trivial⟩ rfl ⟨(rgsI_no _).inn _, (rgsI_no _).inn _, .int _ _, trivial⟩ trivial
  · obtain rfl : i = x.length := by omega
    repeat' ((conv => whnf); first | (refine condP.dec (fun h => absurd h (by omega)) (fun _ => ?_)) | (first | refine condP.dec (fun h => ?_) (fun h => ?_) | refine condP.eq (fun h => ?_) (fun h => ?_) | refine condP.ne (fun h => ?_) (fun h => ?_)) | (refine .i64 (by omega) (by omega) ?_) | (refine onSome.intro (idx_fs rfl rfl (by omega) (by omega) (fun _ => rfl)) ?_) | (refine onSome.intro (load_fs rfl (by omega) (by omega) rfl) ?_) | (refine And.intro rfl ?_))
    refine .done (by simp) ?_
    conv => whnf
    exact .intro (.bool true) (.inl rfl) rfl (.refl _)

theorem SameRanges_self (x : List Rg) (hl : x.length ≤ 1000000) (H : Heap) : Ev T (.call (.func (.func 47) [] []) [rgsI x, rgsI x] H) (.call (.bool true) H) := by
  refine run_pure T47 (.bool _) (nn_cons (rgsI_no _) (nn_cons (rgsI_no _) nn_none)) ?_ H
  have e1 : (x.map Rg.R).length = x.length := List.length_map ..
  repeat' ((conv => whnf); first | (first | refine condP.dec (fun h => ?_) (fun h => ?_) | refine condP.eq (fun h => ?_) (fun h => ?_) | refine condP.ne (fun h => ?_) (fun h => ?_)) | (refine .i64 (by omega) (by omega) ?_) | (refine onSome.intro (idx_fs rfl rfl (by omega) (by omega) (fun _ => rfl)) ?_) | (refine onSome.intro (load_fs rfl (by omega) (by omega) rfl) ?_) | (refine And.intro rfl ?_))
  all_goals first | (exfalso; omega) | skip
  conv => whnf
  refine loop_rule (X := Nat) (fun i => [(0, rgsI x), (1, rgsI x), (5, .int .i64 i)]) (fun _ => []) (fun i => x.length - i) (fun i => i ≤ x.length) 0 (Nat.zero_le _) ⟨rfl, rfl, rfl, trivial⟩ rfl (fun _ _ => rfl) (fun i hi => ?_)
  rcases Nat.lt_or_ge i x.length with hlt | hge
  · generalize hf : at' x (i : Int) = s at *
    repeat' ((conv => whnf); first | (refine condP.dec (fun _ => ?_) (fun h => absurd (by omega) h)) | (rw [show (s.lo == s.lo && (s.hi == s.hi && true)) = true by simp]) | (refine onSome.intro (load_fs (l := x) (enc := Rg.R) (i := (i : Int)) (v := s.I) rfl (by omega) (by omega) (by rw [hf]; rfl)) ?_) | (first | refine condP.dec (fun h => ?_) (fun h => ?_) | refine condP.eq (fun h => ?_) (fun h => ?_) | refine condP.ne (fun h => ?_) (fun h => ?_)) | (refine .i64 (by omega) (by omega) ?_) | (refine onSome.intro (idx_fs rfl rfl (by omega) (by omega) (fun _ => rfl)) ?_) | (refine onSome.intro (load_fs rfl (by omega) (by omega) rfl) ?_) | (refine And.intro rfl ?_))
    all_goals conv => whnf
    all_goals exact .more (i + 1) rfl (by omega) (by omega) ⟨rfl, rfl, rfl, trivial⟩ rfl ⟨(rgsI_no _).inn _, (rgsI_no _).inn _, .int _ _, trivial⟩ trivial
  · obtain rfl : i = x.length := by omega
    repeat' ((conv => whnf); first | (refine condP.dec (fun h => absurd h (by omega)) (fun _ => ?_)) | (first | refine condP.dec (fun h => ?_) (fun h => ?_) | refine condP.eq (fun h => ?_) (fun h => ?_) | refine condP.ne (fun h => ?_) (fun h => ?_)) | (refine .i64 (by omega) (by omega) ?_) | (refine onSome.intro (idx_fs rfl rfl (by omega) (by omega) (fun _ => rfl)) ?_) | (refine onSome.intro (load_fs rfl (by omega) (by omega) rfl) ?_) | (refine And.intro rfl ?_))
    refine .done (by simp) ?_
    conv => whnf
    exact .intro (.bool true) (.inl rfl) rfl (.refl _)

theorem SameSettled_self (r : List Rg × Nat × Bool) (hl : r.1.length ≤ 1000000) (H : Heap) : Ev T (.call (.func (.func 30) [] []) [setI r, setI r] H) (.call (.bool true) H) := by
  refine run_pure T30 (.bool _) (nn_cons (setI_no _) (nn_cons (setI_no _) nn_none)) ?_ H
  have k1 := SameRanges_self r.1 hl
  obtain ⟨x, n, b⟩ := r
  cases b
  all_goals
    repeat' ((conv => whnf); first | (refine CallP.pure k1 ?_) | (refine condP.dec (fun _ => ?_) (fun h => absurd rfl h)) | (first | refine condP.dec (fun h => ?_) (fun h => ?_) | refine condP.eq (fun h => ?_) (fun h => ?_) | refine condP.ne (fun h => ?_) (fun h => ?_)) | (refine .i64 (by omega) (by omega) ?_) | (refine onSome.intro (idx_fs rfl rfl (by omega) (by omega) (fun _ => rfl)) ?_) | (refine onSome.intro (load_fs rfl (by omega) (by omega) rfl) ?_) | (refine And.intro rfl ?_))
    conv => whnf
    exact .intro (.bool true) (.inl rfl) rfl (.refl _)

end Go.Proofs.YtlfaglkkeahamaaGreat.I
