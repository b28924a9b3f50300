/- Families, as the reference has them. -/
import Derived.Test.YtlfaglkkeahamaaGreatKat
set_option linter.unusedVariables false
set_option maxHeartbeats 4000000
set_option linter.unusedSimpArgs false
namespace Go.Proofs.YtlfaglkkeahamaaGreat.I
open Go.Ideal

theorem rlines_ok (g p : List Int) (hg : g.length ≤ 9000000000000000000) (hp : p.length ≤ 9000000000000000000) (H : Heap) : Ev T (.call (.func (.func 163) [] []) [sl g, sl p] H) (.call (.int .i64 (linesErr g p)) H) := by
  refine run_pure T163 (nn_int _ _) (nn_cons (sl_no _) (nn_cons (sl_no _) nn_none)) ?_ H
  have e1 : (g.map ei).length = g.length := List.length_map ..
  have e2 : (p.map ei).length = p.length := List.length_map ..
  by_cases c1 : g.length = 0 ∨ p.length = 0
  · have hL : linesErr g p = 6 := by unfold linesErr; rw [if_pos c1]
    rw [hL]
    repeat' ((conv => whnf); refine condP.eq (fun h => ?_) (fun h => ?_))
    all_goals first | (exfalso; omega) | skip
    all_goals conv => whnf
    all_goals exact .intro (.int .i64 6) (.inl rfl) rfl (.refl _)
  by_cases c2 : 40 < g.length ∨ 40 < p.length
  · have hL : linesErr g p = 8 := by unfold linesErr; rw [if_neg c1, if_pos c2]
    rw [hL]
    conv => whnf
    refine condP.eq (fun h => absurd h (by omega)) (fun h => ?_)
    conv => whnf
    refine condP.eq (fun h => absurd h (by omega)) (fun h2 => ?_)
    conv => whnf
    refine condP.dec (fun h3 => ?_) (fun h3 => ?_)
    · conv => whnf
      exact .intro (.int .i64 8) (.inl rfl) rfl (.refl _)
    · conv => whnf
      refine condP.dec (fun h4 => ?_) (fun h4 => absurd h4 (by omega))
      conv => whnf
      exact .intro (.int .i64 8) (.inl rfl) rfl (.refl _)
  · have hx : ∃ r, r = linesErr g p := ⟨_, rfl⟩
    obtain ⟨r, hr⟩ := hx
    rw [← hr]
    unfold linesErr at hr
    rw [if_neg c1, if_neg c2] at hr
    conv => whnf
    refine condP.eq (fun h => absurd h (by omega)) (fun h => ?_)
    conv => whnf
    refine condP.eq (fun h => absurd h (by omega)) (fun h2 => ?_)
    conv => whnf
    refine condP.dec (fun h3 => absurd h3 (by omega)) (fun h3 => ?_)
    conv => whnf
    refine condP.dec (fun h4 => absurd h4 (by omega)) (fun h4 => ?_)
    conv => whnf
    refine loop_rule (X := Nat) (fun i => [(0, sl g), (1, sl p), (5, .int .i64 i)]) (fun _ => []) (fun i => (g).length - i) (fun i => i ≤ (g).length ∧ firstErr (lineE (-1000000) 1000000 g) i = 0) 0
      ⟨Nat.zero_le _, rfl⟩ ⟨rfl, rfl, rfl, trivial⟩ rfl (fun _ _ => rfl) (fun i hi => ?_)
    obtain ⟨hi, h0⟩ := hi
    conv => whnf
    refine condP.dec (fun hlt => ?_) (fun hlt => ?_)
    · have hnext : lineE (-1000000) 1000000 g i = 0 → firstErr (lineE (-1000000) 1000000 g) (i + 1) = 0 := fun h => firstErr_succ h0 h
      have hstop : lineE (-1000000) 1000000 g i ≠ 0 → firstErr (lineE (-1000000) 1000000 g) (g).length = lineE (-1000000) 1000000 g i := fun h => firstErr_stop h0 h (by omega)
      have f1 : at' g (i : Int) = nth g i := rfl
      have f2 : i = 0 ∨ at' g ((i : Int) - 1) = nth g (i - 1) := by
        rcases Nat.eq_zero_or_pos i with q | q
        · exact .inl q
        · rw [show ((i : Int) - 1) = ((i - 1 : Nat) : Int) by omega]
          exact .inr rfl
      have hce : ∃ c, c = lineE (-1000000) 1000000 g i := ⟨_, rfl⟩
      obtain ⟨c, hc⟩ := hce
      rw [← hc] at hnext hstop
      unfold lineE at hc
      repeat' ((conv => whnf); first | (first | refine condP.dec (fun h => ?_) (fun h => ?_) | refine condP.eq (fun h => ?_) (fun h => ?_) | refine condP.ne (fun h => ?_) (fun h => ?_)) | (refine .i64 (by omega) (by omega) ?_) | (refine onSome.intro (idx_fs rfl rfl (by omega) (by omega) (fun _ => rfl)) ?_) | (refine onSome.intro (load_fs rfl (by omega) (by omega) rfl) ?_) | (refine And.intro rfl ?_))
      conv => whnf
      refine CallP.dec (right_ok _ _) (fun hv => ?_) (fun hv => ?_)
      all_goals unfold Volts at hv
      all_goals repeat' ((conv => whnf); first | (first | refine condP.dec (fun h => ?_) (fun h => ?_) | refine condP.eq (fun h => ?_) (fun h => ?_) | refine condP.ne (fun h => ?_) (fun h => ?_)) | (refine .i64 (by omega) (by omega) ?_) | (refine onSome.intro (idx_fs rfl rfl (by omega) (by omega) (fun _ => rfl)) ?_) | (refine onSome.intro (load_fs rfl (by omega) (by omega) rfl) ?_) | (refine And.intro rfl ?_))
      all_goals conv => whnf
      all_goals first
        | (refine .done (by simp) ?_
           conv => whnf
           have hcn : c ≠ 0 := by
             rw [hc]
             repeat' split
             all_goals omega
           have hs := hstop hcn
           refine .intro (.int .i64 _) (.inl rfl) rfl (frz_int ?_)
           rw [hr, if_pos (by omega)]
           rw [hs, hc]
           repeat' split
           all_goals omega)
        | (have hc0 : c = 0 := by
             rw [hc]
             repeat' split
             all_goals omega
           exact .more (i + 1) rfl ⟨by omega, hnext hc0⟩ (by omega) ⟨rfl, rfl, rfl, trivial⟩ rfl ⟨(sl_no _).inn _, (sl_no _).inn _, .int _ _, trivial⟩ trivial)
    · obtain rfl : i = (g).length := by omega
      conv => whnf
      refine .done (by simp) ?_
      conv => whnf
      refine loop_rule (X := Nat) (fun i => [(0, sl g), (1, sl p), (6, .int .i64 i)]) (fun _ => []) (fun i => (p).length - i) (fun i => i ≤ (p).length ∧ firstErr (lineE (0) 1000000 p) i = 0) 0
        ⟨Nat.zero_le _, rfl⟩ ⟨rfl, rfl, rfl, trivial⟩ rfl (fun _ _ => rfl) (fun i hi => ?_)
      obtain ⟨hi, h0⟩ := hi
      conv => whnf
      refine condP.dec (fun hlt => ?_) (fun hlt => ?_)
      · have hnext : lineE (0) 1000000 p i = 0 → firstErr (lineE (0) 1000000 p) (i + 1) = 0 := fun h => firstErr_succ h0 h
        have hstop : lineE (0) 1000000 p i ≠ 0 → firstErr (lineE (0) 1000000 p) (p).length = lineE (0) 1000000 p i := fun h => firstErr_stop h0 h (by omega)
        have f1 : at' p (i : Int) = nth p i := rfl
        have f2 : i = 0 ∨ at' p ((i : Int) - 1) = nth p (i - 1) := by
          rcases Nat.eq_zero_or_pos i with q | q
          · exact .inl q
          · rw [show ((i : Int) - 1) = ((i - 1 : Nat) : Int) by omega]
            exact .inr rfl
        have hce : ∃ c, c = lineE (0) 1000000 p i := ⟨_, rfl⟩
        obtain ⟨c, hc⟩ := hce
        rw [← hc] at hnext hstop
        unfold lineE at hc
        repeat' ((conv => whnf); first | (first | refine condP.dec (fun h => ?_) (fun h => ?_) | refine condP.eq (fun h => ?_) (fun h => ?_) | refine condP.ne (fun h => ?_) (fun h => ?_)) | (refine .i64 (by omega) (by omega) ?_) | (refine onSome.intro (idx_fs rfl rfl (by omega) (by omega) (fun _ => rfl)) ?_) | (refine onSome.intro (load_fs rfl (by omega) (by omega) rfl) ?_) | (refine And.intro rfl ?_))
        conv => whnf
        refine CallP.dec (right_ok _ _) (fun hv => ?_) (fun hv => ?_)
        all_goals unfold Volts at hv
        all_goals repeat' ((conv => whnf); first | (first | refine condP.dec (fun h => ?_) (fun h => ?_) | refine condP.eq (fun h => ?_) (fun h => ?_) | refine condP.ne (fun h => ?_) (fun h => ?_)) | (refine .i64 (by omega) (by omega) ?_) | (refine onSome.intro (idx_fs rfl rfl (by omega) (by omega) (fun _ => rfl)) ?_) | (refine onSome.intro (load_fs rfl (by omega) (by omega) rfl) ?_) | (refine And.intro rfl ?_))
        all_goals conv => whnf
        all_goals first
          | (refine .done (by simp) ?_
             conv => whnf
             have hcn : c ≠ 0 := by
               rw [hc]
               repeat' split
               all_goals omega
             have hs := hstop hcn
             refine .intro (.int .i64 _) (.inl rfl) rfl (frz_int ?_)
             rw [hr, if_neg (by omega)]
             rw [hs, hc]
             repeat' split
             all_goals omega)
          | (have hc0 : c = 0 := by
               rw [hc]
               repeat' split
               all_goals omega
             exact .more (i + 1) rfl ⟨by omega, hnext hc0⟩ (by omega) ⟨rfl, rfl, rfl, trivial⟩ rfl ⟨(sl_no _).inn _, (sl_no _).inn _, .int _ _, trivial⟩ trivial)
      · obtain rfl : i = (p).length := by omega
        conv => whnf
        refine .done (by simp) ?_
        conv => whnf
        exact .intro (.int .i64 0) (.inl rfl) rfl (frz_int (by rw [hr, if_neg (by omega)]; omega))

/-- A table has less at a place than at the one before. -/
def Falls (t : List (List Int)) (i k : Nat) : Prop := (0 < k ∧ vc t i k < vc t i (k - 1)) ∨ (0 < i ∧ vc t i k < vc t (i - 1) k)
instance (t : List (List Int)) (i k : Nat) : Decidable (Falls t i k) := by unfold Falls; infer_instance
end Go.Proofs.YtlfaglkkeahamaaGreat.I
