/- What the statements cover: big, long. -/
import Derived.Test.YtlfaglkkeahamaaGreatNrests
set_option linter.unusedVariables false
set_option maxHeartbeats 16000000
set_option linter.unusedSimpArgs false
namespace Go.Proofs.YtlfaglkkeahamaaGreat.I
open Go.Ideal

def rowsL (k : Int) (t : List (List Int)) (i : Nat) : Int := if k < (at' t (i : Int)).length then 1 else 0
def famL (k : Int) (F : Fam) : Int := if k < F.g.length ∨ k < F.p.length ∨ k < F.lo.length ∨ k < F.hi.length then 1 else if firstErr (rowsL k F.lo) F.lo.length ≠ 0 then 1 else if firstErr (rowsL k F.hi) F.hi.length ≠ 0 then 1 else 0
def longE (k : Int) (l : List Fam) : Int := firstErr (fun i => famL k (at' l (i : Int))) l.length
def longB (k : Int) (l : List Fam) : Bool := decide (longE k l ≠ 0 ∨ 6 < l.length)
theorem mem_at {α : Type} [Inhabited α] {l : List α} {i : Nat} (h : i < l.length) : at' l (i : Int) ∈ l := by rw [at'_get h]; exact List.getElem_mem h
theorem long9_ok (l : List Fam) (k : Int) (hl : l.length ≤ 9223372036854775807) (hF : ∀ F ∈ l, F.Len) (H : Heap) : Ev T (.call (.func (.func 17) [] []) [famsI l, .int .i64 k] H) (.call (.bool (longB k l)) H) := by
  refine run_pure T17 (.bool _) (nn_cons (famsI_no _) (nn_cons (nn_int _ _) nn_none)) ?_ H
  have e1 : (l.map Fam.R).length = l.length := List.length_map ..
  have hr : ∃ r, r = longB k l := ⟨_, rfl⟩
  obtain ⟨r, hr⟩ := hr
  rw [← hr]
  unfold longB longE at hr
  conv => whnf
  refine loop_rule (X := Nat) (fun i => [(0, famsI l), (1, .int .i64 k), (5, .int .i64 i)]) (fun _ => []) (fun i => l.length - i) (fun i => i ≤ l.length ∧ firstErr (fun i => famL k (at' l (i : Int))) i = 0) 0 ⟨Nat.zero_le _, rfl⟩ ⟨rfl, rfl, rfl, trivial⟩ rfl (fun _ _ => rfl) (fun i hi => ?_)
  obtain ⟨hi, h0⟩ := hi
  rcases Nat.lt_or_ge i l.length with hlt | hge
  · have hL := hF _ (mem_at hlt)
    have hnext : famL k (at' l (i : Int)) = 0 → firstErr (fun i => famL k (at' l (i : Int))) (i + 1) = 0 := fun h => firstErr_succ h0 h
    have hstop : famL k (at' l (i : Int)) ≠ 0 → r = true := fun h => by
      rw [hr, firstErr_stop (e := fun i => famL k (at' l (i : Int))) h0 h (by omega)]
      exact decide_eq_true (.inl h)
    unfold famL at hnext hstop
    have hlo := hL.lo
    have hhi := hL.hi
    generalize hf : at' l (i : Int) = F at *
    have f1 : (F.g.map ei).length = F.g.length := List.length_map ..
    have f2 : (F.p.map ei).length = F.p.length := List.length_map ..
    have f3 : (F.lo.map el).length = F.lo.length := List.length_map ..
    have f4 : (F.hi.map el).length = F.hi.length := List.length_map ..
    repeat' ((conv => whnf); first | (refine condP.dec (fun _ => ?_) (fun h => absurd (by omega) h)) | (refine onSome.intro (load_fs (l := l) (enc := Fam.R) (i := (i : Int)) (v := F.I) rfl (by omega) (by omega) (by rw [hf]; rfl)) ?_) | (first | refine condP.dec (fun h => ?_) (fun h => ?_) | refine condP.eq (fun h => ?_) (fun h => ?_) | refine condP.ne (fun h => ?_) (fun h => ?_)) | (refine .i64 (by omega) (by omega) ?_) | (refine onSome.intro (idx_fs rfl rfl (by omega) (by omega) (fun _ => rfl)) ?_) | (refine onSome.intro (load_fs rfl (by omega) (by omega) rfl) ?_) | (refine And.intro rfl ?_))
    all_goals conv => whnf
    all_goals first
      | (refine .done (by simp) ?_
         conv => whnf
         exact .intro (.bool true) (.inl rfl) rfl (frz_bool (hstop (by rw [if_pos (by omega)]; simp)).symm))
      | skip
    rw [if_neg (by omega)] at hnext hstop
    refine loop_rule (X := Nat) (fun j => [(0, famsI l), (1, .int .i64 k), (5, .int .i64 i), (6, .ptr 0 0 0), (7, .int .i64 j)]) (fun _ => [.live 4 [F.R]]) (fun j => F.lo.length - j) (fun j => j ≤ F.lo.length ∧ firstErr (rowsL k F.lo) j = 0) 0 ⟨Nat.zero_le _, rfl⟩ ⟨rfl, rfl, rfl, rfl, rfl, trivial⟩ rfl (fun _ _ => rfl) (fun j hj => ?_)
    obtain ⟨hj, j0⟩ := hj
    rcases Nat.lt_or_ge j F.lo.length with hltj | hgej
    · have jn : rowsL k F.lo j = 0 → firstErr (rowsL k F.lo) (j + 1) = 0 := fun h => firstErr_succ j0 h
      have js : rowsL k F.lo j ≠ 0 → firstErr (rowsL k F.lo) F.lo.length ≠ 0 := fun h => by
        rw [firstErr_stop j0 h (by omega)]; exact h
      generalize hg : at' F.lo (j : Int) = row at *
      have g1 : (row.map ei).length = row.length := List.length_map ..
      repeat' ((conv => whnf); first | (refine condP.dec (fun _ => ?_) (fun h => absurd (by omega) h)) | (refine onSome.intro (load_fs (l := F.lo) (enc := el) (i := (j : Int)) (v := sl row) rfl (by omega) (by omega) (by rw [hg]; rfl)) ?_) | (first | refine condP.dec (fun h => ?_) (fun h => ?_) | refine condP.eq (fun h => ?_) (fun h => ?_) | refine condP.ne (fun h => ?_) (fun h => ?_)) | (refine .i64 (by omega) (by omega) ?_) | (refine onSome.intro (idx_fs rfl rfl (by omega) (by omega) (fun _ => rfl)) ?_) | (refine onSome.intro (load_fs rfl (by omega) (by omega) rfl) ?_) | (refine And.intro rfl ?_))
      all_goals conv => whnf
      · refine .done (by simp) ?_
        conv => whnf
        refine .done (by simp) ?_
        conv => whnf
        have := js (by unfold rowsL; rw [hg, if_pos (by omega)]; simp)
        exact .intro (.bool true) (.inl rfl) rfl (frz_bool (hstop (by rw [if_pos this]; simp)).symm)
      · exact .more (j + 1) rfl ⟨by omega, jn (by unfold rowsL; rw [hg, if_neg (by omega)])⟩ (by omega) ⟨rfl, rfl, rfl, rfl, rfl, trivial⟩ rfl ⟨(famsI_no _).inn _, .int _ _, .int _ _, .ptr _ _ _ (by simp), .int _ _, trivial⟩ (chkN F.R_no trivial)
    obtain rfl : j = F.lo.length := by omega
    rw [if_neg (fun q => q j0)] at hnext hstop
    repeat' ((conv => whnf); first | (refine condP.dec (fun h => absurd h (by omega)) (fun _ => ?_)) | (first | refine condP.dec (fun h => ?_) (fun h => ?_) | refine condP.eq (fun h => ?_) (fun h => ?_) | refine condP.ne (fun h => ?_) (fun h => ?_)) | (refine .i64 (by omega) (by omega) ?_) | (refine onSome.intro (idx_fs rfl rfl (by omega) (by omega) (fun _ => rfl)) ?_) | (refine onSome.intro (load_fs rfl (by omega) (by omega) rfl) ?_) | (refine And.intro rfl ?_))
    refine .done (by simp) ?_
    conv => whnf
    refine loop_rule (X := Nat) (fun j => [(0, famsI l), (1, .int .i64 k), (5, .int .i64 i), (6, .ptr 0 0 0), (8, .int .i64 j)]) (fun _ => [.live 4 [F.R]]) (fun j => F.hi.length - j) (fun j => j ≤ F.hi.length ∧ firstErr (rowsL k F.hi) j = 0) 0 ⟨Nat.zero_le _, rfl⟩ ⟨rfl, rfl, rfl, rfl, rfl, trivial⟩ rfl (fun _ _ => rfl) (fun j hj => ?_)
    obtain ⟨hj, j1⟩ := hj
    rcases Nat.lt_or_ge j F.hi.length with hltj | hgej
    · have jn : rowsL k F.hi j = 0 → firstErr (rowsL k F.hi) (j + 1) = 0 := fun h => firstErr_succ j1 h
      have js : rowsL k F.hi j ≠ 0 → firstErr (rowsL k F.hi) F.hi.length ≠ 0 := fun h => by
        rw [firstErr_stop j1 h (by omega)]; exact h
      generalize hg : at' F.hi (j : Int) = row at *
      have g1 : (row.map ei).length = row.length := List.length_map ..
      repeat' ((conv => whnf); first | (refine condP.dec (fun _ => ?_) (fun h => absurd (by omega) h)) | (refine onSome.intro (load_fs (l := F.hi) (enc := el) (i := (j : Int)) (v := sl row) rfl (by omega) (by omega) (by rw [hg]; rfl)) ?_) | (first | refine condP.dec (fun h => ?_) (fun h => ?_) | refine condP.eq (fun h => ?_) (fun h => ?_) | refine condP.ne (fun h => ?_) (fun h => ?_)) | (refine .i64 (by omega) (by omega) ?_) | (refine onSome.intro (idx_fs rfl rfl (by omega) (by omega) (fun _ => rfl)) ?_) | (refine onSome.intro (load_fs rfl (by omega) (by omega) rfl) ?_) | (refine And.intro rfl ?_))
      all_goals conv => whnf
      · refine .done (by simp) ?_
        conv => whnf
        refine .done (by simp) ?_
        conv => whnf
        have := js (by unfold rowsL; rw [hg, if_pos (by omega)]; simp)
        exact .intro (.bool true) (.inl rfl) rfl (frz_bool (hstop (by rw [if_pos this]; simp)).symm)
      · exact .more (j + 1) rfl ⟨by omega, jn (by unfold rowsL; rw [hg, if_neg (by omega)])⟩ (by omega) ⟨rfl, rfl, rfl, rfl, rfl, trivial⟩ rfl ⟨(famsI_no _).inn _, .int _ _, .int _ _, .ptr _ _ _ (by simp), .int _ _, trivial⟩ (chkN F.R_no trivial)
    obtain rfl : j = F.hi.length := by omega
    rw [if_neg (fun q => q j1)] at hnext
    repeat' ((conv => whnf); first | (refine condP.dec (fun h => absurd h (by omega)) (fun _ => ?_)) | (first | refine condP.dec (fun h => ?_) (fun h => ?_) | refine condP.eq (fun h => ?_) (fun h => ?_) | refine condP.ne (fun h => ?_) (fun h => ?_)) | (refine .i64 (by omega) (by omega) ?_) | (refine onSome.intro (idx_fs rfl rfl (by omega) (by omega) (fun _ => rfl)) ?_) | (refine onSome.intro (load_fs rfl (by omega) (by omega) rfl) ?_) | (refine And.intro rfl ?_))
    refine .done (by simp) ?_
    repeat' ((conv => whnf); first | (refine .i64 (by omega) (by omega) ?_) | (first | refine condP.dec (fun h => ?_) (fun h => ?_) | refine condP.eq (fun h => ?_) (fun h => ?_) | refine condP.ne (fun h => ?_) (fun h => ?_)) | (refine .i64 (by omega) (by omega) ?_) | (refine onSome.intro (idx_fs rfl rfl (by omega) (by omega) (fun _ => rfl)) ?_) | (refine onSome.intro (load_fs rfl (by omega) (by omega) rfl) ?_) | (refine And.intro rfl ?_))
    conv => whnf
    exact .more (i + 1) rfl ⟨by omega, hnext rfl⟩ (by omega) ⟨rfl, rfl, rfl, trivial⟩ rfl ⟨(famsI_no _).inn _, .int _ _, .int _ _, trivial⟩ trivial
  · obtain rfl : i = l.length := by omega
    rw [h0] at hr
    repeat' ((conv => whnf); first | (refine condP.dec (fun h => absurd h (by omega)) (fun _ => ?_)) | (first | refine condP.dec (fun h => ?_) (fun h => ?_) | refine condP.eq (fun h => ?_) (fun h => ?_) | refine condP.ne (fun h => ?_) (fun h => ?_)) | (refine .i64 (by omega) (by omega) ?_) | (refine onSome.intro (idx_fs rfl rfl (by omega) (by omega) (fun _ => rfl)) ?_) | (refine onSome.intro (load_fs rfl (by omega) (by omega) rfl) ?_) | (refine And.intro rfl ?_))
    all_goals refine .done (by simp) ?_
    all_goals repeat' ((conv => whnf); first | (first | refine condP.dec (fun h => ?_) (fun h => ?_) | refine condP.eq (fun h => ?_) (fun h => ?_) | refine condP.ne (fun h => ?_) (fun h => ?_)) | (refine .i64 (by omega) (by omega) ?_) | (refine onSome.intro (idx_fs rfl rfl (by omega) (by omega) (fun _ => rfl)) ?_) | (refine onSome.intro (load_fs rfl (by omega) (by omega) rfl) ?_) | (refine And.intro rfl ?_))
    all_goals conv => whnf
    all_goals exact .intro (.bool _) (.inl rfl) rfl (frz_bool (by rw [hr]; first | exact (decide_eq_true (by omega)).symm | exact (decide_eq_false (by omega)).symm))

theorem long_zero {k : Int} {l : List Fam} (h : longB k l = false) : l.length ≤ 6 ∧ ∀ i : Nat, i < l.length → ((at' l (i : Int)).g.length : Int) ≤ k ∧ ((at' l (i : Int)).p.length : Int) ≤ k ∧ ((at' l (i : Int)).lo.length : Int) ≤ k ∧ ((at' l (i : Int)).hi.length : Int) ≤ k := by
  unfold longB at h
  have h := of_decide_eq_false h
  have h1 : longE k l = 0 := Classical.byContradiction fun q => h (.inl q)
  unfold longE at h1
  rw [firstErr_zero] at h1
  refine ⟨by omega, fun i hi => ?_⟩
  have := h1 i hi
  unfold famL at this
  split at this
  · cases this
  omega
def tapsL (l : List Stg) (i : Nat) : Int := if 8 < (at' l (i : Int)).taps.length then 1 else 0
def bigB (n : Net) : Bool := if firstErr (tapsL n.stages) n.stages.length ≠ 0 then true else if longB 6 n.tubes then true else decide (10 < n.stages.length)
theorem big9_ok (n : Net) (hn : n.Len) (H : Heap) : Ev T (.call (.func (.func 16) [] []) [n.I] H) (.call (.bool (bigB n)) H) := by
  refine run_pure T16 (.bool _) (nn_cons n.I_no nn_none) ?_ H
  have kL := long9_ok n.tubes 6 hn.tl hn.tubes
  have e1 : (n.stages.map Stg.R).length = n.stages.length := List.length_map ..
  have hsn := hn.sn
  have hr : ∃ r, r = bigB n := ⟨_, rfl⟩
  obtain ⟨r, hr⟩ := hr
  rw [← hr]
  unfold bigB at hr
  generalize longB 6 n.tubes = lb at *
  conv => whnf
  refine loop_rule (X := Nat) (fun i => [(1, .ptr 0 0 0), (3, .int .i64 i)]) (fun _ => [.live 3 [n.R]]) (fun i => n.stages.length - i) (fun i => i ≤ n.stages.length ∧ firstErr (tapsL n.stages) i = 0) 0 ⟨Nat.zero_le _, rfl⟩ ⟨rfl, rfl, trivial⟩ rfl (fun _ _ => rfl) (fun i hi => ?_)
  obtain ⟨hi, h0⟩ := hi
  rcases Nat.lt_or_ge i n.stages.length with hlt | hge
  · have hnext : tapsL n.stages i = 0 → firstErr (tapsL n.stages) (i + 1) = 0 := fun h => firstErr_succ h0 h
    have hstop : tapsL n.stages i ≠ 0 → r = true := fun h => by
      rw [hr, firstErr_stop h0 h (by omega), if_pos h]
    unfold tapsL at hnext hstop
    generalize hf : at' n.stages (i : Int) = s at *
    have g1 : (s.taps.map Tap.R).length = s.taps.length := List.length_map ..
    repeat' ((conv => whnf); first | (refine condP.dec (fun _ => ?_) (fun h => absurd (by omega) h)) | (refine onSome.intro (load_fs (l := n.stages) (enc := Stg.R) (i := (i : Int)) (v := tapsI s.taps) rfl (by omega) (by omega) (by rw [hf]; rfl)) ?_) | (first | refine condP.dec (fun h => ?_) (fun h => ?_) | refine condP.eq (fun h => ?_) (fun h => ?_) | refine condP.ne (fun h => ?_) (fun h => ?_)) | (refine .i64 (by omega) (by omega) ?_) | (refine onSome.intro (idx_fs rfl rfl (by omega) (by omega) (fun _ => rfl)) ?_) | (refine onSome.intro (load_fs rfl (by omega) (by omega) rfl) ?_) | (refine And.intro rfl ?_))
    all_goals conv => whnf
    · refine .done (by simp) ?_
      conv => whnf
      exact .intro (.bool true) (.inl rfl) rfl (frz_bool (hstop (by rw [if_pos (by omega)]; simp)).symm)
    · exact .more (i + 1) rfl ⟨by omega, hnext (by rw [if_neg (by omega)])⟩ (by omega) ⟨rfl, rfl, trivial⟩ rfl ⟨.ptr _ _ _ (by simp), .int _ _, trivial⟩ (chkN n.R_no trivial)
  · obtain rfl : i = n.stages.length := by omega
    rw [if_neg (fun q => q h0)] at hr
    cases lb
    · rw [if_neg (by simp)] at hr
      repeat' ((conv => whnf); first | (refine condP.dec (fun h => absurd h (by omega)) (fun _ => ?_)) | (refine .done (by simp) ?_) | (refine CallP.pure kL ?_) | (first | refine condP.dec (fun h => ?_) (fun h => ?_) | refine condP.eq (fun h => ?_) (fun h => ?_) | refine condP.ne (fun h => ?_) (fun h => ?_)) | (refine .i64 (by omega) (by omega) ?_) | (refine onSome.intro (idx_fs rfl rfl (by omega) (by omega) (fun _ => rfl)) ?_) | (refine onSome.intro (load_fs rfl (by omega) (by omega) rfl) ?_) | (refine And.intro rfl ?_))
      all_goals conv => whnf
      all_goals exact .intro (.bool _) (.inl rfl) rfl (frz_bool (by rw [hr]; first | exact (decide_eq_true (by omega)).symm | exact (decide_eq_false (by omega)).symm))
    · rw [if_pos rfl] at hr
      repeat' ((conv => whnf); first | (refine condP.dec (fun h => absurd h (by omega)) (fun _ => ?_)) | (refine .done (by simp) ?_) | (refine CallP.pure kL ?_) | (first | refine condP.dec (fun h => ?_) (fun h => ?_) | refine condP.eq (fun h => ?_) (fun h => ?_) | refine condP.ne (fun h => ?_) (fun h => ?_)) | (refine .i64 (by omega) (by omega) ?_) | (refine onSome.intro (idx_fs rfl rfl (by omega) (by omega) (fun _ => rfl)) ?_) | (refine onSome.intro (load_fs rfl (by omega) (by omega) rfl) ?_) | (refine And.intro rfl ?_))
      all_goals conv => whnf
      all_goals exact .intro (.bool _) (.inl rfl) rfl (frz_bool hr.symm)
theorem big_sz {n : Net} (h : bigB n = false) : n.Sz := by
  unfold bigB at h
  split at h
  · cases h
  rename_i h1
  split at h
  · cases h
  rename_i h2
  have h := of_decide_eq_false h
  have h1 : firstErr (tapsL n.stages) n.stages.length = 0 := Classical.byContradiction h1
  rw [firstErr_zero] at h1
  have h3 := long_zero (k := 6) (l := n.tubes) (by simpa using h2)
  refine ⟨by omega, fun i hi => by have := h3.2 i hi; omega, by omega, fun i hi => ?_⟩
  have := h1 i hi
  unfold tapsL at this
  split at this
  · cases this
  · omega

end Go.Proofs.YtlfaglkkeahamaaGreat.I
