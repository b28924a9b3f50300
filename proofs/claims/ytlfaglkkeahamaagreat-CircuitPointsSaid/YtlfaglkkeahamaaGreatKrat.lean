/- Families, as the reference has them. -/
import Derived.Test.YtlfaglkkeahamaaGreatKat
set_option linter.unusedVariables false
set_option maxHeartbeats 4000000
set_option linter.unusedSimpArgs false
namespace Go.Proofs.YtlfaglkkeahamaaGreat.I
open Go.Ideal

theorem rlines_ok (g p : List Int) (hg : g.length ≤ 9000000000000000000) (hp : p.length ≤ 9000000000000000000) (H : Heap) : Ev T (.call (.func (.func 163) [] []) [sl g, sl p] H) (.call (.int .i64 (linesErr g p)) H) := by
  refine run_pure T163 (nn_int _ _) (nn_cons (sl_no _) (nn_cons (sl_no _) nn_none)) ?_ H
  have e1 : (g.map ei).length = g.length := List.length_map ..
  have e2 : (p.map ei).length = p.length := List.length_map ..
  by_cases c1 : g.length = 0 ∨ p.length = 0
  · have hL : linesErr g p = 6 := by unfold linesErr; rw [if_pos c1]
    rw [hL]
    repeat' ((conv => whnf); refine condP.eq (fun h => ?_) (fun h => ?_))
    all_goals first | (exfalso; omega) | skip
    all_goals conv => whnf
    all_goals exact .intro (.int .i64 6) (.inl rfl) rfl (.refl _)
  by_cases c2 : 40 < g.length ∨ 40 < p.length
  · have hL : linesErr g p = 8 := by unfold linesErr; rw [if_neg c1, if_pos c2]
    rw [hL]
    conv => whnf
    refine condP.eq (fun h => absurd h (by omega)) (fun h => ?_)
    conv => whnf
    refine condP.eq (fun h => absurd h (by omega)) (fun h2 => ?_)
    conv => whnf
    refine condP.dec (fun h3 => ?_) (fun h3 => ?_)
    · conv => whnf
      exact .intro (.int .i64 8) (.inl rfl) rfl (.refl _)
    · conv => whnf
      refine condP.dec (fun h4 => ?_) (fun h4 => absurd h4 (by omega))
      conv => whnf
      exact .intro (.int .i64 8) (.inl rfl) rfl (.refl _)
  · have hx : ∃ r, r = linesErr g p := ⟨_, rfl⟩
    obtain ⟨r, hr⟩ := hx
    rw [← hr]
    unfold linesErr at hr
    rw [if_neg c1, if_neg c2] at hr
    conv => whnf
    refine condP.eq (fun h => absurd h (by omega)) (fun h => ?_)
    conv => whnf
    refine condP.eq (fun h => absurd h (by omega)) (fun h2 => ?_)
    conv => whnf
    refine condP.dec (fun h3 => absurd h3 (by omega)) (fun h3 => ?_)
    conv => whnf
    refine condP.dec (fun h4 => absurd h4 (by omega)) (fun h4 => ?_)
    conv => whnf
    refine loop_rule (X := Nat) (fun i => [(0, sl g), (1, sl p), (5, .int .i64 i)]) (fun _ => []) (fun i => (g).length - i) (fun i => i ≤ (g).length ∧ firstErr (lineE (-1000000) 1000000 g) i = 0) 0
      ⟨Nat.zero_le _, rfl⟩ ⟨rfl, rfl, rfl, trivial⟩ rfl (fun _ _ => rfl) (fun i hi => ?_)
    obtain ⟨hi, h0⟩ := hi
    conv => whnf
    refine condP.dec (fun hlt => ?_) (fun hlt => ?_)
    · have hnext : lineE (-1000000) 1000000 g i = 0 → firstErr (lineE (-1000000) 1000000 g) (i + 1) = 0 := fun h => firstErr_succ h0 h
      have hstop : lineE (-1000000) 1000000 g i ≠ 0 → firstErr (lineE (-1000000) 1000000 g) (g).length = lineE (-1000000) 1000000 g i := fun h => firstErr_stop h0 h (by omega)
      have f1 : at' g (i : Int) = nth g i := rfl
      have f2 : i = 0 ∨ at' g ((i : Int) - 1) = nth g (i - 1) := by
        rcases Nat.eq_zero_or_pos i with q | q
        · exact .inl q
        · rw [show ((i : Int) - 1) = ((i - 1 : Nat) : Int) by omega]
          exact .inr rfl
      have hce : ∃ c, c = lineE (-1000000) 1000000 g i := ⟨_, rfl⟩
      obtain ⟨c, hc⟩ := hce
      rw [← hc] at hnext hstop
      unfold lineE at hc
      repeat' ((conv => whnf); first | (first | refine condP.dec (fun h => ?_) (fun h => ?_) | refine condP.eq (fun h => ?_) (fun h => ?_) | refine condP.ne (fun h => ?_) (fun h => ?_)) | (refine .i64 (by omega) (by omega) ?_) | (refine onSome.intro (idx_fs rfl rfl (by omega) (by omega) (fun _ => rfl)) ?_) | (refine onSome.intro (load_fs rfl (by omega) (by omega) rfl) ?_) | (refine And.intro rfl ?_))
      conv => whnf
      refine CallP.dec (right_ok _ _) (fun hv => ?_) (fun hv => ?_)
      all_goals unfold Volts at hv
      all_goals repeat' ((conv => whnf); first | (first | refine condP.dec (fun h => ?_) (fun h => ?_) | refine condP.eq (fun h => ?_) (fun h => ?_) | refine condP.ne (fun h => ?_) (fun h => ?_)) | (refine .i64 (by omega) (by omega) ?_) | (refine onSome.intro (idx_fs rfl rfl (by omega) (by omega) (fun _ => rfl)) ?_) | (refine onSome.intro (load_fs rfl (by omega) (by omega) rfl) ?_) | (refine And.intro rfl ?_))
      all_goals conv => whnf
      all_goals first
        | (refine .done (by simp) ?_
           conv => whnf
           have hcn : c ≠ 0 := by
             rw [hc]
             repeat' split
             all_goals omega
           have hs := hstop hcn
           refine .intro (.int .i64 _) (.inl rfl) rfl (frz_int ?_)
           rw [hr, if_pos (by omega)]
           rw [hs, hc]
           repeat' split
           all_goals omega)
        | (have hc0 : c = 0 := by
             rw [hc]
             repeat' split
             all_goals omega
           exact .more (i + 1) rfl ⟨by omega, hnext hc0⟩ (by omega) ⟨rfl, rfl, rfl, trivial⟩ rfl ⟨(sl_no _).inn _, (sl_no _).inn _, .int _ _, trivial⟩ trivial)
    · obtain rfl : i = (g).length := by omega
      conv => whnf
      refine .done (by simp) ?_
      conv => whnf
      refine loop_rule (X := Nat) (fun i => [(0, sl g), (1, sl p), (6, .int .i64 i)]) (fun _ => []) (fun i => (p).length - i) (fun i => i ≤ (p).length ∧ firstErr (lineE (0) 1000000 p) i = 0) 0
        ⟨Nat.zero_le _, rfl⟩ ⟨rfl, rfl, rfl, trivial⟩ rfl (fun _ _ => rfl) (fun i hi => ?_)
      obtain ⟨hi, h0⟩ := hi
      conv => whnf
      refine condP.dec (fun hlt => ?_) (fun hlt => ?_)
      · have hnext : lineE (0) 1000000 p i = 0 → firstErr (lineE (0) 1000000 p) (i + 1) = 0 := fun h => firstErr_succ h0 h
        have hstop : lineE (0) 1000000 p i ≠ 0 → firstErr (lineE (0) 1000000 p) (p).length = lineE (0) 1000000 p i := fun h => firstErr_stop h0 h (by omega)
        have f1 : at' p (i : Int) = nth p i := rfl
        have f2 : i = 0 ∨ at' p ((i : Int) - 1) = nth p (i - 1) := by
          rcases Nat.eq_zero_or_pos i with q | q
          · exact .inl q
          · rw [show ((i : Int) - 1) = ((i - 1 : Nat) : Int) by omega]
            exact .inr rfl
        have hce : ∃ c, c = lineE (0) 1000000 p i := ⟨_, rfl⟩
        obtain ⟨c, hc⟩ := hce
        rw [← hc] at hnext hstop
        unfold lineE at hc
        repeat' ((conv => whnf); first | (first | refine condP.dec (fun h => ?_) (fun h => ?_) | refine condP.eq (fun h => ?_) (fun h => ?_) | refine condP.ne (fun h => ?_) (fun h => ?_)) | (refine .i64 (by omega) (by omega) ?_) | (refine onSome.intro (idx_fs rfl rfl (by omega) (by omega) (fun _ => rfl)) ?_) | (refine onSome.intro (load_fs rfl (by omega) (by omega) rfl) ?_) | (refine And.intro rfl ?_))
        conv => whnf
        refine CallP.dec (right_ok _ _) (fun hv => ?_) (fun hv => ?_)
        all_goals unfold Volts at hv
        all_goals repeat' ((conv => whnf); first | (first | refine condP.dec (fun h => ?_) (fun h => ?_) | refine condP.eq (fun h => ?_) (fun h => ?_) | refine condP.ne (fun h => ?_) (fun h => ?_)) | (refine .i64 (by omega) (by omega) ?_) | (refine onSome.intro (idx_fs rfl rfl (by omega) (by omega) (fun _ => rfl)) ?_) | (refine onSome.intro (load_fs rfl (by omega) (by omega) rfl) ?_) | (refine And.intro rfl ?_))
        all_goals conv => whnf
        all_goals first
          | (refine .done (by simp) ?_
             conv => whnf
             have hcn : c ≠ 0 := by
               rw [hc]
               repeat' split
               all_goals omega
             have hs := hstop hcn
             refine .intro (.int .i64 _) (.inl rfl) rfl (frz_int ?_)
             rw [hr, if_neg (by omega)]
             rw [hs, hc]
             repeat' split
             all_goals omega)
          | (have hc0 : c = 0 := by
               rw [hc]
               repeat' split
               all_goals omega
             exact .more (i + 1) rfl ⟨by omega, hnext hc0⟩ (by omega) ⟨rfl, rfl, rfl, trivial⟩ rfl ⟨(sl_no _).inn _, (sl_no _).inn _, .int _ _, trivial⟩ trivial)
      · obtain rfl : i = (p).length := by omega
        conv => whnf
        refine .done (by simp) ?_
        conv => whnf
        exact .intro (.int .i64 0) (.inl rfl) rfl (frz_int (by rw [hr, if_neg (by omega)]; omega))

theorem formed_ok (g p : List Int) (lo hi t : List (List Int)) (ht : t.length ≤ 9000000000000000000) (H : Heap) : Ev T (.call (.func (.func 164) [] []) [famI g p lo hi, sll t] H) (.call (.bool (decide (Shaped t g.length p.length))) H) := by
  refine run_pure T164 (nn_bool _) (nn_cons (famI_no ..) (nn_cons (sll_no _) nn_none)) ?_ H
  have hx : ∃ b, b = decide (Shaped t g.length p.length) := ⟨_, rfl⟩
  obtain ⟨b, hb⟩ := hx
  rw [← hb]
  have e1 : (t.map el).length = t.length := List.length_map ..
  have e2 : (g.map ei).length = g.length := List.length_map ..
  have e3 : (p.map ei).length = p.length := List.length_map ..
  conv => whnf
  refine condP.ne (fun h => ?_) (fun h => ?_)
  · have hS : b = false := by rw [hb]; exact decide_eq_false (fun q => h (by have := q.1; omega))
    conv => whnf
    exact .intro (.bool false) (.inl rfl) rfl (frz_bool hS.symm)
  · conv => whnf
    refine loop_rule (X := Nat) (fun i => [(1, sll t), (2, .ptr 0 0 0), (5, .int .i64 i)]) (fun _ => [SF g p lo hi]) (fun i => t.length - i)
      (fun i => i ≤ t.length ∧ ∀ j, j < i → ((t.getD j []).length : Int) = p.length) 0
      ⟨Nat.zero_le _, fun j hj => by omega⟩ ⟨rfl, rfl, rfl, trivial⟩ rfl (fun _ _ => rfl) (fun i hi => ?_)
    obtain ⟨hi, h0⟩ := hi
    conv => whnf
    refine condP.dec (fun hlt => ?_) (fun hlt => ?_)
    · have e4 : ((at' t (i : Int)).map ei).length = (t.getD i []).length := List.length_map ..
      conv => whnf
      refine onSome.intro (idx_fs rfl rfl (by omega) (by omega) (fun _ => rfl)) ?_
      conv => whnf
      refine onSome.intro (load_fs (i := (i : Int)) (v := sl (at' t i)) rfl (by omega) (by omega) rfl) ?_
      conv => whnf
      refine condP.ne (fun hne => ?_) (fun heq => ?_)
      · have hS : b = false := by rw [hb]; exact decide_eq_false (not_shaped (i := i) (by omega) (by rw [← e4, ← e3]; exact hne))
        conv => whnf
        refine .done (by simp) ?_
        conv => whnf
        exact .intro (.bool false) (.inl rfl) rfl (frz_bool hS.symm)
      · conv => whnf
        refine .i64 (by omega) (by omega) ?_
        conv => whnf
        refine .more (i + 1) rfl ⟨by omega, fun j hj => ?_⟩ (by omega) ⟨rfl, rfl, rfl, trivial⟩ rfl ⟨(sll_no _).inn _, .ptr _ _ _ (by simp), .int _ _, trivial⟩ (SF_chk _ _ _ _ trivial)
        rcases Nat.lt_or_ge j i with c | c
        · exact h0 j c
        · obtain rfl : j = i := by omega
          rw [← e4, ← e3]; exact heq
    · have hS : b = true := by rw [hb]; exact decide_eq_true (is_shaped (by omega) (fun j hj => h0 j (by omega)))
      conv => whnf
      refine .done (by simp) ?_
      conv => whnf
      exact .intro (.bool true) (.inl rfl) rfl (frz_bool hS.symm)

/-- A table has less at a place than at the one before. -/
def Falls (t : List (List Int)) (i k : Nat) : Prop := (0 < k ∧ vc t i k < vc t i (k - 1)) ∨ (0 < i ∧ vc t i k < vc t (i - 1) k)
instance (t : List (List Int)) (i k : Nat) : Decidable (Falls t i k) := by unfold Falls; infer_instance
theorem falls_ok {t : List (List Int)} {n m : Nat} (ht : TabOk n m t) (hn : n ≤ 1000) (hm : m ≤ 1000) {i k : Nat} (hi : i < n) (hk : k < m) (H : Heap) : Ev T (.call (.func (.func 188) [] []) [sll t, .int .i64 i, .int .i64 k] H) (.call (.bool (decide (Falls t i k))) H) := by
  refine run_pure T188 (nn_bool _) (nn_cons (sll_no _) (nn_cons (nn_int _ _) (nn_cons (nn_int _ _) nn_none))) ?_ H
  have tl := ht.len
  have hx : ∃ b, b = decide (Falls t i k) := ⟨_, rfl⟩
  obtain ⟨b, hb⟩ := hx
  rw [← hb]
  have rl := row_len ht (a := (i : Int)) (by omega) (by omega)
  have f1 : at' (at' t (i : Int)) (k : Int) = vc t i k := rfl
  have f3 : i = 0 ∨ (at' (at' t ((i : Int) - 1)) (k : Int) = vc t (i - 1) k ∧ (at' t ((i : Int) - 1)).length = m) := by
    rcases Nat.eq_zero_or_pos i with q | q
    · exact .inl q
    · rw [show ((i : Int) - 1) = ((i - 1 : Nat) : Int) by omega]
      exact .inr ⟨rfl, row_len ht (by omega) (by omega)⟩
  have f4 : k = 0 ∨ at' (at' t (i : Int)) ((k : Int) - 1) = vc t i (k - 1) := by
    rcases Nat.eq_zero_or_pos k with q | q
    · exact .inl q
    · rw [show ((k : Int) - 1) = ((k - 1 : Nat) : Int) by omega]
      exact .inr rfl
  repeat' ((conv => whnf); first | (first | refine condP.dec (fun h => ?_) (fun h => ?_) | refine condP.eq (fun h => ?_) (fun h => ?_) | refine condP.ne (fun h => ?_) (fun h => ?_)) | (refine .i64 (by omega) (by omega) ?_) | (refine onSome.intro (idx_fs rfl rfl (by omega) (by omega) (fun _ => rfl)) ?_) | (refine onSome.intro (load_fs rfl (by omega) (by omega) rfl) ?_) | (refine And.intro rfl ?_))
  all_goals conv => whnf
  all_goals first
    | exact .intro (.bool true) (.inl rfl) rfl (frz_bool (by rw [hb]; exact (decide_eq_true (by unfold Falls; omega)).symm))
    | exact .intro (.bool false) (.inl rfl) rfl (frz_bool (by rw [hb]; exact (decide_eq_false (by unfold Falls; omega)).symm))

theorem checkPlace_ok {g p : List Int} {lo hi : List (List Int)} {n m : Nat} (tl : TabOk n m lo) (th : TabOk n m hi) (hn : n ≤ 1000) (hm : m ≤ 1000) {i k : Nat} (hi' : i < n) (hk : k < m) (H : Heap) :
    Ev T (.call (.func (.func 165) [] []) [famI g p lo hi, .int .i64 i, .int .i64 k] H) (.call (.int .i64 (cellE lo hi i k)) H) := by
  refine run_pure T165 (nn_int _ _) (nn_cons (famI_no ..) (nn_cons (nn_int _ _) (nn_cons (nn_int _ _) nn_none))) ?_ H
  have ll := tl.len
  have lh := th.len
  have hx : ∃ b, b = cellE lo hi i k := ⟨_, rfl⟩
  obtain ⟨c, hc⟩ := hx
  rw [← hc]
  unfold cellE at hc
  have rl := row_len tl (a := (i : Int)) (by omega) (by omega)
  have rh := row_len th (a := (i : Int)) (by omega) (by omega)
  have f1 : at' (at' lo (i : Int)) (k : Int) = vc lo i k := rfl
  have f2 : at' (at' hi (i : Int)) (k : Int) = vc hi i k := rfl
  repeat' ((conv => whnf); first | (first | refine condP.dec (fun h => ?_) (fun h => ?_) | refine condP.eq (fun h => ?_) (fun h => ?_) | refine condP.ne (fun h => ?_) (fun h => ?_)) | (refine .i64 (by omega) (by omega) ?_) | (refine onSome.intro (idx_fs rfl rfl (by omega) (by omega) (fun _ => rfl)) ?_) | (refine onSome.intro (load_fs rfl (by omega) (by omega) rfl) ?_) | (refine And.intro rfl ?_))
  all_goals conv => whnf
  all_goals try (exact .intro (.int .i64 _) (.inl rfl) rfl (frz_int (by
    rw [hc]
    repeat' split
    all_goals omega)))
  refine CallP.dec (falls_ok tl hn hm hi' hk) (fun q1 => ?_) (fun q1 => ?_)
  all_goals unfold Falls at q1
  · conv => whnf
    exact .intro (.int .i64 11) (.inl rfl) rfl (frz_int (by
      rw [hc]
      repeat' split
      all_goals omega))
  conv => whnf
  refine CallP.dec (falls_ok th hn hm hi' hk) (fun q2 => ?_) (fun q2 => ?_)
  all_goals unfold Falls at q2
  all_goals conv => whnf
  all_goals exact .intro (.int .i64 _) (.inl rfl) rfl (frz_int (by
      rw [hc]
      repeat' split
      all_goals omega))

theorem rCheck_ok (g p : List Int) (lo hi : List (List Int)) (hg : g.length ≤ 9000000000000000000) (hp : p.length ≤ 9000000000000000000) (hlo : lo.length ≤ 9000000000000000000) (hhi : hi.length ≤ 9000000000000000000) (H : Heap) :
    Ev T (.call (.func (.func 112) [] []) [famI g p lo hi] H) (.call (.int .i64 (famErr g p lo hi)) H) := by
  refine run_pure T112 (nn_int _ _) (nn_cons (famI_no ..) nn_none) ?_ H
  have hL := rlines_ok g p hg hp
  have hz : linesErr g p = 0 → g.length ≤ 40 ∧ p.length ≤ 40 := fun h => ⟨(linesErr_zero h).2.2.2.1, (linesErr_zero h).2.2.2.2.2⟩
  have hx : ∃ r e, r = famErr g p lo hi ∧ e = linesErr g p := ⟨_, _, rfl, rfl⟩
  obtain ⟨r, e, hr, he⟩ := hx
  rw [← hr]
  rw [← he] at hL hz
  unfold famErr at hr
  rw [← he] at hr
  conv => whnf
  refine CallP.pure hL ?_
  conv => whnf
  refine condP.ne (fun h => ?_) (fun h => ?_)
  · rw [if_pos h] at hr
    conv => whnf
    exact .intro (.int .i64 e) (.inl rfl) rfl (frz_int hr.symm)
  have hz := hz h
  rw [if_neg (by simpa using h)] at hr
  have l1 : (g.map ei).length = g.length := List.length_map ..
  have l2 : (p.map ei).length = p.length := List.length_map ..
  conv => whnf
  refine CallP.dec (formed_ok g p lo hi lo hlo) (fun h1 => ?_) (fun h1 => ?_)
  rotate_left
  · rw [if_neg (fun q => h1 q.1)] at hr
    conv => whnf
    exact .intro (.int .i64 3) (.inl rfl) rfl (frz_int hr.symm)
  conv => whnf
  refine CallP.dec (formed_ok g p lo hi hi hhi) (fun h2 => ?_) (fun h2 => ?_)
  rotate_left
  · rw [if_neg (fun q => h2 q.2)] at hr
    conv => whnf
    exact .intro (.int .i64 3) (.inl rfl) rfl (frz_int hr.symm)
  rw [if_pos ⟨h1, h2⟩] at hr
  have tl := h1.tab
  have th := h2.tab
  conv => whnf
  refine loop_rule (X := Nat) (fun i => [(1, .ptr 0 0 0), (4, .int .i64 i)]) (fun _ => [SF g p lo hi]) (fun i => g.length - i)
    (fun i => i ≤ g.length ∧ firstErr (fun i => firstErr (fun k => cellE lo hi i k) p.length) i = 0) 0
    ⟨Nat.zero_le _, rfl⟩ ⟨rfl, rfl, trivial⟩ rfl (fun _ _ => rfl) (fun i hi' => ?_)
  obtain ⟨hi', hr0⟩ := hi'
  conv => whnf
  refine condP.dec (fun hlt => ?_) (fun hlt => ?_)
  · conv => whnf
    refine loop_rule (X := Nat) (fun k => [(1, .ptr 0 0 0), (4, .int .i64 i), (5, .int .i64 k)]) (fun _ => [SF g p lo hi]) (fun k => p.length - k)
      (fun k => k ≤ p.length ∧ firstErr (fun k => cellE lo hi i k) k = 0) 0
      ⟨Nat.zero_le _, rfl⟩ ⟨rfl, rfl, rfl, trivial⟩ rfl (fun _ _ => rfl) (fun k hk' => ?_)
    obtain ⟨hk', h0⟩ := hk'
    conv => whnf
    refine condP.dec (fun hkt => ?_) (fun hkt => ?_)
    · have stop := tabErr_stop (n := g.length) hr0 h0
      have next := firstErr_succ (e := fun k => cellE lo hi i k) h0
      have hcp := checkPlace_ok (g := g) (p := p) tl th (by omega) (by omega) (i := i) (k := k) (by omega) (by omega)
      have hce : ∃ c, c = cellE lo hi i k := ⟨_, rfl⟩
      obtain ⟨c, hc⟩ := hce
      rw [← hc] at stop next hcp
      conv => whnf
      refine CallP.pure hcp ?_
      conv => whnf
      refine condP.ne (fun hn => ?_) (fun hn => ?_)
      · conv => whnf
        refine .done (by simp) ?_
        conv => whnf
        refine .done (by simp) ?_
        conv => whnf
        exact .intro (.int .i64 c) (.inl rfl) rfl (frz_int (by rw [hr, stop hn (by omega) (by omega)]))
      · conv => whnf
        refine .i64 (by omega) (by omega) ?_
        conv => whnf
        exact .more (k + 1) rfl ⟨by omega, next hn⟩ (by omega) ⟨rfl, rfl, rfl, trivial⟩ rfl ⟨.ptr _ _ _ (by simp), .int _ _, .int _ _, trivial⟩ (SF_chk _ _ _ _ trivial)
    · obtain rfl : k = p.length := by omega
      conv => whnf
      refine .done (by simp) ?_
      conv => whnf
      refine .i64 (by omega) (by omega) ?_
      conv => whnf
      exact .more (i + 1) rfl ⟨by omega, firstErr_succ hr0 h0⟩ (by omega) ⟨rfl, rfl, trivial⟩ rfl ⟨.ptr _ _ _ (by simp), .int _ _, trivial⟩ (SF_chk _ _ _ _ trivial)
  · obtain rfl : i = g.length := by omega
    conv => whnf
    refine .done (by simp) ?_
    conv => whnf
    exact .intro (.int .i64 0) (.inl rfl) rfl (frz_int (by rw [hr]; exact hr0.symm))

theorem find_ok {l : List Int} (h : LinesOk (-1000000) 1000000 l) (h0 : 1 ≤ l.length) (hl : l.length ≤ 1000) {v : Int} (v0 : -1000000 ≤ v) (v1 : v ≤ 1000000) :
    ∃ a u o, Spot l v a u o ∧ ∀ H, Ev T (.call (.func (.func 149) [] []) [sl l, .int .i64 v] H) (.call (partI a u o) H) := by
  have e1 : (l.map ei).length = l.length := List.length_map ..
  have key : ∃ x, (∃ a u o, x = partI a u o ∧ Spot l v a u o) ∧ Noname x ∧ ∀ H, Ev T (.call (.func (.func 149) [] []) [sl l, .int .i64 v] H) (.call x H) := by
    refine run_some T149 (nn_cons (sl_no _) (nn_cons (nn_int _ _) nn_none)) ?_
    conv => whnf
    refine onSome.intro (idx_fs rfl rfl (by omega) (by omega) (fun _ => rfl)) ?_
    conv => whnf
    refine onSome.intro (load_fs (i := (0 : Int)) (v := .int .i64 (nth l 0)) rfl (by omega) (by omega) rfl) ?_
    conv => whnf
    refine condP.dec (fun hv => ?_) (fun hv => ?_)
    · conv => whnf
      exact .intro (partI 0 0 1) (partI 0 0 1) ⟨_, _, _, rfl, Spot.low hv⟩ (partI_no ..) (.inl rfl) rfl (.refl _)
    conv => whnf
    refine loop_rule (X := Nat) (fun i => [(0, sl l), (1, .int .i64 v), (4, .ptr 0 0 0), (5, .int .i64 i)]) (fun _ => [.live 3 [[.int .i64 0, .int .i64 0, .int .i64 0]]]) (fun i => l.length - i)
      (fun i => i < l.length ∧ nth l i ≤ v) 0
      ⟨by omega, by omega⟩ ⟨rfl, rfl, rfl, rfl, trivial⟩ rfl (fun _ _ => rfl) (fun i hi => ?_)
    obtain ⟨hi, hle⟩ := hi
    have f0 : at' l (i : Int) = nth l i := rfl
    have f1 : at' l ((i : Int) + 1) = nth l (i + 1) := rfl
    have b0 := h.bnd i hi
    have b1 : i + 1 = l.length ∨ (-1000000 ≤ nth l (i + 1) ∧ nth l (i + 1) ≤ 1000000) := by
      rcases Nat.lt_or_ge (i + 1) l.length with c | c
      · exact .inr (h.bnd (i + 1) c)
      · exact .inl (by omega)
    have on : nth l i = v → Spot l v i 0 1 := fun q => Spot.on i hi q
    have high : i + 1 = l.length → Spot l v i 0 1 := fun q => by
      have := Spot.high (l := l) (v := v) (by rw [← q]; simpa using hle)
      rwa [show l.length - 1 = i by omega] at this
    have mid : i + 1 < l.length → v < nth l (i + 1) → nth l i ≠ v → Spot l v i (v - nth l i) (nth l (i + 1) - nth l i) := fun q1 q2 q3 => Spot.mid i q1 (by omega) q2
    repeat' ((conv => whnf); first | (first | refine condP.dec (fun h => ?_) (fun h => ?_) | refine condP.eq (fun h => ?_) (fun h => ?_) | refine condP.ne (fun h => ?_) (fun h => ?_)) | (refine .i64 (by omega) (by omega) ?_) | (refine onSome.intro (idx_fs rfl rfl (by omega) (by omega) (fun _ => rfl)) ?_) | (refine onSome.intro (load_fs rfl (by omega) (by omega) rfl) ?_) | (refine And.intro rfl ?_))
    all_goals conv => whnf
    all_goals first
      | (refine .more (i + 1) rfl ⟨by omega, by omega⟩ (by omega) ⟨rfl, rfl, rfl, rfl, trivial⟩ rfl ⟨(sl_no _).inn _, .int _ _, .ptr _ _ _ (by simp), .int _ _, trivial⟩ ⟨fun j k hj hk => ?_, trivial⟩
         obtain rfl : j = 0 := by simpa using hj
         exact (nn_cons (nn_int _ _) (nn_cons (nn_int _ _) (nn_cons (nn_int _ _) nn_none)) _ (List.getElem_mem hk)).inn _)
      | (refine .done (by simp) ?_
         repeat' ((conv => whnf); first | (first | refine condP.dec (fun h => ?_) (fun h => ?_) | refine condP.eq (fun h => ?_) (fun h => ?_) | refine condP.ne (fun h => ?_) (fun h => ?_)) | (refine .i64 (by omega) (by omega) ?_) | (refine onSome.intro (idx_fs rfl rfl (by omega) (by omega) (fun _ => rfl)) ?_) | (refine onSome.intro (load_fs rfl (by omega) (by omega) rfl) ?_) | (refine And.intro rfl ?_))
         all_goals conv => whnf
         all_goals first
           | exact .intro (partI i 0 1) (partI i 0 1) ⟨_, _, _, rfl, high (by omega)⟩ (partI_no ..) (.inl rfl) rfl (.refl _)
           | exact .intro (partI i 0 1) (partI i 0 1) ⟨_, _, _, rfl, on (by omega)⟩ (partI_no ..) (.inl rfl) rfl (.refl _)
           | exact .intro (partI i (v - nth l i) (nth l (i + 1) - nth l i)) (partI i (v - nth l i) (nth l (i + 1) - nth l i)) ⟨_, _, _, rfl, mid (by omega) (by omega) (by omega)⟩ (partI_no ..) (.inl rfl) rfl (.refl _)
           | (exfalso; omega))
  obtain ⟨x, ⟨a, u, o, rfl, hs⟩, _, hx⟩ := key
  exact ⟨a, u, o, hs, hx⟩

theorem weighted_ok {t : List (List Int)} {n m : Nat} (ht : TabOk n m t) (hn : n ≤ 1000) (hm : m ≤ 1000) (hb : ∀ i k, i < n → k < m → 0 ≤ vc t i k ∧ vc t i k ≤ 1000000) {xa xu xo ya yu yo : Int} (x : Plc n xa xu xo) (y : Plc m ya yu yo) (xb : xo ≤ 2000000) (yb : yo ≤ 1000000) (H : Heap) :
    Ev T (.call (.func (.func 150) [] []) [sll t, partI xa xu xo, partI ya yu yo] H) (.call (.int .i64 (vat t xa xu xo ya yu yo)) H) := by
  refine run_pure T150 (nn_int _ _) (nn_cons (sll_no _) (nn_cons (partI_no ..) (nn_cons (partI_no ..) nn_none))) ?_ H
  have tl := ht.len
  obtain ⟨x0, x1, x2, x3, x4⟩ := x
  obtain ⟨y0, y1, y2, y3, y4⟩ := y
  have hx : ∃ r, r = vat t xa xu xo ya yu yo := ⟨_, rfl⟩
  obtain ⟨r, hr⟩ := hx
  rw [← hr]
  have hv : vat t xa xu xo ya yu yo = mixI (fun i => mixI (fun k => vc t i k) ya yu yo) xa xu xo := rfl
  rw [hv, mixI_eq _ _ _ x3, mixI_eq _ _ _ y3, mixI_eq _ _ _ y3, Int.mul_add, Int.mul_add, ← Int.mul_assoc, ← Int.mul_assoc, ← Int.mul_assoc, ← Int.mul_assoc] at hr
  have cell : ∀ a b : Int, 0 ≤ a → a < n → 0 ≤ b → b < m → 0 ≤ at' (at' t a) b ∧ at' (at' t a) b ≤ 1000000 := fun a b h1 h2 h3 h4 => hb a.toNat b.toNat (by omega) (by omega)
  have q1 := mul_le3 (show 0 ≤ xo - xu by omega) (show xo - xu ≤ 2000000 by omega) (show 0 ≤ yo - yu by omega) (show yo - yu ≤ 1000000 by omega)
  have q2 := mul_le3 (show 0 ≤ xu by omega) (show xu ≤ 2000000 by omega) (show 0 ≤ yo - yu by omega) (show yo - yu ≤ 1000000 by omega)
  have q3 := mul_le3 (show 0 ≤ xo - xu by omega) (show xo - xu ≤ 2000000 by omega) y3 (show yu ≤ 1000000 by omega)
  have q4 := mul_le3 x3 (show xu ≤ 2000000 by omega) y3 (show yu ≤ 1000000 by omega)
  have l1 := row_len ht x0 (by omega)
  have c1 := cell xa ya x0 (by omega) y0 (by omega)
  have p1 := mul_le3 q1.1 q1.2 c1.1 c1.2
  change r = (xo - xu) * (yo - yu) * at' (at' t xa) ya + (xo - xu) * yu * at' (at' t xa) (ya + 1) + (xu * (yo - yu) * at' (at' t (xa + 1)) ya + xu * yu * at' (at' t (xa + 1)) (ya + 1)) at hr
  by_cases hx : 0 < xu
  · have x2 := x2 hx
    have l2 := row_len ht (a := xa + 1) (by omega) (by omega)
    have c2 := cell (xa + 1) ya (by omega) (by omega) y0 (by omega)
    have p2 := mul_le3 q2.1 q2.2 c2.1 c2.2
    by_cases hy : 0 < yu
    · have y2 := y2 hy
      have c3 := cell xa (ya + 1) (by omega) (by omega) (by omega) (by omega)
      have c4 := cell (xa + 1) (ya + 1) (by omega) (by omega) (by omega) (by omega)
      have p3 := mul_le3 q3.1 q3.2 c3.1 c3.2
      have p4 := mul_le3 q4.1 q4.2 c4.1 c4.2
      repeat' ((conv => whnf); first | refine condP.dec (fun h => ?_) (fun h => absurd (by assumption) h) | (refine .i64 (by omega) (by omega) ?_) | (refine onSome.intro (idx_fs rfl rfl (by omega) (by omega) (fun _ => rfl)) ?_) | (refine onSome.intro (load_fs rfl (by omega) (by omega) rfl) ?_) | (refine And.intro rfl ?_))
      conv => whnf
      exact .intro (.int .i64 _) (.inl rfl) rfl (frz_int (by omega))
    · obtain rfl : yu = 0 := by omega
      rw [Int.mul_zero, Int.mul_zero, Int.zero_mul, Int.zero_mul] at hr
      repeat' ((conv => whnf); first | (first | refine condP.dec (fun h => ?_) (fun h => ?_) | refine condP.eq (fun h => ?_) (fun h => ?_) | refine condP.ne (fun h => ?_) (fun h => ?_)) | (refine .i64 (by omega) (by omega) ?_) | (refine onSome.intro (idx_fs rfl rfl (by omega) (by omega) (fun _ => rfl)) ?_) | (refine onSome.intro (load_fs rfl (by omega) (by omega) rfl) ?_) | (refine And.intro rfl ?_))
      all_goals first | (exfalso; omega) | skip
      all_goals conv => whnf
      all_goals exact .intro (.int .i64 _) (.inl rfl) rfl (frz_int (by omega))
  · obtain rfl : xu = 0 := by omega
    rw [Int.zero_mul, Int.zero_mul, Int.zero_mul, Int.zero_mul] at hr
    by_cases hy : 0 < yu
    · have y2 := y2 hy
      have c3 := cell xa (ya + 1) (by omega) (by omega) (by omega) (by omega)
      have p3 := mul_le3 q3.1 q3.2 c3.1 c3.2
      repeat' ((conv => whnf); first | (first | refine condP.dec (fun h => ?_) (fun h => ?_) | refine condP.eq (fun h => ?_) (fun h => ?_) | refine condP.ne (fun h => ?_) (fun h => ?_)) | (refine .i64 (by omega) (by omega) ?_) | (refine onSome.intro (idx_fs rfl rfl (by omega) (by omega) (fun _ => rfl)) ?_) | (refine onSome.intro (load_fs rfl (by omega) (by omega) rfl) ?_) | (refine And.intro rfl ?_))
      all_goals first | (exfalso; omega) | skip
      all_goals conv => whnf
      all_goals exact .intro (.int .i64 _) (.inl rfl) rfl (frz_int (by omega))
    · obtain rfl : yu = 0 := by omega
      rw [Int.mul_zero, Int.zero_mul] at hr
      repeat' ((conv => whnf); first | (first | refine condP.dec (fun h => ?_) (fun h => ?_) | refine condP.eq (fun h => ?_) (fun h => ?_) | refine condP.ne (fun h => ?_) (fun h => ?_)) | (refine .i64 (by omega) (by omega) ?_) | (refine onSome.intro (idx_fs rfl rfl (by omega) (by omega) (fun _ => rfl)) ?_) | (refine onSome.intro (load_fs rfl (by omega) (by omega) rfl) ?_) | (refine And.intro rfl ?_))
      all_goals first | (exfalso; omega) | skip
      all_goals conv => whnf
      all_goals exact .intro (.int .i64 _) (.inl rfl) rfl (frz_int (by omega))

theorem rAt_ok (g p : List Int) (lo hi : List (List Int)) (hg : g.length ≤ 9000000000000000000) (hp : p.length ≤ 9000000000000000000) (hlo : lo.length ≤ 9000000000000000000) (hhi : hi.length ≤ 9000000000000000000) (v w : Int) (H : Heap) :
    Ev T (.call (.func (.func 160) [] []) [famI g p lo hi, .int .i64 v, .int .i64 w] H) (.call (orErr (atErr g p lo hi v w) (atLo g p lo v w) (atHi g p hi v w)) H) := by
  refine run_pure T160 (orErr_no ..) (nn_cons (famI_no ..) (nn_cons (nn_int _ _) (nn_cons (nn_int _ _) nn_none))) ?_ H
  have hC := rCheck_ok g p lo hi hg hp hlo hhi
  have hz := @famErr_zero g p lo hi
  have hx : ∃ r e, r = orErr (atErr g p lo hi v w) (atLo g p lo v w) (atHi g p hi v w) ∧ e = famErr g p lo hi := ⟨_, _, rfl, rfl⟩
  obtain ⟨r, e, hr, he⟩ := hx
  rw [← hr]
  unfold atErr at hr
  rw [← he] at hC hz hr
  conv => whnf
  refine CallP.pure hC ?_
  conv => whnf
  refine condP.ne (fun h => ?_) (fun h => ?_)
  · conv => whnf
    exact .intro (.tuple [rgI 0 0, .int .i64 e]) (.inl rfl) rfl (frz_eq (by rw [hr, if_pos h, orErr, if_neg h]))
  have fo := hz h
  rw [if_neg (by simpa using h)] at hr
  conv => whnf
  refine CallP.dec (right_ok v w) (fun hv => ?_) (fun hv => ?_)
  rotate_left
  · conv => whnf
    exact .intro (.tuple [rgI 0 0, .int .i64 2]) (.inl rfl) rfl (frz_eq (by rw [hr, if_neg (by unfold Volts at hv; exact hv)]; rfl))
  rw [if_pos (by unfold Volts at hv; exact hv)] at hr
  obtain ⟨v0, v1, w0, w1⟩ := hv
  have hg0 := fo.g0
  have hg1 := fo.g1
  have hp0 := fo.p0
  have hp1 := fo.p1
  have wg := find_ok fo.g (by omega) (by omega) v0 v1
  have wp := find_ok (fo.p.wide (by omega) (by omega)) (by omega) (by omega) (v := w) (by omega) w1
  obtain ⟨xa, xu, xo, sx, kx⟩ := wg
  obtain ⟨ya, yu, yo, sy, ky⟩ := wp
  obtain ⟨x, xb⟩ := sx.plc fo.g fo.g0 (by omega)
  obtain ⟨y, yb⟩ := sy.plc fo.p fo.p0 (by omega)
  have c1 := vat_bounds fo.cl x y
  have c2 := vat_bounds fo.ch x y
  have x0 := x.pos
  have y0 := y.pos
  have o1 : xo * yo ≤ 2000000 * 1000000 := Int.mul_le_mul (by omega) (by omega) (by omega) (by omega)
  have o0 : 0 < xo * yo := Int.mul_pos x0 y0
  rw [← Int.mul_assoc] at c1 c2
  have a1 := (at_spots fo sx sy lo).1
  have a2 := (at_spots fo sx sy hi).2
  have k1 := weighted_ok fo.tl (by omega) (by omega) fo.cl x y (by omega) (by omega)
  have k2 := weighted_ok fo.th (by omega) (by omega) fo.ch x y (by omega) (by omega)
  rw [a1, a2] at hr
  have hV : ∃ V W, V = vat lo xa xu xo ya yu yo ∧ W = vat hi xa xu xo ya yu yo := ⟨_, _, rfl, rfl⟩
  obtain ⟨V, W, hV, hW⟩ := hV
  rw [← hV] at c1 k1 hr
  rw [← hW] at c2 k2 hr
  conv => whnf
  refine CallP.pure kx ?_
  (repeat ((conv => whnf); refine And.intro rfl ?_)); conv => whnf
  refine CallP.pure ky ?_
  repeat' ((conv => whnf); first | (first | refine condP.dec (fun h => ?_) (fun h => ?_) | refine condP.eq (fun h => ?_) (fun h => ?_) | refine condP.ne (fun h => ?_) (fun h => ?_)) | (refine .i64 (by omega) (by omega) ?_) | (refine onSome.intro (idx_fs rfl rfl (by omega) (by omega) (fun _ => rfl)) ?_) | (refine onSome.intro (load_fs rfl (by omega) (by omega) rfl) ?_) | (refine And.intro rfl ?_))
  conv => whnf
  refine CallP.pure k1 ?_
  repeat' ((conv => whnf); first | (first | refine condP.dec (fun h => ?_) (fun h => ?_) | refine condP.eq (fun h => ?_) (fun h => ?_) | refine condP.ne (fun h => ?_) (fun h => ?_)) | (refine .i64 (by omega) (by omega) ?_) | (refine onSome.intro (idx_fs rfl rfl (by omega) (by omega) (fun _ => rfl)) ?_) | (refine onSome.intro (load_fs rfl (by omega) (by omega) rfl) ?_) | (refine And.intro rfl ?_))
  conv => whnf
  refine CallP.pure (down_ok (by omega) (by omega) (by omega) (by omega)) ?_
  repeat' ((conv => whnf); first | (first | refine condP.dec (fun h => ?_) (fun h => ?_) | refine condP.eq (fun h => ?_) (fun h => ?_) | refine condP.ne (fun h => ?_) (fun h => ?_)) | (refine .i64 (by omega) (by omega) ?_) | (refine onSome.intro (idx_fs rfl rfl (by omega) (by omega) (fun _ => rfl)) ?_) | (refine onSome.intro (load_fs rfl (by omega) (by omega) rfl) ?_) | (refine And.intro rfl ?_))
  conv => whnf
  refine CallP.pure k2 ?_
  repeat' ((conv => whnf); first | (first | refine condP.dec (fun h => ?_) (fun h => ?_) | refine condP.eq (fun h => ?_) (fun h => ?_) | refine condP.ne (fun h => ?_) (fun h => ?_)) | (refine .i64 (by omega) (by omega) ?_) | (refine onSome.intro (idx_fs rfl rfl (by omega) (by omega) (fun _ => rfl)) ?_) | (refine onSome.intro (load_fs rfl (by omega) (by omega) rfl) ?_) | (refine And.intro rfl ?_))
  conv => whnf
  refine CallP.pure (up_ok (by omega) (by omega) (by omega) (by omega)) ?_
  repeat' ((conv => whnf); first | (first | refine condP.dec (fun h => ?_) (fun h => ?_) | refine condP.eq (fun h => ?_) (fun h => ?_) | refine condP.ne (fun h => ?_) (fun h => ?_)) | (refine .i64 (by omega) (by omega) ?_) | (refine onSome.intro (idx_fs rfl rfl (by omega) (by omega) (fun _ => rfl)) ?_) | (refine onSome.intro (load_fs rfl (by omega) (by omega) rfl) ?_) | (refine And.intro rfl ?_))
  conv => whnf
  exact .intro (.tuple [rgI _ _, .int .i64 0]) (.inl rfl) rfl (frz_eq (by rw [hr]; rfl))

end Go.Proofs.YtlfaglkkeahamaaGreat.I
