/- Families that are compared. -/
import Derived.Test.YtbomgfbfnkfamaaKcof
set_option linter.unusedVariables false
set_option maxHeartbeats 4000000
set_option linter.unusedSimpArgs false
namespace Go.Proofs.Ytbomgfbfnkfamaa.I
open Go.Ideal

theorem OwnF_ok (l : List Int) (hl : l.length ≤ 1000000) (H : Heap) : Ev T (.call (.func (.func 88) [] []) [sl l] H) (.call (sl l) H) := by
  refine run_pure T88 (sl_no _) (nn_cons (sl_no _) nn_none) ?_ H
  cases l with
  | nil =>
    conv => whnf
    refine .none rfl rfl rfl ?_
    conv => whnf
    exact .intro (.mslice 0 0 0 0 true) (.inl rfl) rfl (.ints (sz := 1) (l := []) rfl (fun _ _ h => by cases h) rfl)
  | cons a l =>
    conv => whnf
    refine .full rfl rfl rfl rfl (by simp) ei_len ei_ok (List.nil_append _) (List.length_map ..) (by simp only [List.length_cons] at hl ⊢; omega) ?_
    conv => whnf
    exact .intro (.mslice 1 0 (l.length + 1) (l.length + 1) false) (.inl rfl) rfl (.ints (sz := 1) rfl (fun _ _ h => by cases h) rfl)

theorem sameInts_ok (a b : List Int) (ha : a.length ≤ 9223372036854775807) (H : Heap) : Ev T (.call (.func (.func 99) [] []) [sl a, sl b] H) (.call (.bool (decide (a = b))) H) := by
  refine run_pure T99 (nn_bool _) (nn_cons (sl_no _) (nn_cons (sl_no _) nn_none)) ?_ H
  have hx : ∃ r, r = decide (a = b) := ⟨_, rfl⟩
  obtain ⟨r, hr⟩ := hx
  rw [← hr]
  have e1 : (a.map ei).length = a.length := List.length_map ..
  have e2 : (b.map ei).length = b.length := List.length_map ..
  conv => whnf
  refine condP.ne (fun h => ?_) (fun h => ?_)
  · have hS : r = false := by rw [hr]; exact decide_eq_false (fun q => h (by rw [q]))
    conv => whnf
    exact .intro (.bool false) (.inl rfl) rfl (frz_bool hS.symm)
  · have hl : a.length = b.length := by omega
    conv => whnf
    refine loop_rule (X := Nat) (fun i => [(0, sl a), (1, sl b), (5, .int .i64 i)]) (fun _ => []) (fun i => a.length - i) (fun i => i ≤ a.length ∧ ∀ (j : Nat), j < i → nth a j = nth b j) 0
      ⟨Nat.zero_le _, fun j h => by omega⟩ ⟨rfl, rfl, rfl, trivial⟩ rfl (fun _ _ => rfl) (fun i hi => ?_)
    obtain ⟨hi, hall⟩ := hi
    conv => whnf
    refine condP.dec (fun hlt => ?_) (fun hlt => ?_)
    · conv => whnf
      refine onSome.intro (idx_fs rfl rfl (by omega) (by omega) (fun _ => rfl)) ?_
      conv => whnf
      refine onSome.intro (load_fs (i := (i : Int)) (v := .int .i64 (nth a i)) rfl (by omega) (by omega) rfl) ?_
      conv => whnf
      refine onSome.intro (idx_fs rfl rfl (by omega) (by omega) (fun _ => rfl)) ?_
      conv => whnf
      refine onSome.intro (load_fs (i := (i : Int)) (v := .int .i64 (nth b i)) rfl (by omega) (by omega) rfl) ?_
      conv => whnf
      refine condP.ne (fun h => ?_) (fun h => ?_)
      · have hS : r = false := by rw [hr]; exact decide_eq_false (fun q => h (by rw [q]))
        conv => whnf
        refine .done (by simp) ?_
        conv => whnf
        exact .intro (.bool false) (.inl rfl) rfl (frz_bool hS.symm)
      · conv => whnf
        refine .i64 (by omega) (by omega) ?_
        conv => whnf
        refine .more (i + 1) rfl ⟨by omega, fun j h1 => ?_⟩ (by omega) ⟨rfl, rfl, rfl, trivial⟩ rfl ⟨(sl_no _).inn _, (sl_no _).inn _, .int _ _, trivial⟩ trivial
        by_cases e : j = i
        · subst e; exact h
        · exact hall j (by omega)
    · have hS : r = true := by
        rw [hr]
        refine decide_eq_true (List.ext_getElem hl (fun j h1 h2 => ?_))
        have := hall j (by omega)
        unfold nth at this
        rwa [List.getD_eq_getElem?_getD, List.getD_eq_getElem?_getD, List.getElem?_eq_getElem h1, List.getElem?_eq_getElem h2] at this
      conv => whnf
      refine .done (by simp) ?_
      conv => whnf
      exact .intro (.bool true) (.inl rfl) rfl (frz_bool hS.symm)
theorem sameTable_ok (a b : List (List Int)) (ha : a.length ≤ 9223372036854775807) (hr' : ∀ r ∈ a, r.length ≤ 9223372036854775807) (H : Heap) : Ev T (.call (.func (.func 100) [] []) [sll a, sll b] H) (.call (.bool (decide (a = b))) H) := by
  refine run_pure T100 (nn_bool _) (nn_cons (sll_no _) (nn_cons (sll_no _) nn_none)) ?_ H
  have hx : ∃ r, r = decide (a = b) := ⟨_, rfl⟩
  obtain ⟨r, hr⟩ := hx
  rw [← hr]
  have e1 : (a.map el).length = a.length := List.length_map ..
  have e2 : (b.map el).length = b.length := List.length_map ..
  conv => whnf
  refine condP.ne (fun h => ?_) (fun h => ?_)
  · have hS : r = false := by rw [hr]; exact decide_eq_false (fun q => h (by rw [q]))
    conv => whnf
    exact .intro (.bool false) (.inl rfl) rfl (frz_bool hS.symm)
  · have hl : a.length = b.length := by omega
    conv => whnf
    refine loop_rule (X := Nat) (fun i => [(0, sll a), (1, sll b), (5, .int .i64 i)]) (fun _ => []) (fun i => a.length - i) (fun i => i ≤ a.length ∧ ∀ (j : Nat), j < i → a.getD j [] = b.getD j []) 0
      ⟨Nat.zero_le _, fun j h => by omega⟩ ⟨rfl, rfl, rfl, trivial⟩ rfl (fun _ _ => rfl) (fun i hi => ?_)
    obtain ⟨hi, hall⟩ := hi
    conv => whnf
    refine condP.dec (fun hlt => ?_) (fun hlt => ?_)
    · have hrow : (a.getD i []).length ≤ 9223372036854775807 := by
        rw [List.getD_eq_getElem?_getD, List.getElem?_eq_getElem (by omega), Option.getD_some]
        exact hr' _ (List.getElem_mem _)
      conv => whnf
      refine onSome.intro (idx_fs rfl rfl (by omega) (by omega) (fun _ => rfl)) ?_
      conv => whnf
      refine onSome.intro (load_fs (i := (i : Int)) (v := sl (a.getD i [])) rfl (by omega) (by omega) rfl) ?_
      conv => whnf
      refine onSome.intro (idx_fs rfl rfl (by omega) (by omega) (fun _ => rfl)) ?_
      conv => whnf
      refine onSome.intro (load_fs (i := (i : Int)) (v := sl (b.getD i [])) rfl (by omega) (by omega) rfl) ?_
      conv => whnf
      refine CallP.dec (sameInts_ok _ _ hrow) (fun h => ?_) (fun h => ?_)
      · conv => whnf
        refine .i64 (by omega) (by omega) ?_
        conv => whnf
        refine .more (i + 1) rfl ⟨by omega, fun j h1 => ?_⟩ (by omega) ⟨rfl, rfl, rfl, trivial⟩ rfl ⟨(sll_no _).inn _, (sll_no _).inn _, .int _ _, trivial⟩ trivial
        by_cases e : j = i
        · subst e; exact h
        · exact hall j (by omega)
      · have hS : r = false := by rw [hr]; exact decide_eq_false (fun q => h (by rw [q]))
        conv => whnf
        refine .done (by simp) ?_
        conv => whnf
        exact .intro (.bool false) (.inl rfl) rfl (frz_bool hS.symm)
    · have hS : r = true := by
        rw [hr]
        refine decide_eq_true (List.ext_getElem hl (fun j h1 h2 => ?_))
        have := hall j (by omega)
        rwa [List.getD_eq_getElem?_getD, List.getD_eq_getElem?_getD, List.getElem?_eq_getElem h1, List.getElem?_eq_getElem h2] at this
      conv => whnf
      refine .done (by simp) ?_
      conv => whnf
      exact .intro (.bool true) (.inl rfl) rfl (frz_bool hS.symm)
/-- What a list of a family may be as long as. -/
structure FamLen (g p : List Int) (lo hi : List (List Int)) : Prop where
  gl : g.length ≤ 9223372036854775807
  pl : p.length ≤ 9223372036854775807
  ll : lo.length ≤ 9223372036854775807
  lh : hi.length ≤ 9223372036854775807
  rl : ∀ r ∈ lo, r.length ≤ 9223372036854775807
  rh : ∀ r ∈ hi, r.length ≤ 9223372036854775807
theorem rSame_ok (g p : List Int) (lo hi : List (List Int)) (g' p' : List Int) (lo' hi' : List (List Int)) (h : FamLen g p lo hi) (H : Heap) :
    Ev T (.call (.func (.func 40) [] []) [famI g p lo hi, famI g' p' lo' hi'] H) (.call (.bool (decide (g = g' ∧ p = p' ∧ lo = lo' ∧ hi = hi'))) H) := by
  refine run_pure T40 (nn_bool _) (nn_cons (famI_no ..) (nn_cons (famI_no ..) nn_none)) ?_ H
  have hx : ∃ r, r = decide (g = g' ∧ p = p' ∧ lo = lo' ∧ hi = hi') := ⟨_, rfl⟩
  obtain ⟨r, hr⟩ := hx
  rw [← hr]
  conv => whnf
  refine CallP.dec (sameInts_ok _ _ h.gl) (fun h1 => ?_) (fun h1 => ?_)
  rotate_left
  · conv => whnf
    exact .intro (.bool false) (.inl rfl) rfl (frz_bool (by rw [hr]; exact (decide_eq_false (fun q => h1 q.1)).symm))
  conv => whnf
  refine CallP.dec (sameInts_ok _ _ h.pl) (fun h2 => ?_) (fun h2 => ?_)
  rotate_left
  · conv => whnf
    exact .intro (.bool false) (.inl rfl) rfl (frz_bool (by rw [hr]; exact (decide_eq_false (fun q => h2 q.2.1)).symm))
  conv => whnf
  refine CallP.dec (sameTable_ok _ _ h.ll h.rl) (fun h3 => ?_) (fun h3 => ?_)
  rotate_left
  · conv => whnf
    exact .intro (.bool false) (.inl rfl) rfl (frz_bool (by rw [hr]; exact (decide_eq_false (fun q => h3 q.2.2.1)).symm))
  conv => whnf
  refine CallP.dec (sameTable_ok _ _ h.lh h.rh) (fun h4 => ?_) (fun h4 => ?_)
  · conv => whnf
    exact .intro (.bool true) (.inl rfl) rfl (frz_bool (by rw [hr]; exact (decide_eq_true ⟨h1, h2, h3, h4⟩).symm))
  · conv => whnf
    exact .intro (.bool false) (.inl rfl) rfl (frz_bool (by rw [hr]; exact (decide_eq_false (fun q => h4 q.2.2.2)).symm))

theorem tabOf_len (F : Int → Int → Int) (g p : List Int) : (tabOf F g p).length = g.length := by simp [tabOf]
theorem tabOf_rows (F : Int → Int → Int) (g p : List Int) : ∀ r ∈ tabOf F g p, r.length = p.length := by
  intro r hr
  unfold tabOf at hr
  obtain ⟨a, _, rfl⟩ := List.mem_map.mp hr
  simp
/-- The program's family of a law is the reference's. -/
theorem of_same (p0 p1 g0 g1 s0 s1 f0 f1 q0 q1 : Int) (g p : List Int) (hg : g.length ≤ 50) (hp : p.length ≤ 50) : ∃ (g' p' : List Int) (lo hi : List (List Int)) (E : Int), FamLen g' p' lo hi ∧
    (∀ H, Ev T (.call (.func (.func 52) [] []) [lawI p0 p1 g0 g1 s0 s1 f0 f1 q0 q1, sl g, sl p] H) (.call (.tuple [famI g' p' lo hi, .int .i64 E]) H)) ∧
    (∀ H, Ev T (.call (.func (.func 66) [] []) [lawI p0 p1 g0 g1 s0 s1 f0 f1 q0 q1, sl g, sl p] H) (.call (.tuple [famI g' p' lo hi, .int .i64 E]) H)) := by
  have h1 := fun H => Of_ok (p0 := p0) (p1 := p1) (g0 := g0) (g1 := g1) (s0 := s0) (s1 := s1) (f0 := f0) (f1 := f1) (q0 := q0) (q1 := q1) g p (by omega) (by omega) H
  have h2 := fun H => rOf_ok (p0 := p0) (p1 := p1) (g0 := g0) (g1 := g1) (s0 := s0) (s1 := s1) (f0 := f0) (f1 := f1) (q0 := q0) (q1 := q1) g p (by omega) (by omega) H
  have l1 := tabOf_len (cLo p0 g1 s0 f0 q0) g p
  have l2 := tabOf_len (cHi p1 g0 s1 f1 q1) g p
  have r1 := tabOf_rows (cLo p0 g1 s0 f0 q0) g p
  have r2 := tabOf_rows (cHi p1 g0 s1 f1 q1) g p
  generalize tabOf (cLo p0 g1 s0 f0 q0) g p = lo at *
  generalize tabOf (cHi p1 g0 s1 f1 q1) g p = hi at *
  generalize ofErr (lawErr p0 p1 g0 g1 s0 s1 f0 f1 q0 q1) g p = e at *
  unfold ofRes at h1 h2
  split at h1
  · rename_i he
    simp only [he, if_true] at h2
    exact ⟨g, p, lo, hi, 0, ⟨by omega, by omega, by omega, by omega, fun r hr => by rw [r1 r hr]; omega, fun r hr => by rw [r2 r hr]; omega⟩, h1, h2⟩
  · rename_i he
    simp only [he, if_false] at h2
    exact ⟨[], [], [], [], e, ⟨by simp, by simp, by simp, by simp, fun r hr => by simp at hr, fun r hr => by simp at hr⟩, h1, h2⟩

end Go.Proofs.Ytbomgfbfnkfamaa.I
