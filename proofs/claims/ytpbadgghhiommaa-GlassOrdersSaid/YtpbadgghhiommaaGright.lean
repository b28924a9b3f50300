/- Right orders of fires: those of a list, one by one. -/
import Derived.Test.YtpbadgghhiommaaGmay
import Derived.Test.YtpbadgghhiommaaGown
set_option linter.unusedVariables false
set_option maxHeartbeats 16000000
set_option linter.unusedSimpArgs false
namespace Go.Proofs.Ytpbadgghhiommaa.I
open Go.Ideal

theorem Has_any (l : List Int) (hl : l.length ≤ 9223372036854775807) (n : Int) : ∃ q : Bool, (q = true ↔ n ∈ l) ∧ ∀ H, Ev T (.call (.func (.func 58) [] []) [sl l, .int .i64 n] H) (.call (.bool q) H) := by
  refine ⟨@decide _ (Classical.propDecidable (n ∈ l)), by simp, fun H => ?_⟩
  refine run_pure T58 (nn_bool _) (nn_cons (sl_no _) (nn_cons (nn_int _ _) nn_none)) ?_ H
  have e1 : (l.map ei).length = l.length := List.length_map ..
  have hx : ∃ r, r = @decide _ (Classical.propDecidable (n ∈ l)) := ⟨_, rfl⟩
  obtain ⟨r, hr⟩ := hx
  rw [← hr]
  have hr1 : r = true ↔ n ∈ l := by rw [hr]; simp
  clear hr
  conv => whnf
  refine loop_rule (X := Nat) (fun i => [(0, sl l), (1, .int .i64 n), (5, .int .i64 i)]) (fun _ => []) (fun i => l.length - i) (fun i => i ≤ l.length ∧ ∀ j : Nat, j < i → at' l (j : Int) ≠ n) 0
    ⟨Nat.zero_le _, fun j hj => by omega⟩ ⟨rfl, rfl, rfl, trivial⟩ rfl (fun _ _ => rfl) (fun i hi => ?_)
  obtain ⟨hi, h0⟩ := hi
  rcases Nat.lt_or_ge i l.length with hlt | hge
  · have hmem : at' l (i : Int) ∈ l := by rw [at'_get hlt]; exact List.getElem_mem hlt
    generalize hv : at' l (i : Int) = v at *
    repeat' ((conv => whnf); first | (refine condP.dec (fun _ => ?_) (fun h => absurd (by omega) h)) | (refine onSome.intro (load_fs (l := l) (enc := ei) (i := (i : Int)) (v := .int .i64 v) rfl (by omega) (by omega) (by rw [hv]; rfl)) ?_) | (first | refine condP.dec (fun h => ?_) (fun h => ?_) | refine condP.eq (fun h => ?_) (fun h => ?_) | refine condP.ne (fun h => ?_) (fun h => ?_)) | (refine .i64 (by omega) (by omega) ?_) | (refine onSome.intro (idx_fs rfl rfl (by omega) (by omega) (fun _ => rfl)) ?_) | (refine onSome.intro (load_fs rfl (by omega) (by omega) rfl) ?_) | (refine And.intro rfl ?_))
    all_goals first | (exfalso; omega) | skip
    all_goals conv => whnf
    all_goals first
      | (refine .done (by simp) ?_
         conv => whnf
         refine .intro (.bool true) (.inl rfl) rfl ?_
         rw [hr1.mpr (by rw [show n = v by omega]; exact hmem)]
         exact .refl _)
      | (have h1 : ∀ j : Nat, j < i + 1 → at' l (j : Int) ≠ n := fun j hj => by
           by_cases q : j = i
           · subst q; omega
           · exact h0 j (by omega)
         exact .more (i + 1) rfl ⟨by omega, h1⟩ (by omega) ⟨rfl, rfl, rfl, trivial⟩ rfl ⟨(sl_no _).inn _, .int _ _, .int _ _, trivial⟩ trivial)
  · obtain rfl : i = l.length := by omega
    conv => whnf
    refine condP.dec (fun h => absurd h (by omega)) (fun _ => ?_)
    conv => whnf
    refine .done (by simp) ?_
    conv => whnf
    refine .intro (.bool false) (.inl rfl) rfl ?_
    have hb : r = false := by
      cases r with
      | false => rfl
      | true =>
        exfalso
        obtain ⟨j, hj, e⟩ := List.mem_iff_getElem.mp (hr1.mp rfl)
        exact h0 j hj (by rw [at'_get hj]; exact e)
    rw [hb]
    exact .refl _
theorem has_any (l : List Int) (hl : l.length ≤ 9223372036854775807) (n : Int) : ∃ q : Bool, (q = true ↔ n ∈ l) ∧ ∀ H, Ev T (.call (.func (.func 129) [] []) [sl l, .int .i64 n] H) (.call (.bool q) H) := by
  refine ⟨@decide _ (Classical.propDecidable (n ∈ l)), by simp, fun H => ?_⟩
  refine run_pure T129 (nn_bool _) (nn_cons (sl_no _) (nn_cons (nn_int _ _) nn_none)) ?_ H
  have e1 : (l.map ei).length = l.length := List.length_map ..
  have hx : ∃ r, r = @decide _ (Classical.propDecidable (n ∈ l)) := ⟨_, rfl⟩
  obtain ⟨r, hr⟩ := hx
  rw [← hr]
  have hr1 : r = true ↔ n ∈ l := by rw [hr]; simp
  clear hr
  conv => whnf
  refine loop_rule (X := Nat) (fun i => [(0, sl l), (1, .int .i64 n), (5, .int .i64 i)]) (fun _ => []) (fun i => l.length - i) (fun i => i ≤ l.length ∧ ∀ j : Nat, j < i → at' l (j : Int) ≠ n) 0
    ⟨Nat.zero_le _, fun j hj => by omega⟩ ⟨rfl, rfl, rfl, trivial⟩ rfl (fun _ _ => rfl) (fun i hi => ?_)
  obtain ⟨hi, h0⟩ := hi
  rcases Nat.lt_or_ge i l.length with hlt | hge
  · have hmem : at' l (i : Int) ∈ l := by rw [at'_get hlt]; exact List.getElem_mem hlt
    generalize hv : at' l (i : Int) = v at *
    repeat' ((conv => whnf); first | (refine condP.dec (fun _ => ?_) (fun h => absurd (by omega) h)) | (refine onSome.intro (load_fs (l := l) (enc := ei) (i := (i : Int)) (v := .int .i64 v) rfl (by omega) (by omega) (by rw [hv]; rfl)) ?_) | (first | refine condP.dec (fun h => ?_) (fun h => ?_) | refine condP.eq (fun h => ?_) (fun h => ?_) | refine condP.ne (fun h => ?_) (fun h => ?_)) | (refine .i64 (by omega) (by omega) ?_) | (refine onSome.intro (idx_fs rfl rfl (by omega) (by omega) (fun _ => rfl)) ?_) | (refine onSome.intro (load_fs rfl (by omega) (by omega) rfl) ?_) | (refine And.intro rfl ?_))
    all_goals first | (exfalso; omega) | skip
    all_goals conv => whnf
    all_goals first
      | (refine .done (by simp) ?_
         conv => whnf
         refine .intro (.bool true) (.inl rfl) rfl ?_
         rw [hr1.mpr (by rw [show n = v by omega]; exact hmem)]
         exact .refl _)
      | (have h1 : ∀ j : Nat, j < i + 1 → at' l (j : Int) ≠ n := fun j hj => by
           by_cases q : j = i
           · subst q; omega
           · exact h0 j (by omega)
         exact .more (i + 1) rfl ⟨by omega, h1⟩ (by omega) ⟨rfl, rfl, rfl, trivial⟩ rfl ⟨(sl_no _).inn _, .int _ _, .int _ _, trivial⟩ trivial)
  · obtain rfl : i = l.length := by omega
    conv => whnf
    refine condP.dec (fun h => absurd h (by omega)) (fun _ => ?_)
    conv => whnf
    refine .done (by simp) ?_
    conv => whnf
    refine .intro (.bool false) (.inl rfl) rfl ?_
    have hb : r = false := by
      cases r with
      | false => rfl
      | true =>
        exfalso
        obtain ⟨j, hj, e⟩ := List.mem_iff_getElem.mp (hr1.mp rfl)
        exact h0 j hj (by rw [at'_get hj]; exact e)
    rw [hb]
    exact .refl _

theorem next_any (l : List Fire) (hF : FOk l) (ha : ∀ i : Nat, i < l.length → (at' l (i : Int)).aft.length ≤ 9000000000000000000) (bf : List Int) (hbl : bf.length ≤ 100) (hin : ∀ b ∈ bf, 0 ≤ b ∧ b < l.length) (i : Nat) (h1 : i < l.length) : ∃ q : Bool, (q = true ↔ NextP l bf i) ∧
    ∀ H, Ev T (.call (.func (.func 104) [] []) [frsl l, sl bf, .int .i64 (i : Int)] H) (.call (.bool q) H) := by
  refine ⟨@decide _ (Classical.propDecidable (NextP l bf i)), by simp, fun H => ?_⟩
  refine run_pure T104 (nn_bool _) (nn_cons (frsl_no _) (nn_cons (sl_no _) (nn_cons (nn_int _ _) nn_none))) ?_ H
  have hlen := hF.len
  have e1 : (l.map frR).length = l.length := List.length_map ..
  have e3 : (bf.map ei).length = bf.length := List.length_map ..
  have hx : ∃ r, r = @decide _ (Classical.propDecidable (NextP l bf i)) := ⟨_, rfl⟩
  obtain ⟨r, hr⟩ := hx
  rw [← hr]
  have hr1 : r = true ↔ NextP l bf i := by rw [hr]; simp
  clear hr
  have no : ¬ NextP l bf i → r = false := fun h => by
    cases r with
    | false => rfl
    | true => exact absurd (hr1.mp rfl) h
  have haf := ha i h1
  have hP : NextP l bf i ↔ (∀ k : Nat, k < (at' l (i : Int)).aft.length → at' (at' l (i : Int)).aft (k : Int) ∈ bf) ∧ (∀ b ∈ bf, (at' l (i : Int)).heat ≤ (at' l b).hold) ∧ (i : Int) ∉ bf := Iff.rfl
  generalize hf : at' l (i : Int) = f at *
  have e2 : (f.aft.map ei).length = f.aft.length := List.length_map ..
  conv => whnf
  refine loop_rule (X := Nat) (fun k => [(0, frsl l), (1, sl bf), (2, .int .i64 (i : Int)), (7, .int .i64 k)]) (fun _ => []) (fun k => f.aft.length - k) (fun k => k ≤ f.aft.length ∧ ∀ j : Nat, j < k → at' f.aft (j : Int) ∈ bf) 0
    ⟨Nat.zero_le _, fun j hj => by omega⟩ ⟨rfl, rfl, rfl, rfl, trivial⟩ rfl (fun _ _ => rfl) (fun k hk => ?_)
  obtain ⟨hk, hall⟩ := hk
  rcases Nat.lt_or_ge k f.aft.length with hlt | hge
  · have hnext : at' f.aft (k : Int) ∈ bf → ∀ j : Nat, j < k + 1 → at' f.aft (j : Int) ∈ bf := fun h j hj => by
      by_cases w : j = k
      · subst w; exact h
      · exact hall j (by omega)
    have hstop : at' f.aft (k : Int) ∉ bf → r = false := fun h => no (fun w => h ((hP.mp w).1 k hlt))
    generalize hn : at' f.aft (k : Int) = n at *
    have q := has_any bf (by omega) n
    obtain ⟨w, hw, kw⟩ := q
    cases w
    all_goals repeat' ((conv => whnf); first | (refine condP.dec (fun _ => ?_) (fun h => absurd (by omega) h)) | (refine onSome.intro (load_fs (l := l) (enc := frR) (i := (i : Int)) (v := sl f.aft) rfl (by omega) (by omega) (by rw [hf]; rfl)) ?_) | (refine onSome.intro (load_fs (l := f.aft) (enc := ei) (i := (k : Int)) (v := .int .i64 n) rfl (by omega) (by omega) (by rw [hn]; rfl)) ?_) | (refine CallP.pure kw ?_) | (first | refine condP.dec (fun h => ?_) (fun h => ?_) | refine condP.eq (fun h => ?_) (fun h => ?_) | refine condP.ne (fun h => ?_) (fun h => ?_)) | (refine .i64 (by omega) (by omega) ?_) | (refine onSome.intro (idx_fs rfl rfl (by omega) (by omega) (fun _ => rfl)) ?_) | (refine onSome.intro (load_fs rfl (by omega) (by omega) rfl) ?_) | (refine And.intro rfl ?_))
    all_goals first | (exfalso; omega) | skip
    all_goals conv => whnf
    · refine .done (by simp) ?_
      conv => whnf
      refine .intro (.bool false) (.inl rfl) rfl ?_
      rw [hstop (fun z => by have := hw.mpr z; cases this)]
      exact .refl _
    · exact .more (k + 1) rfl ⟨by omega, hnext (hw.mp rfl)⟩ (by omega) ⟨rfl, rfl, rfl, rfl, trivial⟩ rfl ⟨(frsl_no _).inn _, (sl_no _).inn _, .int _ _, .int _ _, trivial⟩ trivial
  · obtain rfl : k = f.aft.length := by omega
    repeat' ((conv => whnf); first | (refine condP.dec (fun h => absurd h (by omega)) (fun _ => ?_)) | (refine onSome.intro (load_fs (l := l) (enc := frR) (i := (i : Int)) (v := sl f.aft) rfl (by omega) (by omega) (by rw [hf]; rfl)) ?_) | (first | refine condP.dec (fun h => ?_) (fun h => ?_) | refine condP.eq (fun h => ?_) (fun h => ?_) | refine condP.ne (fun h => ?_) (fun h => ?_)) | (refine .i64 (by omega) (by omega) ?_) | (refine onSome.intro (idx_fs rfl rfl (by omega) (by omega) (fun _ => rfl)) ?_) | (refine onSome.intro (load_fs rfl (by omega) (by omega) rfl) ?_) | (refine And.intro rfl ?_))
    refine .done (by simp) ?_
    conv => whnf
    refine loop_rule (X := Nat) (fun k => [(0, frsl l), (1, sl bf), (2, .int .i64 (i : Int)), (8, .int .i64 k)]) (fun _ => []) (fun k => bf.length - k) (fun k => k ≤ bf.length ∧ ∀ j : Nat, j < k → f.heat ≤ (at' l (at' bf (j : Int))).hold) 0
      ⟨Nat.zero_le _, fun j hj => by omega⟩ ⟨rfl, rfl, rfl, rfl, trivial⟩ rfl (fun _ _ => rfl) (fun k hk => ?_)
    obtain ⟨hk, hal2⟩ := hk
    rcases Nat.lt_or_ge k bf.length with hlt | hge
    · have hmem : at' bf (k : Int) ∈ bf := by rw [at'_get hlt]; exact List.getElem_mem hlt
      have hrg := hin _ hmem
      have hnext : f.heat ≤ (at' l (at' bf (k : Int))).hold → ∀ j : Nat, j < k + 1 → f.heat ≤ (at' l (at' bf (j : Int))).hold := fun h j hj => by
        by_cases w : j = k
        · subst w; exact h
        · exact hal2 j (by omega)
      have hstop : ¬ f.heat ≤ (at' l (at' bf (k : Int))).hold → r = false := fun h' => no (fun w => h' ((hP.mp w).2.1 _ hmem))
      generalize hg : at' bf (k : Int) = b at *
      generalize hh : at' l b = g at *
      repeat' ((conv => whnf); first | (refine condP.dec (fun _ => ?_) (fun h => absurd (by omega) h)) | (refine onSome.intro (load_fs (l := l) (enc := frR) (i := (i : Int)) (v := .int .i64 f.heat) rfl (by omega) (by omega) (by rw [hf]; rfl)) ?_) | (refine onSome.intro (load_fs (l := bf) (enc := ei) (i := (k : Int)) (v := .int .i64 b) rfl (by omega) (by omega) (by rw [hg]; rfl)) ?_) | (refine onSome.intro (load_fs (l := l) (enc := frR) (i := b) (v := .int .i64 g.hold) rfl (by omega) (by omega) (by rw [hh]; rfl)) ?_) | (first | refine condP.dec (fun h => ?_) (fun h => ?_) | refine condP.eq (fun h => ?_) (fun h => ?_) | refine condP.ne (fun h => ?_) (fun h => ?_)) | (refine .i64 (by omega) (by omega) ?_) | (refine onSome.intro (idx_fs rfl rfl (by omega) (by omega) (fun _ => rfl)) ?_) | (refine onSome.intro (load_fs rfl (by omega) (by omega) rfl) ?_) | (refine And.intro rfl ?_))
      all_goals first | (exfalso; omega) | skip
      all_goals conv => whnf
      all_goals first
        | exact .more (k + 1) rfl ⟨by omega, hnext (by omega)⟩ (by omega) ⟨rfl, rfl, rfl, rfl, trivial⟩ rfl ⟨(frsl_no _).inn _, (sl_no _).inn _, .int _ _, .int _ _, trivial⟩ trivial
        | (refine .done (by simp) ?_
           conv => whnf
           refine .intro (.bool false) (.inl rfl) rfl ?_
           rw [hstop (by omega)]
           exact .refl _)
    · obtain rfl : k = bf.length := by omega
      have yes : (i : Int) ∉ bf → r = true := fun w => hr1.mpr (hP.mpr ⟨fun k hk => hall k hk, fun b hb => by
        obtain ⟨j, hj, e⟩ := List.mem_iff_getElem.mp hb
        have := hal2 j hj
        rwa [at'_get hj, e] at this, w⟩)
      have hstop : (i : Int) ∈ bf → r = false := fun h => no (fun w => (hP.mp w).2.2 h)
      have q := has_any bf (by omega) i
      obtain ⟨w, hw, kw⟩ := q
      cases w
      all_goals repeat' ((conv => whnf); first | (refine condP.dec (fun h => absurd h (by omega)) (fun _ => ?_)) | (first | refine condP.dec (fun h => ?_) (fun h => ?_) | refine condP.eq (fun h => ?_) (fun h => ?_) | refine condP.ne (fun h => ?_) (fun h => ?_)) | (refine .i64 (by omega) (by omega) ?_) | (refine onSome.intro (idx_fs rfl rfl (by omega) (by omega) (fun _ => rfl)) ?_) | (refine onSome.intro (load_fs rfl (by omega) (by omega) rfl) ?_) | (refine And.intro rfl ?_))
      all_goals refine .done (by simp) ?_
      all_goals repeat' ((conv => whnf); first | (refine CallP.pure kw ?_) | (first | refine condP.dec (fun h => ?_) (fun h => ?_) | refine condP.eq (fun h => ?_) (fun h => ?_) | refine condP.ne (fun h => ?_) (fun h => ?_)) | (refine .i64 (by omega) (by omega) ?_) | (refine onSome.intro (idx_fs rfl rfl (by omega) (by omega) (fun _ => rfl)) ?_) | (refine onSome.intro (load_fs rfl (by omega) (by omega) rfl) ?_) | (refine And.intro rfl ?_))
      all_goals conv => whnf
      · refine .intro (.bool true) (.inl rfl) rfl ?_
        rw [yes (fun z => by have := hw.mpr z; cases this)]
        exact .refl _
      · refine .intro (.bool false) (.inl rfl) rfl ?_
        rw [hstop (hw.mp rfl)]
        exact .refl _

end Go.Proofs.Ytpbadgghhiommaa.I
