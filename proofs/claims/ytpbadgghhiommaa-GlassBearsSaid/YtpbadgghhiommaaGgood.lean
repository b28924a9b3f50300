/- Fires that are made of numbers are valid. -/
import Derived.Test.YtpbadgghhiommaaGfires
import Derived.Test.YtpbadgghhiommaaGmay
set_option linter.unusedVariables false
set_option maxHeartbeats 16000000
set_option linter.unusedSimpArgs false
namespace Go.Proofs.Ytpbadgghhiommaa.I
open Go.Ideal

theorem at_snoc_lt {α : Type} [Inhabited α] {l : List α} {a : α} {k : Nat} (h : k < l.length) : at' (l ++ [a]) (k : Int) = at' l (k : Int) := by
  rw [at'_get (show k < (l ++ [a]).length by simp; omega), at'_get h, List.getElem_append_left h]
theorem at_snoc_eq {α : Type} [Inhabited α] {l : List α} {a : α} : at' (l ++ [a]) (l.length : Int) = a := by
  rw [at'_get (show l.length < (l ++ [a]).length by simp), List.getElem_append_right (Nat.le_refl _)]
  simp
theorem at_snoc_pred {α : Type} [Inhabited α] {l : List α} {a : α} {k : Nat} (h : k < l.length + 1) (h0 : 0 < k) : at' (l ++ [a]) ((k : Int) - 1) = at' l ((k : Int) - 1) := by
  rw [show (k : Int) - 1 = ((k - 1 : Nat) : Int) by omega]
  exact at_snoc_lt (by omega)
/-- Numbers that ascend, below a bound. -/
def AscB (n : Int) (af : List Int) : Prop := ∀ k : Nat, k < af.length → 0 ≤ at' af (k : Int) ∧ at' af (k : Int) < n ∧ (0 < k → at' af ((k : Int) - 1) < at' af (k : Int))
theorem ascB_nil (n : Int) : AscB n [] := fun k h => by simp at h
theorem ascB_mono {n m : Int} {af : List Int} (h : AscB n af) (hm : n ≤ m) : AscB m af := fun k hk => ⟨(h k hk).1, by have := (h k hk).2.1; omega, (h k hk).2.2⟩
theorem ascB_snoc {n : Nat} {af : List Int} (h : AscB n af) : AscB (n + 1) (af ++ [(n : Int)]) := fun k hk => by
  simp only [List.length_append, List.length_singleton] at hk
  by_cases q : k < af.length
  · rw [at_snoc_lt q]
    have h1 := h k q
    refine ⟨h1.1, by omega, fun h0 => ?_⟩
    rw [at_snoc_pred hk h0]
    exact h1.2.2 h0
  · obtain rfl : k = af.length := by omega
    rw [at_snoc_eq]
    refine ⟨by omega, by omega, fun h0 => ?_⟩
    rw [at_snoc_pred hk h0]
    have h1 := h (af.length - 1) (by omega)
    rw [show ((af.length - 1 : Nat) : Int) = (af.length : Int) - 1 by omega] at h1
    exact h1.2.1
/-- A fire is valid, among n, the i-th. -/
structure FireOk (n i : Int) (f : Fire) : Prop where
  heat : 0 ≤ f.heat ∧ f.heat ≤ 2000
  hold : 0 ≤ f.hold ∧ f.hold ≤ 2000
  aft : AscB n f.aft
  other : ∀ k : Nat, k < f.aft.length → at' f.aft (k : Int) ≠ i
theorem fires_iff (l : List Fire) : firesE l = 0 ↔ l.length ≤ 8 ∧ ∀ i : Nat, i < l.length → FireOk l.length i (at' l (i : Int)) := by
  unfold firesE
  split
  · constructor
    · intro h; cases h
    · intro h; omega
  · rw [firstErr_zero]
    constructor
    · refine fun h => ⟨by omega, fun i hi => ?_⟩
      have a := h i hi
      unfold fireE at a
      split at a
      · cases a
      · rename_i q
        unfold Outs at q
        have b := firstErr_zero.mp a
        refine ⟨by omega, by omega, fun k hk => ?_, fun k hk => ?_⟩
        · have c := b k hk
          unfold aftE at c
          split at c
          · cases c
          · rename_i q
            unfold Outs at q
            split at c
            · cases c
            · split at c
              · cases c
              · omega
        · have c := b k hk
          unfold aftE at c
          split at c
          · cases c
          · split at c
            · cases c
            · assumption
    · rintro ⟨h, ha⟩ i hi
      have f := ha i hi
      unfold fireE
      rw [if_neg (by unfold Outs; have := f.heat; have := f.hold; omega)]
      refine firstErr_zero.mpr fun k hk => ?_
      have g := f.aft k hk
      unfold aftE
      rw [if_neg (by unfold Outs; omega), if_neg (f.other k hk), if_neg (by omega)]
theorem all_snoc2 {N : Int} {l : List Fire} {f : Fire} (h : ∀ i : Nat, i < l.length → FireOk N i (at' l (i : Int))) (hf : FireOk N l.length f) : ∀ i : Nat, i < (l ++ [f]).length → FireOk N i (at' (l ++ [f]) (i : Int)) := fun i hi => by
  simp only [List.length_append, List.length_singleton] at hi
  by_cases q : i < l.length
  · rw [at_snoc_lt q]; exact h i q
  · obtain rfl : i = l.length := by omega
    rw [at_snoc_eq]; exact hf
theorem FiresOf_good (s most : Int) (h0 : 0 ≤ most) (h1 : most ≤ 20) : ∃ (l : List Fire) (s' : Int), (l.length : Int) ≤ most ∧ (∀ i : Nat, i < l.length → FireOk l.length i (at' l (i : Int))) ∧
    ∀ (H : Heap) (n : Nat), H n = S1 s → Ev T (.call (.func (.func 24) [] []) [.ptr n 0 0, .int .i64 most] H) (.call (frsl l) (H.set n (S1 s'))) := by
  have key := run_one_some T24 (i := 0) (off := 0) (args := [.int .i64 most]) (s := S1 s) (P := fun v z => ∃ (l : List Fire) (s' : Int), v = frsl l ∧ z = S1 s' ∧ (l.length : Int) ≤ most ∧ ∀ i : Nat, i < l.length → FireOk l.length i (at' l (i : Int)))
    (nn_cons (nn_int _ _) nn_none) (S1_no _) (by
    have q := Upto_any s (most + 1) (by omega)
    obtain ⟨N, s1, N0, N1, k0⟩ := q
    repeat' ((conv => whnf); first | (refine CallP.one (fun H hb => k0 H _ hb) rfl ?_) | (first | refine condP.dec (fun h => ?_) (fun h => ?_) | refine condP.eq (fun h => ?_) (fun h => ?_) | refine condP.ne (fun h => ?_) (fun h => ?_)) | (refine .i64 (by omega) (by omega) ?_) | (refine onSome.intro (idx_fs rfl rfl (by omega) (by omega) (fun _ => rfl)) ?_) | (refine onSome.intro (load_fs rfl (by omega) (by omega) rfl) ?_) | (refine And.intro rfl ?_))
    conv => whnf
    refine .pad 1 ?_
    refine loop_grow (X := Nat × List Fire × Int) (fun x => [(0, .ptr 0 0 0), (5, omsl 1 x.2.1), (6, .int .i64 N), (7, .int .i64 x.1)]) (fun x => [S1 x.2.2, lsS 3 frR x.2.1])
      (fun x => N.toNat - x.1) (fun x => (x.1 : Int) ≤ N ∧ x.2.1.length = x.1 ∧ ∀ i : Nat, i < x.2.1.length → FireOk N i (at' x.2.1 (i : Int))) (0, [], s1) ⟨N0, rfl, fun i hi => by simp at hi⟩ ⟨rfl, rfl, rfl, rfl, trivial⟩ rfl (fun x hx => ?_)
    obtain ⟨i, out, s⟩ := x
    obtain ⟨hi, hl, hall⟩ := hx
    dsimp only at hi hl hall ⊢
    by_cases hlt : (i : Int) < N
    · have y := Upto_any s 9 (by omega)
      obtain ⟨a, t1, a0, a1, j1⟩ := y
      have y := Upto_any t1 14 (by omega)
      obtain ⟨c, t2, c0, c1, j2⟩ := y
      repeat' ((conv => whnf); first | (refine force_om ?_) | (refine forceC_om ?_) | (refine condP.dec (fun _ => ?_) (fun h => absurd (by omega) h)) | (refine CallP.one (fun H hb => j1 H _ hb) rfl ?_) | (refine CallP.one (fun H hb => j2 H _ hb) rfl ?_) | (first | refine condP.dec (fun h => ?_) (fun h => ?_) | refine condP.eq (fun h => ?_) (fun h => ?_) | refine condP.ne (fun h => ?_) (fun h => ?_)) | (refine .i64 (by omega) (by omega) ?_) | (refine onSome.intro (idx_fs rfl rfl (by omega) (by omega) (fun _ => rfl)) ?_) | (refine onSome.intro (load_fs rfl (by omega) (by omega) rfl) ?_) | (refine And.intro rfl ?_))
      conv => whnf
      refine .pad 1 ?_
      refine loop_grow (X := Nat × List Int × Int) (fun x => [(0, .ptr 0 0 0), (5, omsl 1 out), (6, .int .i64 N), (7, .int .i64 i), (8, .ptr 2 0 0), (9, .int .i64 x.1)]) (fun x => [S1 x.2.2, lsS 3 frR out, .live 3 [[.int .i64 (900 + 10 * a), .int .i64 (900 + 10 * c), omsl 3 x.2.1]], lsS 1 ei x.2.1])
        (fun x => i - x.1) (fun x => x.1 ≤ i ∧ x.2.1.length ≤ x.1 ∧ AscB x.1 x.2.1) (0, [], t2) ⟨Nat.zero_le _, Nat.le_refl _, ascB_nil _⟩ ⟨rfl, rfl, rfl, rfl, rfl, rfl, trivial⟩ rfl (fun x hx => ?_)
      obtain ⟨k, af, t⟩ := x
      obtain ⟨hk, hal, hasc⟩ := hx
      dsimp only at hk hal hasc ⊢
      by_cases hki : k < i
      · have y := One_any t 6 (by omega)
        obtain ⟨w, t3, j3⟩ := y
        cases w
        · repeat' ((conv => whnf); first | (refine force_om ?_) | (refine forceC_om ?_) | (refine condP.dec (fun _ => ?_) (fun h => absurd (by omega) h)) | (refine CallP.one (fun H hb => j3 H _ hb) rfl ?_) | (first | refine condP.dec (fun h => ?_) (fun h => ?_) | refine condP.eq (fun h => ?_) (fun h => ?_) | refine condP.ne (fun h => ?_) (fun h => ?_)) | (refine .i64 (by omega) (by omega) ?_) | (refine onSome.intro (idx_fs rfl rfl (by omega) (by omega) (fun _ => rfl)) ?_) | (refine onSome.intro (load_fs rfl (by omega) (by omega) rfl) ?_) | (refine And.intro rfl ?_))
          conv => whnf
          exact .more (k + 1, af, t3) [0, 1, 2, 3] rfl ⟨by dsimp only; omega, by dsimp only; omega, ascB_mono hasc (by dsimp only; omega)⟩ (by dsimp only; omega) rfl ⟨.pt rfl, .omsl rfl, .same (.int _ _), .same (.int _ _), .pt rfl, .nn (.int _ _) (frz_int (by dsimp only; omega)), trivial⟩
            ⟨.same (S1_no _), .same (lsS_no frR_no), .row (.cons (.same (.int _ _)) (.cons (.same (.int _ _)) (.cons (.omsl rfl) .nil))), .same (lsS_no ei_no), trivial⟩
        · repeat' ((conv => whnf); first | (refine force_om ?_) | (refine forceC_om ?_) | (refine condP.dec (fun _ => ?_) (fun h => absurd (by omega) h)) | (refine CallP.one (fun H hb => j3 H _ hb) rfl ?_) | (first | refine condP.dec (fun h => ?_) (fun h => ?_) | refine condP.eq (fun h => ?_) (fun h => ?_) | refine condP.ne (fun h => ?_) (fun h => ?_)) | (refine .i64 (by omega) (by omega) ?_) | (refine onSome.intro (idx_fs rfl rfl (by omega) (by omega) (fun _ => rfl)) ?_) | (refine onSome.intro (load_fs rfl (by omega) (by omega) rfl) ?_) | (refine And.intro rfl ?_))
          conv => whnf
          refine .snoc (enc := ei) (l := af) (b := 3) (r := [.int .i64 k]) rfl rfl rfl rfl (fun c hc => by simp at hc; subst hc; rfl) (by omega) ?_
          (repeat ((conv => whnf); refine And.intro rfl ?_)); conv => whnf
          refine .i64 (by omega) (by omega) ?_
          conv => whnf
          exact .more (k + 1, af ++ [(k : Int)], t3) [0, 1, 2, 5] rfl ⟨by dsimp only; omega, by simp; omega, ascB_snoc hasc⟩ (by dsimp only; omega) rfl ⟨.pt rfl, .omsl rfl, .same (.int _ _), .same (.int _ _), .pt rfl, .nn (.int _ _) (frz_int (by dsimp only; omega)), trivial⟩
            ⟨.same (S1_no _), .same (lsS_no frR_no), .row (.cons (.same (.int _ _)) (.cons (.same (.int _ _)) (.cons (.grown rfl (by simp) (by simp)) .nil))), .snocL (enc := ei) (a := (k : Int)) ei_no (.cons (.same (.int _ _)) .nil), trivial⟩
      · have hal20 : af.length ≤ 20 := by omega
        have hgood : FireOk N out.length ⟨900 + 10 * a, 900 + 10 * c, af⟩ := ⟨by dsimp only; omega, by dsimp only; omega, ascB_mono hasc (by omega), fun k hk => by have := (hasc k hk).2.1; dsimp only at this ⊢; omega⟩
        rcases af with _ | ⟨b0, af⟩
        · repeat' ((conv => whnf); first | (refine force_om ?_) | (refine forceC_om ?_) | (refine condP.dec (fun h => absurd h (by omega)) (fun _ => ?_)) | (first | refine condP.dec (fun h => ?_) (fun h => ?_) | refine condP.eq (fun h => ?_) (fun h => ?_) | refine condP.ne (fun h => ?_) (fun h => ?_)) | (refine .i64 (by omega) (by omega) ?_) | (refine onSome.intro (idx_fs rfl rfl (by omega) (by omega) (fun _ => rfl)) ?_) | (refine onSome.intro (load_fs rfl (by omega) (by omega) rfl) ?_) | (refine And.intro rfl ?_))
          refine .done (by simp) ?_
          repeat' ((conv => whnf); first | (refine force_om ?_) | (refine forceC_om ?_) | (first | refine condP.dec (fun h => ?_) (fun h => ?_) | refine condP.eq (fun h => ?_) (fun h => ?_) | refine condP.ne (fun h => ?_) (fun h => ?_)) | (refine .i64 (by omega) (by omega) ?_) | (refine onSome.intro (idx_fs rfl rfl (by omega) (by omega) (fun _ => rfl)) ?_) | (refine onSome.intro (load_fs rfl (by omega) (by omega) rfl) ?_) | (refine And.intro rfl ?_))
          conv => whnf
          refine .snoc (enc := frR) (l := out) (b := 1) (r := [.int .i64 (900 + 10 * a), .int .i64 (900 + 10 * c), .nilslice]) rfl rfl rfl rfl (fun c hc => by simp at hc; rcases hc with rfl | rfl | rfl <;> rfl) (by omega) ?_
          (repeat ((conv => whnf); refine And.intro rfl ?_)); conv => whnf
          refine .i64 (by omega) (by omega) ?_
          conv => whnf
          exact .more (i + 1, out ++ [⟨900 + 10 * a, 900 + 10 * c, []⟩], t) [0, 5] rfl ⟨by dsimp only; omega, by simp; omega, all_snoc2 hall hgood⟩ (by dsimp only; omega) rfl ⟨.pt rfl, .grown rfl (by simp) (by simp), .same (.int _ _), .nn (.int _ _) (frz_int (by dsimp only; omega)), trivial⟩
            ⟨.same (S1_no _), .snocL (enc := frR) (a := ⟨900 + 10 * a, 900 + 10 * c, []⟩) frR_no (.cons (.same (.int _ _)) (.cons (.same (.int _ _)) (.cons (.nn (sl_no []) .nil) .nil))), trivial⟩
        · repeat' ((conv => whnf); first | (refine force_om ?_) | (refine forceC_om ?_) | (refine condP.dec (fun h => absurd h (by omega)) (fun _ => ?_)) | (first | refine condP.dec (fun h => ?_) (fun h => ?_) | refine condP.eq (fun h => ?_) (fun h => ?_) | refine condP.ne (fun h => ?_) (fun h => ?_)) | (refine .i64 (by omega) (by omega) ?_) | (refine onSome.intro (idx_fs rfl rfl (by omega) (by omega) (fun _ => rfl)) ?_) | (refine onSome.intro (load_fs rfl (by omega) (by omega) rfl) ?_) | (refine And.intro rfl ?_))
          refine .done (by simp) ?_
          repeat' ((conv => whnf); first | (refine force_om ?_) | (refine forceC_om ?_) | (first | refine condP.dec (fun h => ?_) (fun h => ?_) | refine condP.eq (fun h => ?_) (fun h => ?_) | refine condP.ne (fun h => ?_) (fun h => ?_)) | (refine .i64 (by omega) (by omega) ?_) | (refine onSome.intro (idx_fs rfl rfl (by omega) (by omega) (fun _ => rfl)) ?_) | (refine onSome.intro (load_fs rfl (by omega) (by omega) rfl) ?_) | (refine And.intro rfl ?_))
          conv => whnf
          refine .snoc (enc := frR) (l := out) (b := 1) (r := [.int .i64 (900 + 10 * a), .int .i64 (900 + 10 * c), .mslice 3 0 (af.length + 1) (af.length + 1) false]) rfl rfl rfl rfl (fun c hc => by simp at hc; rcases hc with rfl | rfl | rfl <;> rfl) (by omega) ?_
          (repeat ((conv => whnf); refine And.intro rfl ?_)); conv => whnf
          refine .i64 (by omega) (by omega) ?_
          conv => whnf
          exact .more (i + 1, out ++ [⟨900 + 10 * a, 900 + 10 * c, b0 :: af⟩], t) [0, 5] rfl ⟨by dsimp only; omega, by simp; omega, all_snoc2 hall hgood⟩ (by dsimp only; omega) rfl ⟨.pt rfl, .grown rfl (by simp) (by simp), .same (.int _ _), .nn (.int _ _) (frz_int (by dsimp only; omega)), trivial⟩
            ⟨.same (S1_no _), .snocL (enc := frR) (a := ⟨900 + 10 * a, 900 + 10 * c, b0 :: af⟩) frR_no (.cons (.same (.int _ _)) (.cons (.same (.int _ _)) (.cons (.nn (sl_no (b0 :: af)) (.ints (sz := 1) (l := b0 :: af) rfl (fun _ _ h => by cases h) rfl)) .nil))), trivial⟩
    · have y := One_any s 9 (by omega)
      obtain ⟨w, t1, j1⟩ := y
      rcases out with _ | ⟨o, out⟩
      · have : N = 0 := by simp at hl; omega
        repeat' ((conv => whnf); first | (refine force_om ?_) | (refine forceC_om ?_) | (refine condP.dec (fun h => absurd h (by omega)) (fun _ => ?_)) | (first | refine condP.dec (fun h => ?_) (fun h => ?_) | refine condP.eq (fun h => ?_) (fun h => ?_) | refine condP.ne (fun h => ?_) (fun h => ?_)) | (refine .i64 (by omega) (by omega) ?_) | (refine onSome.intro (idx_fs rfl rfl (by omega) (by omega) (fun _ => rfl)) ?_) | (refine onSome.intro (load_fs rfl (by omega) (by omega) rfl) ?_) | (refine And.intro rfl ?_))
        refine .done (by simp) ?_
        repeat' ((conv => whnf); first | (refine condP.dec (fun h => absurd h (by omega)) (fun _ => ?_)) | (refine CallP.one (fun H hb => j1 H _ hb) rfl ?_) | (first | refine condP.dec (fun h => ?_) (fun h => ?_) | refine condP.eq (fun h => ?_) (fun h => ?_) | refine condP.ne (fun h => ?_) (fun h => ?_)) | (refine .i64 (by omega) (by omega) ?_) | (refine onSome.intro (idx_fs rfl rfl (by omega) (by omega) (fun _ => rfl)) ?_) | (refine onSome.intro (load_fs rfl (by omega) (by omega) rfl) ?_) | (refine And.intro rfl ?_))
        all_goals first | (exfalso; omega) | skip
        all_goals conv => whnf
        all_goals exact .intro (frsl []) (S1 s) ⟨[], s, rfl, rfl, by simpa using h0, fun i hi => by simp at hi⟩ (frsl_no _) (S1_no _) (.one (u := .nilslice) (.inl rfl) rfl rfl .nil (frsl_no _))
      · simp only [List.length_cons] at hl
        have hN : N = ((o :: out).length : Int) := by simp only [List.length_cons]; omega
        have ho := hall 0 (by simp)
        have ho0 : at' (o :: out) ((0 : Nat) : Int) = o := rfl
        rw [ho0] at ho
        have hall' : ∀ i : Nat, i < (o :: out).length → FireOk ((o :: out).length : Int) i (at' (o :: out) (i : Int)) := by rw [← hN]; exact hall
        have hset : 1 < N → ∀ i : Nat, i < ((⟨o.heat, o.hold, [N - 1]⟩ : Fire) :: out).length → FireOk (((⟨o.heat, o.hold, [N - 1]⟩ : Fire) :: out).length : Int) i (at' ((⟨o.heat, o.hold, [N - 1]⟩ : Fire) :: out) (i : Int)) := fun h1 i hi => by
          rcases i with _ | i
          · show FireOk _ ((0 : Nat) : Int) (⟨o.heat, o.hold, [N - 1]⟩ : Fire)
            refine ⟨ho.heat, ho.hold, fun k hk => ?_, fun k hk => ?_⟩
            · obtain rfl : k = 0 := by simpa using hk
              show 0 ≤ N - 1 ∧ N - 1 < _ ∧ _
              refine ⟨by omega, ?_, fun h => absurd h (by omega)⟩
              simp only [List.length_cons] at hN ⊢
              omega
            · obtain rfl : k = 0 := by simpa using hk
              show N - 1 ≠ ((0 : Nat) : Int)
              omega
          · have := hall' (i + 1) hi
            rw [at'_get hi]
            rw [at'_get (show i + 1 < (o :: out).length from hi)] at this
            simpa using this
        repeat' ((conv => whnf); first | (refine force_om ?_) | (refine forceC_om ?_) | (refine condP.dec (fun h => absurd h (by omega)) (fun _ => ?_)) | (first | refine condP.dec (fun h => ?_) (fun h => ?_) | refine condP.eq (fun h => ?_) (fun h => ?_) | refine condP.ne (fun h => ?_) (fun h => ?_)) | (refine .i64 (by omega) (by omega) ?_) | (refine onSome.intro (idx_fs rfl rfl (by omega) (by omega) (fun _ => rfl)) ?_) | (refine onSome.intro (load_fs rfl (by omega) (by omega) rfl) ?_) | (refine And.intro rfl ?_))
        refine .done (by simp) ?_
        cases w
        · repeat' ((conv => whnf); first | (refine CallP.one (fun H hb => j1 H _ hb) rfl ?_) | (first | refine condP.dec (fun h => ?_) (fun h => ?_) | refine condP.eq (fun h => ?_) (fun h => ?_) | refine condP.ne (fun h => ?_) (fun h => ?_)) | (refine .i64 (by omega) (by omega) ?_) | (refine onSome.intro (idx_fs rfl rfl (by omega) (by omega) (fun _ => rfl)) ?_) | (refine onSome.intro (load_fs rfl (by omega) (by omega) rfl) ?_) | (refine And.intro rfl ?_))
          all_goals conv => whnf
          all_goals first
            | exact .intro (frsl (o :: out)) (S1 s) ⟨o :: out, s, rfl, rfl, by simp; omega, hall'⟩ (frsl_no _) (S1_no _) (.one (u := .mslice 1 0 (out.length + 1) (out.length + 1) false) (.inl rfl) rfl rfl (.whole (sz := 3) (es := (o :: out).map frR) rfl (fun _ _ h => by cases h) (by simp) (.refl _)) (frsl_no _))
            | exact .intro (frsl (o :: out)) (S1 t1) ⟨o :: out, t1, rfl, rfl, by simp; omega, hall'⟩ (frsl_no _) (S1_no _) (.one (u := .mslice 1 0 (out.length + 1) (out.length + 1) false) (.inl rfl) rfl rfl (.whole (sz := 3) (es := (o :: out).map frR) rfl (fun _ _ h => by cases h) (by simp) (.refl _)) (frsl_no _))
        · rcases out with _ | ⟨o1, out⟩
          · repeat' ((conv => whnf); first | (refine CallP.one (fun H hb => j1 H _ hb) rfl ?_) | (first | refine condP.dec (fun h => ?_) (fun h => ?_) | refine condP.eq (fun h => ?_) (fun h => ?_) | refine condP.ne (fun h => ?_) (fun h => ?_)) | (refine .i64 (by omega) (by omega) ?_) | (refine onSome.intro (idx_fs rfl rfl (by omega) (by omega) (fun _ => rfl)) ?_) | (refine onSome.intro (load_fs rfl (by omega) (by omega) rfl) ?_) | (refine And.intro rfl ?_))
            all_goals first | (exfalso; simp at hl; omega) | skip
            all_goals conv => whnf
            all_goals exact .intro (frsl [o]) (S1 s) ⟨[o], s, rfl, rfl, by simp at hl ⊢; omega, hall'⟩ (frsl_no _) (S1_no _) (.one (u := .mslice 1 0 1 1 false) (.inl rfl) rfl rfl (.whole (sz := 3) (es := [o].map frR) rfl (fun _ _ h => by cases h) (by simp) (.refl _)) (frsl_no _))
          · simp only [List.length_cons] at hl
            repeat' ((conv => whnf); first | (refine CallP.one (fun H hb => j1 H _ hb) rfl ?_) | (refine onSome.intro (idx_om (enc := frR) (l := o :: o1 :: out) (b := 1) rfl rfl rfl (by omega) (by simp only [List.length_cons]; omega)) ?_) | (first | refine condP.dec (fun h => ?_) (fun h => ?_) | refine condP.eq (fun h => ?_) (fun h => ?_) | refine condP.ne (fun h => ?_) (fun h => ?_)) | (refine .i64 (by omega) (by omega) ?_) | (refine onSome.intro (idx_fs rfl rfl (by omega) (by omega) (fun _ => rfl)) ?_) | (refine onSome.intro (load_fs rfl (by omega) (by omega) rfl) ?_) | (refine And.intro rfl ?_))
            all_goals first | (exfalso; omega) | skip
            all_goals conv => whnf
            all_goals exact .intro (frsl ((⟨o.heat, o.hold, [N - 1]⟩ : Fire) :: o1 :: out)) (S1 t1) ⟨_, t1, rfl, rfl, by simp; omega, hset (by omega)⟩ (frsl_no _) (S1_no _) (.one (u := .mslice 1 0 (out.length + 1 + 1) (out.length + 1 + 1) false) (.inl rfl) rfl rfl (.whole (sz := 3) (es := [.int .i64 o.heat, .int .i64 o.hold, .mslice 2 0 1 1 true] :: frR o1 :: out.map frR) rfl (fun _ _ h => by cases h) (by simp) (.cons (.cons (.refl _) (.cons (.refl _) (.cons (.ints (sz := 1) (l := [N - 1]) rfl (fun _ _ h => by cases h) rfl) .nil))) (.refl _))) (frsl_no _)))
  obtain ⟨v, z, ⟨l, s', rfl, rfl, q1, q2⟩, _, _, hh⟩ := key
  exact ⟨l, s', q1, q2, fun H n hn => hh H n hn⟩

end Go.Proofs.Ytpbadgghhiommaa.I
