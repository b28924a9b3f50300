/- Fires that are made of numbers. -/
import Derived.Test.YtpbadgghhiommaaGfire
import Derived.Test.YtpbadgghhiommaaGkit2
set_option linter.unusedVariables false
set_option maxHeartbeats 16000000
set_option linter.unusedSimpArgs false
namespace Go.Proofs.Ytpbadgghhiommaa.I
open Go.Ideal

theorem lsS_no {sz : Nat} {α : Type} {enc : α → List IV} {l : List α} (h : ∀ a, ∀ x ∈ enc a, Noname x) : NonameS (lsS sz enc l) := by
  cases l with
  | nil => exact trivial
  | cons a l => exact noS_map h
theorem ei_no (a : Int) : ∀ x ∈ ei a, Noname x := nn_cons (.int _ _) nn_none
theorem all_snoc {l : List Fire} {f : Fire} (h : ∀ i : Nat, i < l.length → (at' l (i : Int)).aft.length ≤ 20) (hf : f.aft.length ≤ 20) : ∀ i : Nat, i < (l ++ [f]).length → (at' (l ++ [f]) (i : Int)).aft.length ≤ 20 := fun i hi => by
  rw [at'_get hi]
  by_cases q : i < l.length
  · rw [List.getElem_append_left q, ← at'_get q]; exact h i q
  · rw [List.getElem_append_right (by omega)]
    simpa using hf
theorem FiresOf_any (s most : Int) (h0 : 0 ≤ most) (h1 : most ≤ 20) : ∃ (l : List Fire) (s' : Int), (l.length : Int) ≤ most ∧ (∀ i : Nat, i < l.length → (at' l (i : Int)).aft.length ≤ 20) ∧
    ∀ (H : Heap) (n : Nat), H n = S1 s → Ev T (.call (.func (.func 24) [] []) [.ptr n 0 0, .int .i64 most] H) (.call (frsl l) (H.set n (S1 s'))) := by
  have key := run_one_some T24 (i := 0) (off := 0) (args := [.int .i64 most]) (s := S1 s) (P := fun v z => ∃ (l : List Fire) (s' : Int), v = frsl l ∧ z = S1 s' ∧ (l.length : Int) ≤ most ∧ ∀ i : Nat, i < l.length → (at' l (i : Int)).aft.length ≤ 20)
    (nn_cons (nn_int _ _) nn_none) (S1_no _) (by
    have q := Upto_any s (most + 1) (by omega)
    obtain ⟨N, s1, N0, N1, k0⟩ := q
    repeat' ((conv => whnf); first | (refine CallP.one (fun H hb => k0 H _ hb) rfl ?_) | (first | refine condP.dec (fun h => ?_) (fun h => ?_) | refine condP.eq (fun h => ?_) (fun h => ?_) | refine condP.ne (fun h => ?_) (fun h => ?_)) | (refine .i64 (by omega) (by omega) ?_) | (refine onSome.intro (idx_fs rfl rfl (by omega) (by omega) (fun _ => rfl)) ?_) | (refine onSome.intro (load_fs rfl (by omega) (by omega) rfl) ?_) | (refine And.intro rfl ?_))
    conv => whnf
    refine .pad 1 ?_
    refine loop_grow (X := Nat × List Fire × Int) (fun x => [(0, .ptr 0 0 0), (5, omsl 1 x.2.1), (6, .int .i64 N), (7, .int .i64 x.1)]) (fun x => [S1 x.2.2, lsS 3 frR x.2.1])
      (fun x => N.toNat - x.1) (fun x => (x.1 : Int) ≤ N ∧ x.2.1.length = x.1 ∧ ∀ i : Nat, i < x.2.1.length → (at' x.2.1 (i : Int)).aft.length ≤ 20) (0, [], s1) ⟨N0, rfl, fun i hi => by simp at hi⟩ ⟨rfl, rfl, rfl, rfl, trivial⟩ rfl (fun x hx => ?_)
    obtain ⟨i, out, s⟩ := x
    obtain ⟨hi, hl, hall⟩ := hx
    dsimp only at hi hl hall ⊢
    by_cases hlt : (i : Int) < N
    · have y := Upto_any s 9 (by omega)
      obtain ⟨a, t1, a0, a1, j1⟩ := y
      have y := Upto_any t1 14 (by omega)
      obtain ⟨c, t2, c0, c1, j2⟩ := y
      repeat' ((conv => whnf); first | (refine force_om ?_) | (refine forceC_om ?_) | (refine condP.dec (fun _ => ?_) (fun h => absurd (by omega) h)) | (refine CallP.one (fun H hb => j1 H _ hb) rfl ?_) | (refine CallP.one (fun H hb => j2 H _ hb) rfl ?_) | (first | refine condP.dec (fun h => ?_) (fun h => ?_) | refine condP.eq (fun h => ?_) (fun h => ?_) | refine condP.ne (fun h => ?_) (fun h => ?_)) | (refine .i64 (by omega) (by omega) ?_) | (refine onSome.intro (idx_fs rfl rfl (by omega) (by omega) (fun _ => rfl)) ?_) | (refine onSome.intro (load_fs rfl (by omega) (by omega) rfl) ?_) | (refine And.intro rfl ?_))
      conv => whnf
      refine .pad 1 ?_
      refine loop_grow (X := Nat × List Int × Int) (fun x => [(0, .ptr 0 0 0), (5, omsl 1 out), (6, .int .i64 N), (7, .int .i64 i), (8, .ptr 2 0 0), (9, .int .i64 x.1)]) (fun x => [S1 x.2.2, lsS 3 frR out, .live 3 [[.int .i64 (900 + 10 * a), .int .i64 (900 + 10 * c), omsl 3 x.2.1]], lsS 1 ei x.2.1])
        (fun x => i - x.1) (fun x => x.1 ≤ i ∧ x.2.1.length ≤ x.1) (0, [], t2) ⟨Nat.zero_le _, Nat.le_refl _⟩ ⟨rfl, rfl, rfl, rfl, rfl, rfl, trivial⟩ rfl (fun x hx => ?_)
      obtain ⟨k, af, t⟩ := x
      obtain ⟨hk, hal⟩ := hx
      dsimp only at hk hal ⊢
      by_cases hki : k < i
      · have y := One_any t 6 (by omega)
        obtain ⟨w, t3, j3⟩ := y
        cases w
        · repeat' ((conv => whnf); first | (refine force_om ?_) | (refine forceC_om ?_) | (refine condP.dec (fun _ => ?_) (fun h => absurd (by omega) h)) | (refine CallP.one (fun H hb => j3 H _ hb) rfl ?_) | (first | refine condP.dec (fun h => ?_) (fun h => ?_) | refine condP.eq (fun h => ?_) (fun h => ?_) | refine condP.ne (fun h => ?_) (fun h => ?_)) | (refine .i64 (by omega) (by omega) ?_) | (refine onSome.intro (idx_fs rfl rfl (by omega) (by omega) (fun _ => rfl)) ?_) | (refine onSome.intro (load_fs rfl (by omega) (by omega) rfl) ?_) | (refine And.intro rfl ?_))
          conv => whnf
          exact .more (k + 1, af, t3) [0, 1, 2, 3] rfl ⟨by dsimp only; omega, by dsimp only; omega⟩ (by dsimp only; omega) rfl ⟨.pt rfl, .omsl rfl, .same (.int _ _), .same (.int _ _), .pt rfl, .nn (.int _ _) (frz_int (by dsimp only; omega)), trivial⟩
            ⟨.same (S1_no _), .same (lsS_no frR_no), .row (.cons (.same (.int _ _)) (.cons (.same (.int _ _)) (.cons (.omsl rfl) .nil))), .same (lsS_no ei_no), trivial⟩
        · repeat' ((conv => whnf); first | (refine force_om ?_) | (refine forceC_om ?_) | (refine condP.dec (fun _ => ?_) (fun h => absurd (by omega) h)) | (refine CallP.one (fun H hb => j3 H _ hb) rfl ?_) | (first | refine condP.dec (fun h => ?_) (fun h => ?_) | refine condP.eq (fun h => ?_) (fun h => ?_) | refine condP.ne (fun h => ?_) (fun h => ?_)) | (refine .i64 (by omega) (by omega) ?_) | (refine onSome.intro (idx_fs rfl rfl (by omega) (by omega) (fun _ => rfl)) ?_) | (refine onSome.intro (load_fs rfl (by omega) (by omega) rfl) ?_) | (refine And.intro rfl ?_))
          conv => whnf
          refine .snoc (enc := ei) (l := af) (b := 3) (r := [.int .i64 k]) rfl rfl rfl rfl (fun c hc => by simp at hc; subst hc; rfl) (by omega) ?_
          (repeat ((conv => whnf); refine And.intro rfl ?_)); conv => whnf
          refine .i64 (by omega) (by omega) ?_
          conv => whnf
          exact .more (k + 1, af ++ [(k : Int)], t3) [0, 1, 2, 5] rfl ⟨by dsimp only; omega, by simp; omega⟩ (by dsimp only; omega) rfl ⟨.pt rfl, .omsl rfl, .same (.int _ _), .same (.int _ _), .pt rfl, .nn (.int _ _) (frz_int (by dsimp only; omega)), trivial⟩
            ⟨.same (S1_no _), .same (lsS_no frR_no), .row (.cons (.same (.int _ _)) (.cons (.same (.int _ _)) (.cons (.grown rfl (by simp) (by simp)) .nil))), .snocL (enc := ei) (a := (k : Int)) ei_no (.cons (.same (.int _ _)) .nil), trivial⟩
      · have hal20 : af.length ≤ 20 := by omega
        rcases af with _ | ⟨b0, af⟩
        · repeat' ((conv => whnf); first | (refine force_om ?_) | (refine forceC_om ?_) | (refine condP.dec (fun h => absurd h (by omega)) (fun _ => ?_)) | (first | refine condP.dec (fun h => ?_) (fun h => ?_) | refine condP.eq (fun h => ?_) (fun h => ?_) | refine condP.ne (fun h => ?_) (fun h => ?_)) | (refine .i64 (by omega) (by omega) ?_) | (refine onSome.intro (idx_fs rfl rfl (by omega) (by omega) (fun _ => rfl)) ?_) | (refine onSome.intro (load_fs rfl (by omega) (by omega) rfl) ?_) | (refine And.intro rfl ?_))
          refine .done (by simp) ?_
          repeat' ((conv => whnf); first | (refine force_om ?_) | (refine forceC_om ?_) | (first | refine condP.dec (fun h => ?_) (fun h => ?_) | refine condP.eq (fun h => ?_) (fun h => ?_) | refine condP.ne (fun h => ?_) (fun h => ?_)) | (refine .i64 (by omega) (by omega) ?_) | (refine onSome.intro (idx_fs rfl rfl (by omega) (by omega) (fun _ => rfl)) ?_) | (refine onSome.intro (load_fs rfl (by omega) (by omega) rfl) ?_) | (refine And.intro rfl ?_))
          conv => whnf
          refine .snoc (enc := frR) (l := out) (b := 1) (r := [.int .i64 (900 + 10 * a), .int .i64 (900 + 10 * c), .nilslice]) rfl rfl rfl rfl (fun c hc => by simp at hc; rcases hc with rfl | rfl | rfl <;> rfl) (by omega) ?_
          (repeat ((conv => whnf); refine And.intro rfl ?_)); conv => whnf
          refine .i64 (by omega) (by omega) ?_
          conv => whnf
          exact .more (i + 1, out ++ [⟨900 + 10 * a, 900 + 10 * c, []⟩], t) [0, 5] rfl ⟨by dsimp only; omega, by simp; omega, all_snoc hall hal20⟩ (by dsimp only; omega) rfl ⟨.pt rfl, .grown rfl (by simp) (by simp), .same (.int _ _), .nn (.int _ _) (frz_int (by dsimp only; omega)), trivial⟩
            ⟨.same (S1_no _), .snocL (enc := frR) (a := ⟨900 + 10 * a, 900 + 10 * c, []⟩) frR_no (.cons (.same (.int _ _)) (.cons (.same (.int _ _)) (.cons (.nn (sl_no []) .nil) .nil))), trivial⟩
        · repeat' ((conv => whnf); first | (refine force_om ?_) | (refine forceC_om ?_) | (refine condP.dec (fun h => absurd h (by omega)) (fun _ => ?_)) | (first | refine condP.dec (fun h => ?_) (fun h => ?_) | refine condP.eq (fun h => ?_) (fun h => ?_) | refine condP.ne (fun h => ?_) (fun h => ?_)) | (refine .i64 (by omega) (by omega) ?_) | (refine onSome.intro (idx_fs rfl rfl (by omega) (by omega) (fun _ => rfl)) ?_) | (refine onSome.intro (load_fs rfl (by omega) (by omega) rfl) ?_) | (refine And.intro rfl ?_))
          refine .done (by simp) ?_
          repeat' ((conv => whnf); first | (refine force_om ?_) | (refine forceC_om ?_) | (first | refine condP.dec (fun h => ?_) (fun h => ?_) | refine condP.eq (fun h => ?_) (fun h => ?_) | refine condP.ne (fun h => ?_) (fun h => ?_)) | (refine .i64 (by omega) (by omega) ?_) | (refine onSome.intro (idx_fs rfl rfl (by omega) (by omega) (fun _ => rfl)) ?_) | (refine onSome.intro (load_fs rfl (by omega) (by omega) rfl) ?_) | (refine And.intro rfl ?_))
          conv => whnf
          refine .snoc (enc := frR) (l := out) (b := 1) (r := [.int .i64 (900 + 10 * a), .int .i64 (900 + 10 * c), .mslice 3 0 (af.length + 1) (af.length + 1) false]) rfl rfl rfl rfl (fun c hc => by simp at hc; rcases hc with rfl | rfl | rfl <;> rfl) (by omega) ?_
          (repeat ((conv => whnf); refine And.intro rfl ?_)); conv => whnf
          refine .i64 (by omega) (by omega) ?_
          conv => whnf
          exact .more (i + 1, out ++ [⟨900 + 10 * a, 900 + 10 * c, b0 :: af⟩], t) [0, 5] rfl ⟨by dsimp only; omega, by simp; omega, all_snoc hall hal20⟩ (by dsimp only; omega) rfl ⟨.pt rfl, .grown rfl (by simp) (by simp), .same (.int _ _), .nn (.int _ _) (frz_int (by dsimp only; omega)), trivial⟩
            ⟨.same (S1_no _), .snocL (enc := frR) (a := ⟨900 + 10 * a, 900 + 10 * c, b0 :: af⟩) frR_no (.cons (.same (.int _ _)) (.cons (.same (.int _ _)) (.cons (.nn (sl_no (b0 :: af)) (.ints (sz := 1) (l := b0 :: af) rfl (fun _ _ h => by cases h) rfl)) .nil))), trivial⟩
    · have y := One_any s 9 (by omega)
      obtain ⟨w, t1, j1⟩ := y
      rcases out with _ | ⟨o, out⟩
      · have : N = 0 := by simp at hl; omega
        repeat' ((conv => whnf); first | (refine force_om ?_) | (refine forceC_om ?_) | (refine condP.dec (fun h => absurd h (by omega)) (fun _ => ?_)) | (first | refine condP.dec (fun h => ?_) (fun h => ?_) | refine condP.eq (fun h => ?_) (fun h => ?_) | refine condP.ne (fun h => ?_) (fun h => ?_)) | (refine .i64 (by omega) (by omega) ?_) | (refine onSome.intro (idx_fs rfl rfl (by omega) (by omega) (fun _ => rfl)) ?_) | (refine onSome.intro (load_fs rfl (by omega) (by omega) rfl) ?_) | (refine And.intro rfl ?_))
        refine .done (by simp) ?_
        repeat' ((conv => whnf); first | (refine condP.dec (fun h => absurd h (by omega)) (fun _ => ?_)) | (refine CallP.one (fun H hb => j1 H _ hb) rfl ?_) | (first | refine condP.dec (fun h => ?_) (fun h => ?_) | refine condP.eq (fun h => ?_) (fun h => ?_) | refine condP.ne (fun h => ?_) (fun h => ?_)) | (refine .i64 (by omega) (by omega) ?_) | (refine onSome.intro (idx_fs rfl rfl (by omega) (by omega) (fun _ => rfl)) ?_) | (refine onSome.intro (load_fs rfl (by omega) (by omega) rfl) ?_) | (refine And.intro rfl ?_))
        all_goals first | (exfalso; omega) | skip
        all_goals conv => whnf
        all_goals exact .intro (frsl []) (S1 s) ⟨[], s, rfl, rfl, by simpa using h0, fun i hi => by simp at hi⟩ (frsl_no _) (S1_no _) (.one (u := .nilslice) (.inl rfl) rfl rfl .nil (frsl_no _))
      · simp only [List.length_cons] at hl
        have ho := hall 0 (by simp)
        have hset : ∀ i : Nat, i < ((⟨o.heat, o.hold, [N - 1]⟩ : Fire) :: out).length → (at' ((⟨o.heat, o.hold, [N - 1]⟩ : Fire) :: out) (i : Int)).aft.length ≤ 20 := fun i hi => by
          rcases i with _ | i
          · show [N - 1].length ≤ 20
            simp
          · have := hall (i + 1) hi
            rw [at'_get hi] at *
            rw [at'_get (show i + 1 < (o :: out).length from hi)] at this
            simpa using this
        repeat' ((conv => whnf); first | (refine force_om ?_) | (refine forceC_om ?_) | (refine condP.dec (fun h => absurd h (by omega)) (fun _ => ?_)) | (first | refine condP.dec (fun h => ?_) (fun h => ?_) | refine condP.eq (fun h => ?_) (fun h => ?_) | refine condP.ne (fun h => ?_) (fun h => ?_)) | (refine .i64 (by omega) (by omega) ?_) | (refine onSome.intro (idx_fs rfl rfl (by omega) (by omega) (fun _ => rfl)) ?_) | (refine onSome.intro (load_fs rfl (by omega) (by omega) rfl) ?_) | (refine And.intro rfl ?_))
        refine .done (by simp) ?_
        cases w
        · repeat' ((conv => whnf); first | (refine CallP.one (fun H hb => j1 H _ hb) rfl ?_) | (first | refine condP.dec (fun h => ?_) (fun h => ?_) | refine condP.eq (fun h => ?_) (fun h => ?_) | refine condP.ne (fun h => ?_) (fun h => ?_)) | (refine .i64 (by omega) (by omega) ?_) | (refine onSome.intro (idx_fs rfl rfl (by omega) (by omega) (fun _ => rfl)) ?_) | (refine onSome.intro (load_fs rfl (by omega) (by omega) rfl) ?_) | (refine And.intro rfl ?_))
          all_goals conv => whnf
          all_goals first
            | exact .intro (frsl (o :: out)) (S1 s) ⟨o :: out, s, rfl, rfl, by simp; omega, hall⟩ (frsl_no _) (S1_no _) (.one (u := .mslice 1 0 (out.length + 1) (out.length + 1) false) (.inl rfl) rfl rfl (.whole (sz := 3) (es := (o :: out).map frR) rfl (fun _ _ h => by cases h) (by simp) (.refl _)) (frsl_no _))
            | exact .intro (frsl (o :: out)) (S1 t1) ⟨o :: out, t1, rfl, rfl, by simp; omega, hall⟩ (frsl_no _) (S1_no _) (.one (u := .mslice 1 0 (out.length + 1) (out.length + 1) false) (.inl rfl) rfl rfl (.whole (sz := 3) (es := (o :: out).map frR) rfl (fun _ _ h => by cases h) (by simp) (.refl _)) (frsl_no _))
        · rcases out with _ | ⟨o1, out⟩
          · repeat' ((conv => whnf); first | (refine CallP.one (fun H hb => j1 H _ hb) rfl ?_) | (first | refine condP.dec (fun h => ?_) (fun h => ?_) | refine condP.eq (fun h => ?_) (fun h => ?_) | refine condP.ne (fun h => ?_) (fun h => ?_)) | (refine .i64 (by omega) (by omega) ?_) | (refine onSome.intro (idx_fs rfl rfl (by omega) (by omega) (fun _ => rfl)) ?_) | (refine onSome.intro (load_fs rfl (by omega) (by omega) rfl) ?_) | (refine And.intro rfl ?_))
            all_goals first | (exfalso; simp at hl; omega) | skip
            all_goals conv => whnf
            all_goals exact .intro (frsl [o]) (S1 s) ⟨[o], s, rfl, rfl, by simp at hl ⊢; omega, hall⟩ (frsl_no _) (S1_no _) (.one (u := .mslice 1 0 1 1 false) (.inl rfl) rfl rfl (.whole (sz := 3) (es := [o].map frR) rfl (fun _ _ h => by cases h) (by simp) (.refl _)) (frsl_no _))
          · simp only [List.length_cons] at hl
            repeat' ((conv => whnf); first | (refine CallP.one (fun H hb => j1 H _ hb) rfl ?_) | (refine onSome.intro (idx_om (enc := frR) (l := o :: o1 :: out) (b := 1) rfl rfl rfl (by omega) (by simp only [List.length_cons]; omega)) ?_) | (first | refine condP.dec (fun h => ?_) (fun h => ?_) | refine condP.eq (fun h => ?_) (fun h => ?_) | refine condP.ne (fun h => ?_) (fun h => ?_)) | (refine .i64 (by omega) (by omega) ?_) | (refine onSome.intro (idx_fs rfl rfl (by omega) (by omega) (fun _ => rfl)) ?_) | (refine onSome.intro (load_fs rfl (by omega) (by omega) rfl) ?_) | (refine And.intro rfl ?_))
            all_goals first | (exfalso; omega) | skip
            all_goals conv => whnf
            all_goals exact .intro (frsl ((⟨o.heat, o.hold, [N - 1]⟩ : Fire) :: o1 :: out)) (S1 t1) ⟨_, t1, rfl, rfl, by simp; omega, hset⟩ (frsl_no _) (S1_no _) (.one (u := .mslice 1 0 (out.length + 1 + 1) (out.length + 1 + 1) false) (.inl rfl) rfl rfl (.whole (sz := 3) (es := [.int .i64 o.heat, .int .i64 o.hold, .mslice 2 0 1 1 true] :: frR o1 :: out.map frR) rfl (fun _ _ h => by cases h) (by simp) (.cons (.cons (.refl _) (.cons (.refl _) (.cons (.ints (sz := 1) (l := [N - 1]) rfl (fun _ _ h => by cases h) rfl) .nil))) (.refl _))) (frsl_no _)))
  obtain ⟨v, z, ⟨l, s', rfl, rfl, q1, q2⟩, _, _, hh⟩ := key
  exact ⟨l, s', q1, q2, fun H n hn => hh H n hn⟩

end Go.Proofs.Ytpbadgghhiommaa.I
