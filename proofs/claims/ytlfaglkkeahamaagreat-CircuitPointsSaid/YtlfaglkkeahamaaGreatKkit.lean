/- What the statements are made of. -/
import Derived.Test.YtlfaglkkeahamaaGreatKref
set_option linter.unusedVariables false
set_option maxHeartbeats 4000000
set_option linter.unusedSimpArgs false
namespace Go.Proofs.YtlfaglkkeahamaaGreat.I
open Go.Ideal

theorem NewDice_ok (l : List Int) (hl : l.length ≤ 9223372036854775807) : ∃ s : Int, ∀ (H : Heap) (n : Nat), H n = .free → Ev T (.call (.func (.func 20) [] []) [sl l] H) (.call (.ptr n 0 0) (H.set n (S1 s))) := by
  have key := run_new T20 (args := [sl l]) (P := fun v k s => v = .ptr 0 0 0 ∧ k = 0 ∧ ∃ n, s = S1 n) (nn_cons (sl_no _) nn_none) (by
    conv => whnf
    refine .u64 (by simp) (by simp; omega) ?_
    conv => whnf
    refine .wrap ?_
    generalize IntKind.u64.wrap _ = w
    conv => whnf
    refine loop_rule (X := Nat × Int) (fun x => [(0, sl l), (3, .ptr 0 0 0), (4, .int .i64 x.1)]) (fun x => [S1 x.2]) (fun x => l.length - x.1) (fun x => x.1 ≤ l.length) (0, w)
      (Nat.zero_le _) ⟨rfl, rfl, rfl, trivial⟩ rfl (fun _ _ => rfl) (fun x hx => ?_)
    obtain ⟨i, s⟩ := x
    simp only at hx
    dsimp only
    conv => whnf
    refine condP.dec (fun h => ?_) (fun h => ?_)
    · have hlt : (i : Int) < l.length := by simpa using h
      conv => whnf
      refine onSome.intro (idx_fs rfl rfl (Int.natCast_nonneg _) hlt (fun _ => rfl)) ?_
      conv => whnf
      refine onSome.intro (load_fs (v := .int .i64 (at' l i)) rfl (Int.natCast_nonneg _) hlt rfl) ?_
      conv => whnf
      refine .wrap ?_
      conv => whnf
      refine CallP.one (fun H hb => next_ok _ H hb) rfl ?_
      conv => whnf
      refine .i64 (by omega) (by omega) ?_
      conv => whnf
      exact .more (i + 1, _) rfl (by simp only; omega) (by simp only; omega) ⟨rfl, rfl, rfl, trivial⟩ rfl ⟨(sl_no _).inn _, .ptr _ _ _ (by simp), .int _ _, trivial⟩ ⟨fun j k h h' => (S1_no _ _ (List.getElem_mem h) _ (List.getElem_mem h')).inn _, trivial⟩
    · conv => whnf
      refine .done (by simp) ?_
      conv => whnf
      exact .intro (.ptr 0 0 0) 0 (S1 s) ⟨rfl, rfl, s, rfl⟩ (.inl rfl) rfl rfl (S1_no s) (.ptr _ _ _ rfl))
  obtain ⟨v, k, s, ⟨rfl, rfl, n, rfl⟩, _, h⟩ := key
  refine ⟨n, fun H m hm => ?_⟩
  have := h H m hm
  simpa [IV.ren, sw] using this

theorem dBetween_range {s lo hi : Int} (h : lo ≤ hi) : lo ≤ dBetween s lo hi ∧ dBetween s lo hi ≤ hi := by
  have := dUpto_lt (s := s) (n := hi - lo + 1) (by omega)
  unfold dBetween; omega

/-- A range within bounds. -/
theorem Range_ok (s lo hi : Int) (h0 : lo ≤ hi) (h1 : -1000000000000 ≤ lo) (h2 : hi ≤ 1000000000000) : ∃ a b s' : Int, lo ≤ a ∧ a ≤ b ∧ b ≤ hi ∧ ∀ (H : Heap) (n : Nat), H n = S1 s → Ev T (.call (.func (.func 31) [] []) [.ptr n 0 0, .int .i64 lo, .int .i64 hi] H) (.call (rgI a b) (H.set n (S1 s'))) := by
  have b1 := dBetween_range (s := s) h0
  have b2 := dBetween_range (s := dnext s) h0
  refine ⟨min (dBetween s lo hi) (dBetween (dnext s) lo hi), max (dBetween s lo hi) (dBetween (dnext s) lo hi), dnext (dnext s), by omega, by omega, by omega, fun H n hn => ?_⟩
  refine run_one T31 (rgI_no _ _) (nn_cons (nn_int _ _) (nn_cons (nn_int _ _) nn_none)) (S1_no _) (S1_no _) ?_ H hn
  conv => whnf
  refine CallP.one (fun H hb => Between_ok s lo hi (by omega) (by omega) (by omega) (by omega) H hb) rfl ?_
  conv => whnf
  refine CallP.one (fun H hb => Between_ok (dnext s) lo hi (by omega) (by omega) (by omega) (by omega) H hb) rfl ?_
  conv => whnf
  exact .one (u := rgI _ _) (.inl rfl) rfl rfl (.refl _) (rgI_no _ _)

/-- A valid law. -/
theorem LawOf_ok (s : Int) : ∃ p0 p1 g0 g1 s0 s1 f0 f1 q0 q1 s' : Int, LawOk p0 p1 g0 g1 s0 s1 f0 f1 q0 q1 ∧ ∀ (H : Heap) (n : Nat), H n = S1 s → Ev T (.call (.func (.func 132) [] []) [.ptr n 0 0] H) (.call (lawI p0 p1 g0 g1 s0 s1 f0 f1 q0 q1) (H.set n (S1 s'))) := by
  obtain ⟨p0, p1, t1, hp1, hp2, hp3, r1⟩ := Range_ok s 1000 90000 (by omega) (by omega) (by omega)
  obtain ⟨g0, g1, t2, hg1, hg2, hg3, r2⟩ := Range_ok t1 5000 60000 (by omega) (by omega) (by omega)
  obtain ⟨s0, s1, t3, hs1, hs2, hs3, r3⟩ := Range_ok t2 (-800) 800 (by omega) (by omega) (by omega)
  obtain ⟨f0, f1, t4, hf1, hf2, hf3, r4⟩ := Range_ok t3 2000 60000 (by omega) (by omega) (by omega)
  obtain ⟨q0, q1, t5, hq1, hq2, hq3, r5⟩ := Range_ok t4 500000 1000000 (by omega) (by omega) (by omega)
  obtain ⟨x1, t6, w1⟩ := One_any t5 3 (by omega)
  obtain ⟨x2, t7, w2⟩ := One_any t6 2 (by omega)
  obtain ⟨x3, t8, w3⟩ := One_any t7 8 (by omega)
  obtain ⟨x4, t9, y1, y2, w4⟩ := Between_any t8 1 400 (by omega) (by omega) (by omega)
  have key := run_one_some T132 (i := 0) (off := 0) (args := []) (s := S1 s) (P := fun v z => ∃ p0 p1 g0 g1 s0 s1 f0 f1 q0 q1 s' : Int, v = lawI p0 p1 g0 g1 s0 s1 f0 f1 q0 q1 ∧ LawOk p0 p1 g0 g1 s0 s1 f0 f1 q0 q1 ∧ z = S1 s') nn_none (S1_no _) (by
    conv => whnf
    refine CallP.one (fun H hb => r1 H _ hb) rfl ?_
    conv => whnf
    refine CallP.one (fun H hb => r2 H _ hb) rfl ?_
    conv => whnf
    refine CallP.one (fun H hb => r3 H _ hb) rfl ?_
    conv => whnf
    refine CallP.one (fun H hb => r4 H _ hb) rfl ?_
    conv => whnf
    refine CallP.one (fun H hb => r5 H _ hb) rfl ?_
    conv => whnf
    refine CallP.one (fun H hb => w1 H _ hb) rfl ?_
    conv => whnf
    refine condP.intro (fun h => ?_) (fun h => ?_)
    all_goals conv => whnf
    all_goals refine CallP.one (fun H hb => w2 H _ hb) rfl ?_
    all_goals conv => whnf
    all_goals refine condP.intro (fun h => ?_) (fun h => ?_)
    all_goals conv => whnf
    all_goals refine CallP.one (fun H hb => w3 H _ hb) rfl ?_
    all_goals conv => whnf
    all_goals refine condP.intro (fun h => ?_) (fun h => ?_)
    all_goals conv => whnf
    any_goals
      refine CallP.one (fun H hb => w4 H _ hb) rfl ?_
      conv => whnf
    all_goals exact .intro (lawI ..) (S1 _) ⟨_, _, _, _, _, _, _, _, _, _, _, rfl, ⟨by omega, by omega, by omega, by omega, by omega⟩, rfl⟩ (lawI_no ..) (S1_no _) (.one (.inl rfl) rfl rfl (.refl _) (lawI_no ..)))
  obtain ⟨v, z, ⟨p0, p1, g0, g1, s0, s1, f0, f1, q0, q1, s', rfl, hok, rfl⟩, _, _, h⟩ := key
  exact ⟨p0, p1, g0, g1, s0, s1, f0, f1, q0, q1, s', hok, fun H n hn => h H n hn⟩

end Go.Proofs.YtlfaglkkeahamaaGreat.I
