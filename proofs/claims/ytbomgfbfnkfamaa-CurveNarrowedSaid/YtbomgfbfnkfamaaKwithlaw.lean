/- Exact laws within a law, readings with which a law agrees. -/
import Derived.Test.YtbomgfbfnkfamaaKnarw
import Derived.Test.YtbomgfbfnkfamaaKkit
set_option linter.unusedVariables false
set_option maxHeartbeats 16000000
set_option linter.unusedSimpArgs false
namespace Go.Proofs.Ytbomgfbfnkfamaa.I
open Go.Ideal

theorem In_any (s a b : Int) (h : a ≤ b) (h0 : -1000000 ≤ a) (h1 : b ≤ 1000000) : ∃ v s' : Int, a ≤ v ∧ v ≤ b ∧ ∀ (H : Heap) (n : Nat), H n = S1 s → Ev T (.call (.func (.func 82) [] []) [.ptr n 0 0, rgI a b] H) (.call (.int .i64 v) (H.set n (S1 s'))) := by
  obtain ⟨v, s', v0, v1, k⟩ := Between_any s a b h (by omega) (by omega)
  refine ⟨v, s', v0, v1, fun H n hn => run_one T82 (nn_int _ _) (nn_cons (rgI_no _ _) nn_none) (S1_no _) (S1_no _) ?_ H hn⟩
  have e : max a b = b := by omega
  rw [← e] at k
  repeat' ((conv => whnf); first | (refine CallP.one (fun H hb => k H _ hb) rfl ?_) | (first | refine condP.dec (fun h => ?_) (fun h => ?_) | refine condP.eq (fun h => ?_) (fun h => ?_) | refine condP.ne (fun h => ?_) (fun h => ?_)) | (refine .i64 (by omega) (by omega) ?_) | (refine onSome.intro (idx_fs rfl rfl (by omega) (by omega) (fun _ => rfl)) ?_) | (refine onSome.intro (load_fs rfl (by omega) (by omega) rfl) ?_) | (refine And.intro rfl ?_))
  conv => whnf
  exact .one (u := .int .i64 v) (.inl rfl) rfl rfl (.refl _) (nn_int _ _)
/-- A law within another, that has one number for each range. -/
structure AloneIn (L M : Lw) : Prop where
  p : L.p0 ≤ M.p0 ∧ M.p0 = M.p1 ∧ M.p1 ≤ L.p1
  g : L.g0 ≤ M.g0 ∧ M.g0 = M.g1 ∧ M.g1 ≤ L.g1
  s : L.s0 ≤ M.s0 ∧ M.s0 = M.s1 ∧ M.s1 ≤ L.s1
  f : L.f0 ≤ M.f0 ∧ M.f0 = M.f1 ∧ M.f1 ≤ L.f1
  q : L.q0 ≤ M.q0 ∧ M.q0 = M.q1 ∧ M.q1 ≤ L.q1
theorem AloneIn.ok {L M : Lw} (h : L.Ok) (k : AloneIn L M) : M.Ok := by
  obtain ⟨a, b, c, d, e⟩ := h
  obtain ⟨a', b', c', d', e'⟩ := k
  exact ⟨by omega, by omega, by omega, by omega, by omega⟩
theorem WithinLaw_ok (s : Int) (L : Lw) (h : L.Ok) : ∃ (M : Lw) (s' : Int), AloneIn L M ∧ ∀ (H : Heap) (n : Nat), H n = S1 s → Ev T (.call (.func (.func 28) [] []) [.ptr n 0 0, L.I, .bool true] H) (.call M.I (H.set n (S1 s'))) := by
  obtain ⟨hp, hg, hs, hf, hq⟩ := h
  obtain ⟨a, t1, a0, a1, k1⟩ := In_any s L.p0 L.p1 (by omega) (by omega) (by omega)
  obtain ⟨a', t2, _, _, k2⟩ := In_any t1 L.p0 L.p1 (by omega) (by omega) (by omega)
  obtain ⟨b, t3, b0, b1, k3⟩ := In_any t2 L.g0 L.g1 (by omega) (by omega) (by omega)
  obtain ⟨b', t4, _, _, k4⟩ := In_any t3 L.g0 L.g1 (by omega) (by omega) (by omega)
  obtain ⟨c, t5, c0, c1, k5⟩ := In_any t4 L.s0 L.s1 (by omega) (by omega) (by omega)
  obtain ⟨c', t6, _, _, k6⟩ := In_any t5 L.s0 L.s1 (by omega) (by omega) (by omega)
  obtain ⟨d, t7, d0, d1, k7⟩ := In_any t6 L.f0 L.f1 (by omega) (by omega) (by omega)
  obtain ⟨d', t8, _, _, k8⟩ := In_any t7 L.f0 L.f1 (by omega) (by omega) (by omega)
  obtain ⟨e, t9, e0, e1, k9⟩ := In_any t8 L.q0 L.q1 (by omega) (by omega) (by omega)
  obtain ⟨e', t10, _, _, k10⟩ := In_any t9 L.q0 L.q1 (by omega) (by omega) (by omega)
  refine ⟨⟨min a a, max a a, min b b, max b b, min c c, max c c, min d d, max d d, min e e, max e e⟩, t10, ⟨by dsimp only; omega, by dsimp only; omega, by dsimp only; omega, by dsimp only; omega, by dsimp only; omega⟩,
    fun H n hn => run_one T28 (lawI_no ..) (nn_cons L.I_no (nn_cons (.bool _) nn_none)) (S1_no _) (S1_no _) ?_ H hn⟩
  repeat' ((conv => whnf); first | (refine CallP.one (fun H hb => k1 H _ hb) rfl ?_) | (refine CallP.one (fun H hb => k2 H _ hb) rfl ?_) | (refine CallP.one (fun H hb => k3 H _ hb) rfl ?_) | (refine CallP.one (fun H hb => k4 H _ hb) rfl ?_) | (refine CallP.one (fun H hb => k5 H _ hb) rfl ?_) | (refine CallP.one (fun H hb => k6 H _ hb) rfl ?_) | (refine CallP.one (fun H hb => k7 H _ hb) rfl ?_) | (refine CallP.one (fun H hb => k8 H _ hb) rfl ?_) | (refine CallP.one (fun H hb => k9 H _ hb) rfl ?_) | (refine CallP.one (fun H hb => k10 H _ hb) rfl ?_) | (refine CallP.inl T81 rfl ?_) | (first | refine condP.dec (fun h => ?_) (fun h => ?_) | refine condP.eq (fun h => ?_) (fun h => ?_) | refine condP.ne (fun h => ?_) (fun h => ?_)) | (refine .i64 (by omega) (by omega) ?_) | (refine onSome.intro (idx_fs rfl rfl (by omega) (by omega) (fun _ => rfl)) ?_) | (refine onSome.intro (load_fs rfl (by omega) (by omega) rfl) ?_) | (refine And.intro rfl ?_))
  conv => whnf
  exact .one (u := lawI _ _ _ _ _ _ _ _ _ _) (.inl rfl) rfl rfl (.refl _) (lawI_no ..)

theorem rdR_no (r : Rd) : ∀ x ∈ rdR r, Noname x := nn_cons (.int _ _) (nn_cons (.int _ _) (nn_cons (.int _ _) (nn_cons (.int _ _) nn_none)))
/-- A reading with which an exact law agrees. -/
structure ReadIn (M : Lw) (r : Rd) : Prop where
  volts : Volts r.v r.w
  lo : r.c ≤ cLo M.p0 M.g1 M.s0 M.f0 M.q0 r.v r.w
  hi : cLo M.p0 M.g1 M.s0 M.f0 M.q0 r.v r.w ≤ r.d
theorem S_no (L : Lw) : NonameS L.S := noS_row (by simp [nn_int])
theorem ReadsOf_ok (s : Int) (M : Lw) (h : M.Ok) : ∃ (l : List Rd) (s' : Int), l.length ≤ 5 ∧ (∀ r ∈ l, ReadIn M r) ∧ ∀ (H : Heap) (n : Nat), H n = S1 s → Ev T (.call (.func (.func 45) [] []) [.ptr n 0 0, M.I] H) (.call (rsI l) (H.set n (S1 s'))) := by
  have key := run_one_some T45 (i := 0) (off := 0) (args := [M.I]) (s := S1 s) (P := fun v z => ∃ (l : List Rd) (s' : Int), v = rsI l ∧ z = S1 s' ∧ l.length ≤ 5 ∧ ∀ r ∈ l, ReadIn M r)
    (nn_cons M.I_no nn_none) (S1_no _) (by
    have q := Upto_any s 5 (by omega)
    obtain ⟨N, s1, N0, N1, k0⟩ := q
    repeat' ((conv => whnf); first | (refine CallP.one (fun H hb => k0 H _ hb) rfl ?_) | (first | refine condP.dec (fun h => ?_) (fun h => ?_) | refine condP.eq (fun h => ?_) (fun h => ?_) | refine condP.ne (fun h => ?_) (fun h => ?_)) | (refine .i64 (by omega) (by omega) ?_) | (refine onSome.intro (idx_fs rfl rfl (by omega) (by omega) (fun _ => rfl)) ?_) | (refine onSome.intro (load_fs rfl (by omega) (by omega) rfl) ?_) | (refine And.intro rfl ?_))
    conv => whnf
    refine .pad 1 ?_
    refine loop_grow (X := Nat × List Rd × Int) (fun x => [(0, .ptr 0 0 0), (3, .ptr 1 0 0), (5, omsl 2 x.2.1), (6, .int .i64 x.1)]) (fun x => [S1 x.2.2, M.S, lsS 4 rdR x.2.1])
      (fun x => x.1) (fun x => x.1 + x.2.1.length ≤ 5 ∧ ∀ r ∈ x.2.1, ReadIn M r) (N.toNat, [], s1) ⟨by simp; omega, fun r hr => by simp at hr⟩ ⟨rfl, rfl, rfl, congrArg (IV.int .i64) (by dsimp only; omega), trivial⟩ rfl (fun x hx => ?_)
    obtain ⟨i, out, s⟩ := x
    obtain ⟨hi, hall⟩ := hx
    dsimp only at hi hall ⊢
    by_cases hlt : 0 < i
    · have y := Between_any s (-6000) 3000 (by omega) (by omega) (by omega)
      obtain ⟨a, t1, a0, a1, j1⟩ := y
      have y := Between_any t1 0 300000 (by omega) (by omega) (by omega)
      obtain ⟨b, t2, b0, b1, j2⟩ := y
      have y := Upto_any t2 20 (by omega)
      obtain ⟨c, t3, c0, c1, j3⟩ := y
      have y := Upto_any t3 20 (by omega)
      obtain ⟨d, t4, d0, d1, j4⟩ := y
      have hv : Volts a b := ⟨by omega, by omega, by omega, by omega⟩
      have kc := rCurrent_ok M.p0 M.p1 M.g0 M.g1 M.s0 M.s1 M.f0 M.f1 M.q0 M.q1 a b
      have he : askErr M.p0 M.p1 M.g0 M.g1 M.s0 M.s1 M.f0 M.f1 M.q0 M.q1 a b = 0 := by
        unfold askErr
        rw [lawErr_zero.mpr h, if_neg (by simp), if_pos hv]
      rw [he, orErr, if_pos rfl] at kc
      have u0 := cLo_bounds (grid := a) (plate := b) h
      have u1 := cLo_le_cHi (grid := a) (plate := b) h (by omega)
      have u2 := cHi_bounds (grid := a) (plate := b) h
      obtain ⟨x, hx⟩ : ∃ x, x = cLo M.p0 M.g1 M.s0 M.f0 M.q0 a b := ⟨_, rfl⟩
      have nw : ReadIn M ⟨a, b, x - c, x + d⟩ := ⟨hv, by dsimp only; omega, by dsimp only; omega⟩
      rw [← hx] at kc u0 u1
      generalize cHi M.p1 M.g0 M.s1 M.f1 M.q1 a b = z at *
      repeat' ((conv => whnf); first | (refine force_om ?_) | (refine forceC_om ?_) | (refine condP.dec (fun _ => ?_) (fun h => absurd (by omega) h)) | (refine CallP.one (fun H hb => j1 H _ hb) rfl ?_) | (refine CallP.one (fun H hb => j2 H _ hb) rfl ?_) | (refine CallP.one (fun H hb => j3 H _ hb) rfl ?_) | (refine CallP.one (fun H hb => j4 H _ hb) rfl ?_) | (refine CallP.pure kc ?_) | (first | refine condP.dec (fun h => ?_) (fun h => ?_) | refine condP.eq (fun h => ?_) (fun h => ?_) | refine condP.ne (fun h => ?_) (fun h => ?_)) | (refine .i64 (by omega) (by omega) ?_) | (refine onSome.intro (idx_fs rfl rfl (by omega) (by omega) (fun _ => rfl)) ?_) | (refine onSome.intro (load_fs rfl (by omega) (by omega) rfl) ?_) | (refine And.intro rfl ?_))
      conv => whnf
      refine .snoc (enc := rdR) (l := out) (b := 2) (r := [.int .i64 a, .int .i64 b, .int .i64 (x - c), .int .i64 (x + d)]) rfl rfl rfl rfl (fun c hc => by simp at hc; rcases hc with rfl | rfl | rfl | rfl <;> rfl) (by omega) ?_
      (repeat ((conv => whnf); refine And.intro rfl ?_)); conv => whnf
      refine .i64 (by omega) (by omega) ?_
      conv => whnf
      refine .more (i - 1, out ++ [⟨a, b, x - c, x + d⟩], t4) [0, 1, 6] rfl ⟨by simp; omega, fun r hr => ?_⟩ (by dsimp only; omega) rfl ⟨.pt rfl, .pt rfl, .grown rfl (by simp) (by simp), .nn (.int _ _) (frz_int (by dsimp only; omega)), trivial⟩
            ⟨.same (S1_no _), .same (S_no _), .snocL (enc := rdR) (a := ⟨a, b, x - c, x + d⟩) rdR_no (.cons (.same (.int _ _)) (.cons (.same (.int _ _)) (.cons (.same (.int _ _)) (.cons (.same (.int _ _)) .nil)))), trivial⟩
      rcases List.mem_append.mp hr with h | h
      · exact hall r h
      · rw [List.mem_singleton.mp h]; exact nw
    · rcases out with _ | ⟨o, out⟩
      · repeat' ((conv => whnf); first | (refine force_om ?_) | (refine forceC_om ?_) | (refine condP.dec (fun h => absurd h (by omega)) (fun _ => ?_)) | (first | refine condP.dec (fun h => ?_) (fun h => ?_) | refine condP.eq (fun h => ?_) (fun h => ?_) | refine condP.ne (fun h => ?_) (fun h => ?_)) | (refine .i64 (by omega) (by omega) ?_) | (refine onSome.intro (idx_fs rfl rfl (by omega) (by omega) (fun _ => rfl)) ?_) | (refine onSome.intro (load_fs rfl (by omega) (by omega) rfl) ?_) | (refine And.intro rfl ?_))
        refine .done (by simp) ?_
        repeat' ((conv => whnf); first | (refine force_om ?_) | (refine forceC_om ?_) | (first | refine condP.dec (fun h => ?_) (fun h => ?_) | refine condP.eq (fun h => ?_) (fun h => ?_) | refine condP.ne (fun h => ?_) (fun h => ?_)) | (refine .i64 (by omega) (by omega) ?_) | (refine onSome.intro (idx_fs rfl rfl (by omega) (by omega) (fun _ => rfl)) ?_) | (refine onSome.intro (load_fs rfl (by omega) (by omega) rfl) ?_) | (refine And.intro rfl ?_))
        conv => whnf
        exact .intro (rsI []) (S1 s) ⟨[], s, rfl, rfl, by simp, hall⟩ (rsI_no _) (S1_no _) (.one (u := .nilslice) (.inl rfl) rfl rfl .nil (rsI_no _))
      · simp only [List.length_cons] at hi
        repeat' ((conv => whnf); first | (refine force_om ?_) | (refine forceC_om ?_) | (refine condP.dec (fun h => absurd h (by omega)) (fun _ => ?_)) | (first | refine condP.dec (fun h => ?_) (fun h => ?_) | refine condP.eq (fun h => ?_) (fun h => ?_) | refine condP.ne (fun h => ?_) (fun h => ?_)) | (refine .i64 (by omega) (by omega) ?_) | (refine onSome.intro (idx_fs rfl rfl (by omega) (by omega) (fun _ => rfl)) ?_) | (refine onSome.intro (load_fs rfl (by omega) (by omega) rfl) ?_) | (refine And.intro rfl ?_))
        refine .done (by simp) ?_
        repeat' ((conv => whnf); first | (refine force_om ?_) | (refine forceC_om ?_) | (first | refine condP.dec (fun h => ?_) (fun h => ?_) | refine condP.eq (fun h => ?_) (fun h => ?_) | refine condP.ne (fun h => ?_) (fun h => ?_)) | (refine .i64 (by omega) (by omega) ?_) | (refine onSome.intro (idx_fs rfl rfl (by omega) (by omega) (fun _ => rfl)) ?_) | (refine onSome.intro (load_fs rfl (by omega) (by omega) rfl) ?_) | (refine And.intro rfl ?_))
        conv => whnf
        exact .intro (rsI (o :: out)) (S1 s) ⟨o :: out, s, rfl, rfl, by simp only [List.length_cons]; omega, hall⟩ (rsI_no _) (S1_no _) (.one (u := .mslice 2 0 (out.length + 1) (out.length + 1) false) (.inl rfl) rfl rfl (.whole (sz := 4) (es := (o :: out).map rdR) rfl (fun _ _ h => by cases h) (by simp) (.refl _)) (rsI_no _)))
  obtain ⟨v, z, ⟨l, s', rfl, rfl, hl, hall⟩, _, _, hh⟩ := key
  exact ⟨l, s', hl, hall, fun H n hn => hh H n hn⟩
end Go.Proofs.Ytbomgfbfnkfamaa.I
