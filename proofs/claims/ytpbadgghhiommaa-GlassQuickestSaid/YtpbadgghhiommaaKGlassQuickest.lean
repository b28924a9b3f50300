/- GlassQuickest runs to true. -/
import Derived.Test.YtpbadgghhiommaaKGlassFastest
set_option linter.unusedVariables false
set_option maxHeartbeats 64000000
set_option linter.unusedSimpArgs false
namespace Go.Proofs.Ytpbadgghhiommaa.I
open Go.Ideal

theorem slice_ms {L : List Slot} {E : Env} {x h : Opd} {b len lb sz sz' : Nat} {ex : Bool} {es : Els} {k : IntKind} {n : Int} (hx : x.ev E = .mslice b 0 len lb ex) (hh : h.ev E = .int k n) (hL : L[b]? = some (.live sz' es)) (h0 : 0 ≤ n) (h1 : n ≤ lb) (hs : sz ≠ 0) :
    iop (Heap.of L) E (.slice sz x none (some h) none) = some (.mslice b 0 n.toNat lb ex) := by
  have e : (Heap.of L) b = .live sz' es := Heap.of_get hL
  simp [iop, hx, IV.isSlice, hs, sliceI, bound?, hh, h0, h1, e]
theorem Frz.take {H H' : Heap} {b len lb sz : Nat} {ex : Bool} {l : List Int} (hH : H b = .live sz (l.map ei)) (hH' : ∀ sz e, H' b ≠ .live sz e) (hl : len ≤ l.length) : Frz H H' (.mslice b 0 len lb ex) (sl (l.take len)) := by
  refine .mslice hH hH' (by simp; omega) (by simp; omega) (fun j h h' => ?_) (fun j k h h' hk hk' => ?_)
  · simp [ei]
  · have e : ((l.take len).map ei)[j] = (l.map ei)[0 + j] := by simp
    have : ((l.take len).map ei)[j][k] = (l.map ei)[0 + j][k] := by simp only [e]
    rw [this]
    exact .refl _
/-- All lists, in the making. -/
def partA (m n i : Nat) : List (List Int) := if m = 1 then ext [] i else extL n (ext [] n) i
theorem partA_zero (m n : Nat) : partA m n 0 = [] := by unfold partA; split <;> rfl
theorem partA_one (n i : Nat) : partA 1 n (i + 1) = partA 1 n i ++ [[(i : Int)]] := by
  unfold partA
  rw [if_pos rfl, if_pos rfl, ext_succ]
  rfl
theorem partA_two {n i : Nat} (h : i < n) : partA 2 n (i + 1) = partA 2 n i ++ ext [(i : Int)] n := by
  unfold partA
  rw [if_neg (by decide), if_neg (by decide), extL]
  have : at' (ext [] n) (i : Int) = [(i : Int)] := by
    rw [at'_get (by rw [ext_len]; exact h)]
    simp [ext]
  rw [this]
theorem partA_all {m n : Nat} (h : m = 1 ∨ m = 2) : partA m n n = listsL n m := by
  have e : listsL n 1 = ext [] n := rfl
  rcases h with rfl | rfl
  · unfold partA; rw [if_pos rfl, e]
  · unfold partA
    rw [if_neg (by decide)]
    show _ = extL n (listsL n 1) (listsL n 1).length
    rw [e, ext_len]
theorem partA_len {m n : Nat} (i : Nat) (hn : n ≤ 3) (hi : i ≤ n) : (partA m n i).length ≤ 9 := by
  unfold partA
  split
  · rw [ext_len]; omega
  · rw [extL_len]
    have : i * n ≤ 3 * 3 := Nat.mul_le_mul (by omega) hn
    omega
/-- The value, the block of the list in the making: the empty one is a list too. -/
def alV (A : List (List Int)) : IV := .mslice 4 0 A.length A.length A.isEmpty
theorem OpP.appE {E : Env} {L : List Slot} {zero : List Cst} {bytes : Nat} {s x : Opd} {K : IV → List Slot → Prop} {A : List (List Int)} {r : List IV} (hs : s.ev E = alV A) (hz1 : zero.length = 1) (hH : L[4]? = some (.live 1 (A.map el))) (hx : elsOf (Heap.of L) (x.ev E) = some [r])
    (hz : r.length = 1) (hok : ∀ c ∈ r, IV.cellOk c = true) (hbig : (A.length + 1) * (bytes + 1) ≤ 2 ^ 40)
    (k : ∀ t : Slot, t = .dead ∨ t = .live 1 [] → setK L 4 t fun L1 => litK L1.length fun n => snocK L1 (.live 1 (A.map el ++ [r])) (K (.mslice n 0 (A.length + 1) (A.length + 1) false))) : OpP E L (.append zero bytes s x) K := by
  obtain ⟨z, rfl⟩ := List.length_eq_one_iff.mp hz1
  have hzr : ∀ e ∈ [r], e.length = [z].length := fun e he => by obtain rfl := List.mem_singleton.mp he; exact hz
  have hokr : ∀ e ∈ [r], ∀ c ∈ e, IV.cellOk c = true := fun e he => by obtain rfl := List.mem_singleton.mp he; exact hok
  cases A with
  | nil =>
    have k := k (.live 1 []) (.inr rfl)
    obtain ⟨h1, h2⟩ := setK_elim k
    have e : L.set 4 (.live 1 []) = L := by
      apply List.ext_getElem? ; intro i
      by_cases q : i = 4
      · subst q; rw [List.getElem?_set_self h1]; exact hH.symm
      · rw [List.getElem?_set_ne (fun z => q z.symm)]
    rw [e] at h2
    exact .full (es := []) (n := 0) hs hH rfl hx (by simp) hzr hokr rfl (by simp) (by simpa using hbig) h2
  | cons a A =>
    exact .grow (ex := false) (n := A.length + 1) hs hH (by simp) hx (by simp) hzr hokr rfl (by simp) hbig (k .dead (.inl rfl))
theorem MvS.appE {kept : List Nat} {H H' : Heap} {A : List (List Int)} {a : List Int} {v : IV} (h : Frz H H' v (sl a)) : MvS kept H H' (.live 1 (A.map el ++ [[v]])) (.live 1 ((A ++ [a]).map el)) := by
  have := @MvS.snocL kept H H' 1 (List Int) el A a [v] el_no (.cons (.nn (sl_no _) h) .nil)
  rwa [lsS_ne (by simp)] at this
theorem Mv.appE {kept : List Nat} {H H' : Heap} {b : Nat} {A : List (List Int)} {a : List Int} (h : kept[4]? = some b) : Mv kept H H' (.mslice b 0 (A.length + 1) (A.length + 1) false) (alV (A ++ [a])) := by
  have e : alV (A ++ [a]) = .mslice 4 0 (A.length + 1) (A.length + 1) false := by simp [alV]
  rw [e]
  exact .ms h

theorem GlassQuickest_ok (nums : List Int) (hn : nums.length ≤ 9223372036854775807) (H : Heap) :
    Ev T (.call (.func (.func 18) [] []) [sl nums] H) (.call (.bool true) H) := by
  refine run_pure T18 (nn_bool _) (nn_cons (sl_no _) nn_none) ?_ H
  have q := NewDice_ok nums hn
  obtain ⟨s0, kd⟩ := q
  have q := StuffOf_ok s0
  obtain ⟨bx, x, s1, bx0, bx1, hx, kx⟩ := q
  have q := Between_any s1 1 30 (by omega) (by omega) (by omega)
  obtain ⟨wall, s2, w0, w1, kw⟩ := q
  have q := Between_any s2 500 1200 (by omega) (by omega) (by omega)
  obtain ⟨heat, s3, t0, t1, kh⟩ := q
  have q := Between_any s3 300 1000 (by omega) (by omega) (by omega)
  obtain ⟨a1, s4, a10, a11, k1⟩ := q
  have q := Between_any s4 300 600 (by omega) (by omega) (by omega)
  obtain ⟨a2, s5, a20, a21, k2⟩ := q
  have q := Between_any s5 1 9 (by omega) (by omega) (by omega)
  obtain ⟨p1, s6, p10, p11, k3⟩ := q
  have q := Between_any s6 1 20 (by omega) (by omega) (by omega)
  obtain ⟨p2, s7, p20, p21, k4⟩ := q
  have q := Between_any s7 1 20 (by omega) (by omega) (by omega)
  obtain ⟨p3, s8, p30, p31, k5⟩ := q
  have q := Between_any s8 1 2 (by omega) (by omega) (by omega)
  obtain ⟨m, s9, m0, m1, k6⟩ := q
  have q := Between_any s9 1 3 (by omega) (by omega) (by omega)
  obtain ⟨n, s10, n0, n1, k7⟩ := q
  obtain ⟨m, rfl⟩ := Int.eq_ofNat_of_zero_le (show 0 ≤ m by omega)
  obtain ⟨n, rfl⟩ := Int.eq_ofNat_of_zero_le (show 0 ≤ n by omega)
  have hxl := hx.len
  repeat' ((conv => whnf); first | (refine CallP.new kd ?_) | (refine CallP.one (fun H hb => kx H _ hb) rfl ?_) | (refine CallP.one (fun H hb => kw H _ hb) rfl ?_) | (refine CallP.one (fun H hb => kh H _ hb) rfl ?_) | (refine CallP.one (fun H hb => k1 H _ hb) rfl ?_) | (refine CallP.one (fun H hb => k2 H _ hb) rfl ?_) | (refine CallP.one (fun H hb => k3 H _ hb) rfl ?_) | (refine CallP.one (fun H hb => k4 H _ hb) rfl ?_) | (refine CallP.one (fun H hb => k5 H _ hb) rfl ?_) | (refine CallP.one (fun H hb => k6 H _ hb) rfl ?_) | (refine CallP.one (fun H hb => k7 H _ hb) rfl ?_) | (refine onSome.intro (slice_ms (n := (m : Int)) rfl rfl rfl (by omega) (by omega) (by decide)) ?_) | (refine onSome.intro (slice_ms (n := (n : Int)) rfl rfl rfl (by omega) (by omega) (by decide)) ?_) | (refine And.intro (slice_ms (n := (m : Int)) rfl rfl rfl (by omega) (by omega) (by decide)) ?_) | (first | refine condP.dec (fun h => ?_) (fun h => ?_) | refine condP.eq (fun h => ?_) (fun h => ?_) | refine condP.ne (fun h => ?_) (fun h => ?_)) | (refine .i64 (by omega) (by omega) ?_) | (refine onSome.intro (idx_fs rfl rfl (by omega) (by omega) (fun _ => rfl)) ?_) | (refine onSome.intro (load_fs rfl (by omega) (by omega) rfl) ?_) | (refine And.intro rfl ?_))
  all_goals first | (exfalso; omega) | skip
  conv => whnf
  have hsl : ([a1, a2].take m).length = m := by simp; omega
  have hpl : ([p1, p2, p3].take n).length = n := by simp; omega
  have hs3 : InL ([a1, a2].take m) 0 2000 := fun i hi => by
    rw [at'_get hi]
    have := List.mem_of_mem_take (List.getElem_mem hi)
    simp only [List.mem_cons, List.not_mem_nil, or_false] at this
    rcases this with e | e <;> rw [e] <;> omega
  have hp3 : InL ([p1, p2, p3].take n) 1 200 := fun i hi => by
    rw [at'_get hi]
    have := List.mem_of_mem_take (List.getElem_mem hi)
    simp only [List.mem_cons, List.not_mem_nil, or_false] at this
    rcases this with e | e | e <;> rw [e] <;> omega
  refine .start [2, 3] [(3, .ptr 0 0 0), (4, .ptr 1 0 0), (5, .int .i64 wall), (6, .int .i64 heat), (7, sl ([a1, a2].take m)), (8, sl ([p1, p2, p3].take n)), (9, nilOr (([], 0) : List Int × Int).1), (10, .int .i64 (([], 0) : List Int × Int).2), (11, .int .i64 (0 : Int)), (12, .int .i64 0)] rfl
    ⟨.refl _, .refl _, .refl _, .refl _, Frz.take (l := [a1, a2]) rfl (fun _ _ h => by cases h) (by simp; omega), Frz.take (l := [p1, p2, p3]) rfl (fun _ _ h => by cases h) (by simp; omega), .refl _, .refl _, .refl _, .refl _, trivial⟩ ?_
  conv => whnf
  generalize [a1, a2].take m = st at *
  generalize [p1, p2, p3].take n = ps at *
  have e1 : (st.map ei).length = st.length := List.length_map ..
  have e2 : (ps.map ei).length = ps.length := List.length_map ..
  have hE1 : listE st 4 0 2000 = 0 := by
    unfold listE
    rw [if_neg (by omega), if_neg (by omega), if_pos hs3]
  have hE2 : listE ps 4 1 200 = 0 := by
    unfold listE
    rw [if_neg (by omega), if_neg (by omega), if_pos hp3]
  have hfo : ¬ Outs heat 2000 := by unfold Outs; omega
  have hR : ∀ left, 0 ≤ left → left ≤ 1099511627776 → fastR bx x wall heat st ps left = if (fastB bx x wall heat st ps left).1 = [] then (([], 0), 7) else (fastB bx x wall heat st ps left, 0) := fun left h0 h1 => by
    unfold fastR
    rw [if_neg (by rw [check_ok bx0 bx1 hx]; simp), if_neg (by rintro (h | h); omega; exact hfo h), hE1, hE2, if_neg (by simp), if_neg (by simp), if_neg (by unfold Outs; omega)]
  have hkf := fun left => Fastest_ok bx x (by omega) wall heat st ps (by omega) (by omega) left
  have hoo := fun o h1 h2 => @legsO_ok heat ps st o hfo hE1 hE2 h1 h2
  have hks := fun left => (fastR_len bx x wall heat st ps left)
  refine loop_grow (X := Nat × Int × Int × (List Int × Int)) (fun y => [(3, .ptr 0 0 0), (4, .ptr 1 0 0), (5, .int .i64 wall), (6, .int .i64 heat), (7, sl st), (8, sl ps), (9, nilOr y.2.2.2.1), (10, .int .i64 y.2.2.2.2), (11, .int .i64 y.2.1), (12, .int .i64 y.1)]) (fun y => [S1 y.2.2.1, .live 2 [[.int .i64 bx, zsl x]], .dead, .dead]) (fun y => 2 - y.1)
    (fun y => y.1 ≤ 2 ∧ 0 ≤ y.2.1 ∧ y.2.1 ≤ 1099511627776 ∧ (y.1 ≤ 1 → y.2.2.2 = ([], 0)) ∧ (y.1 = 2 → y.2.2.2 = fastB bx x wall heat st ps y.2.1)) (0, 0, s10, ([], 0)) ⟨by dsimp only; omega, by dsimp only; omega, by dsimp only; omega, fun _ => rfl, fun h => by cases h⟩
    ⟨rfl, rfl, rfl, rfl, rfl, rfl, rfl, rfl, rfl, rfl, trivial⟩ rfl (fun y hy => ?_)
  obtain ⟨rd, left, s, bb⟩ := y
  obtain ⟨hrd, hl0, hl1, hb01, hb2⟩ := hy
  dsimp only at hrd hl0 hl1 hb01 hb2 ⊢
  by_cases hr2 : rd = 2
  · subst hr2
    have hbb := hb2 rfl
    have hRl := hR left hl0 hl1
    rw [← hbb] at hRl
    have kf := hkf left
    rw [hRl] at kf
    have hkl := hks left
    rw [hRl] at hkl
    clear hR hkf hks
    obtain ⟨best, least⟩ := bb
    dsimp only at *
    rcases best with _ | ⟨b0, bs⟩
    · rw [if_pos rfl] at kf
      have kf' : ∃ z : Int, z = 7 ∧ ∀ H, Ev T (.call (.func (.func 77) [] []) [stuffI bx x, .int .i64 wall, .int .i64 heat, sl st, sl ps, .int .i64 left] H) (.call (.tuple [sl [], .int .i64 0, .int .i64 z]) H) := ⟨7, rfl, kf⟩
      obtain ⟨z, hz, kf'⟩ := kf'
      repeat' ((conv => whnf); first | (refine condP.dec (fun h => absurd h (by omega)) (fun _ => ?_)) | (first | refine condP.dec (fun h => ?_) (fun h => ?_) | refine condP.eq (fun h => ?_) (fun h => ?_) | refine condP.ne (fun h => ?_) (fun h => ?_)) | (refine .i64 (by omega) (by omega) ?_) | (refine onSome.intro (idx_fs rfl rfl (by omega) (by omega) (fun _ => rfl)) ?_) | (refine onSome.intro (load_fs rfl (by omega) (by omega) rfl) ?_) | (refine And.intro rfl ?_))
      refine .done (by simp) ?_
      conv => whnf
      refine CallP.pure kf' ?_
      conv => whnf
      refine condP.eq (fun _ => ?_) (fun h => absurd hz h)
      conv => whnf
      refine CallP.pure awake_ok ?_
      conv => whnf
      exact PureP.intro (.bool true) (.inl rfl) rfl (.refl _)
    · rw [if_neg (by simp)] at kf hkl
      have kf' : ∃ z : Int, z = 0 ∧ ∀ H, Ev T (.call (.func (.func 77) [] []) [stuffI bx x, .int .i64 wall, .int .i64 heat, sl st, sl ps, .int .i64 left] H) (.call (.tuple [sl (b0 :: bs), .int .i64 least, .int .i64 z]) H) := ⟨0, rfl, kf⟩
      obtain ⟨z, hz, kf'⟩ := kf'
      have ks : ∀ H, Ev T (.call (.func (.func 52) [] []) [sl (b0 :: bs), sl (b0 :: bs)] H) (.call (.bool true) H) := fun H => by
        have := Same_ok (b0 :: bs) (b0 :: bs) (by dsimp only at hkl; omega) H
        rwa [decide_eq_true rfl] at this
      have hpos : (((b0 :: bs).map ei).length : Int) ≠ 0 := by simp; omega
      repeat' ((conv => whnf); first | (refine condP.dec (fun h => absurd h (by omega)) (fun _ => ?_)) | (first | refine condP.dec (fun h => ?_) (fun h => ?_) | refine condP.eq (fun h => ?_) (fun h => ?_) | refine condP.ne (fun h => ?_) (fun h => ?_)) | (refine .i64 (by omega) (by omega) ?_) | (refine onSome.intro (idx_fs rfl rfl (by omega) (by omega) (fun _ => rfl)) ?_) | (refine onSome.intro (load_fs rfl (by omega) (by omega) rfl) ?_) | (refine And.intro rfl ?_))
      refine .done (by simp) ?_
      conv => whnf
      refine CallP.pure kf' ?_
      conv => whnf
      refine condP.eq (fun _ => ?_) (fun h => absurd hz h)
      conv => whnf
      refine CallP.pure ks ?_
      conv => whnf
      refine condP.same1 ?_
      conv => whnf
      refine CallP.pure awake_ok ?_
      conv => whnf
      exact PureP.intro (.bool true) (.inl rfl) rfl (.refl _)
  have hbb := hb01 (by omega)
  subst hbb
  clear hR hkf hks hb01 hb2
  repeat' ((conv => whnf); first | (refine condP.dec (fun _ => ?_) (fun h => absurd (by omega) h)) | (first | refine condP.dec (fun h => ?_) (fun h => ?_) | refine condP.eq (fun h => ?_) (fun h => ?_) | refine condP.ne (fun h => ?_) (fun h => ?_)) | (refine .i64 (by omega) (by omega) ?_) | (refine onSome.intro (idx_fs rfl rfl (by omega) (by omega) (fun _ => rfl)) ?_) | (refine onSome.intro (load_fs rfl (by omega) (by omega) rfl) ?_) | (refine And.intro rfl ?_))
  conv => whnf
  refine loop_grow (X := Nat) (fun i => [(3, .ptr 0 0 0), (4, .ptr 1 0 0), (5, .int .i64 wall), (6, .int .i64 heat), (7, sl st), (8, sl ps), (9, nilOr (([], 0) : List Int × Int).1), (10, .int .i64 (([], 0) : List Int × Int).2), (11, .int .i64 left), (12, .int .i64 rd), (13, alV (partA m n i)), (14, .int .i64 i)]) (fun i => [S1 s, .live 2 [[.int .i64 bx, zsl x]], .dead, .dead, .live 1 ((partA m n i).map el)]) (fun i => n - i) (fun i => i ≤ n) 0
    (Nat.zero_le _) ⟨rfl, rfl, rfl, rfl, rfl, rfl, rfl, rfl, rfl, rfl, (by rw [partA_zero]; rfl), rfl, trivial⟩ (by rw [partA_zero]; rfl) (fun i hi => ?_)
  have hpA := partA_len (m := m) i (show n ≤ 3 by omega) hi
  rcases Nat.lt_or_ge i n with hlt | hge
  · rcases (show m = 1 ∨ m = 2 by omega) with hm | hm
    · have hnx := partA_one n i
      subst hm
      generalize hA : partA 1 n i = A at *
      repeat' ((conv => whnf); first | (refine condP.dec (fun _ => ?_) (fun h => absurd (by omega) h)) | (refine condP.eq (fun _ => ?_) (fun h => absurd (by omega) h)) | (first | refine condP.dec (fun h => ?_) (fun h => ?_) | refine condP.eq (fun h => ?_) (fun h => ?_) | refine condP.ne (fun h => ?_) (fun h => ?_)) | (refine .i64 (by omega) (by omega) ?_) | (refine onSome.intro (idx_fs rfl rfl (by omega) (by omega) (fun _ => rfl)) ?_) | (refine onSome.intro (load_fs rfl (by omega) (by omega) rfl) ?_) | (refine And.intro rfl ?_))
      refine OpP.appE (A := A) (r := [.mslice 5 0 1 1 true]) rfl rfl rfl rfl rfl (fun c hc => by obtain rfl := List.mem_singleton.mp hc; rfl) (by omega) (fun t ht => ?_)
      conv => whnf
      refine loop_step ?_
      repeat' ((conv => whnf); first | (refine condP.dec (fun _ => ?_) (fun h => absurd (by omega) h)) | (refine condP.eq (fun h => absurd h (by omega)) (fun _ => ?_)) | (first | refine condP.dec (fun h => ?_) (fun h => ?_) | refine condP.eq (fun h => ?_) (fun h => ?_) | refine condP.ne (fun h => ?_) (fun h => ?_)) | (refine .i64 (by omega) (by omega) ?_) | (refine onSome.intro (idx_fs rfl rfl (by omega) (by omega) (fun _ => rfl)) ?_) | (refine onSome.intro (load_fs rfl (by omega) (by omega) rfl) ?_) | (refine And.intro rfl ?_))
      exact .more (i + 1) [0, 1, 2, 3, 7] rfl (by omega) (by omega) rfl ⟨.pt rfl, .pt rfl, .same (.int _ _), .same (.int _ _), .same (sl_no _), .same (sl_no _), .same .nilslice, .same (.int _ _), .same (.int _ _), .same (.int _ _), (by rw [hnx]; exact Mv.appE rfl), .nn (.int _ _) (frz_int (by omega)), trivial⟩
        ⟨.same (S1_no _), .same (noS_row (stuff_row _ _)), .same (s := .dead) trivial, .same (s := .dead) trivial, (by rw [hnx]; exact MvS.appE (.ints (sz := 1) (l := [(i : Int)]) rfl (fun _ _ h => by cases h) rfl)), trivial⟩
    · have hnx := partA_two hlt
      subst hm
      generalize hA : partA 2 n i = A at *
      repeat' ((conv => whnf); first | (refine condP.dec (fun _ => ?_) (fun h => absurd (by omega) h)) | (refine condP.eq (fun h => absurd h (by omega)) (fun _ => ?_)) | (first | refine condP.dec (fun h => ?_) (fun h => ?_) | refine condP.eq (fun h => ?_) (fun h => ?_) | refine condP.ne (fun h => ?_) (fun h => ?_)) | (refine .i64 (by omega) (by omega) ?_) | (refine onSome.intro (idx_fs rfl rfl (by omega) (by omega) (fun _ => rfl)) ?_) | (refine onSome.intro (load_fs rfl (by omega) (by omega) rfl) ?_) | (refine And.intro rfl ?_))
      conv => whnf
      refine loop_grow (X := Nat) (fun k => [(3, .ptr 0 0 0), (4, .ptr 1 0 0), (5, .int .i64 wall), (6, .int .i64 heat), (7, sl st), (8, sl ps), (9, nilOr (([], 0) : List Int × Int).1), (10, .int .i64 (([], 0) : List Int × Int).2), (11, .int .i64 left), (12, .int .i64 rd), (13, alV (A ++ ext [(i : Int)] k)), (14, .int .i64 i), (15, .int .i64 k)]) (fun k => [S1 s, .live 2 [[.int .i64 bx, zsl x]], .dead, .dead, .live 1 ((A ++ ext [(i : Int)] k).map el)]) (fun k => n - k) (fun k => k ≤ n) 0
        (Nat.zero_le _) ⟨rfl, rfl, rfl, rfl, rfl, rfl, rfl, rfl, rfl, rfl, (by show alV A = alV (A ++ []); rw [List.append_nil]), rfl, rfl, trivial⟩ (by show [_, _, _, _, _] = [_, _, _, _, Slot.live 1 ((A ++ []).map el)]; rw [List.append_nil]) (fun k hk => ?_)
      have hel := ext_len [(i : Int)] k
      rcases Nat.lt_or_ge k n with hkl | hkg
      · have hes := ext_succ [(i : Int)] k
        repeat' ((conv => whnf); first | (refine condP.dec (fun _ => ?_) (fun h => absurd (by omega) h)) | (refine condP.eq (fun _ => ?_) (fun h => absurd (by omega) h)) | (first | refine condP.dec (fun h => ?_) (fun h => ?_) | refine condP.eq (fun h => ?_) (fun h => ?_) | refine condP.ne (fun h => ?_) (fun h => ?_)) | (refine .i64 (by omega) (by omega) ?_) | (refine onSome.intro (idx_fs rfl rfl (by omega) (by omega) (fun _ => rfl)) ?_) | (refine onSome.intro (load_fs rfl (by omega) (by omega) rfl) ?_) | (refine And.intro rfl ?_))
        refine OpP.appE (A := A ++ ext [(i : Int)] k) (r := [.mslice 5 0 2 2 true]) rfl rfl rfl rfl rfl (fun c hc => by obtain rfl := List.mem_singleton.mp hc; rfl) (by rw [List.length_append, hel]; omega) (fun t ht => ?_)
        (repeat ((conv => whnf); refine And.intro rfl ?_)); conv => whnf
        refine .i64 (by omega) (by omega) ?_
        conv => whnf
        exact .more (k + 1) [0, 1, 2, 3, 7] rfl (by omega) (by omega) rfl ⟨.pt rfl, .pt rfl, .same (.int _ _), .same (.int _ _), .same (sl_no _), .same (sl_no _), .same .nilslice, .same (.int _ _), .same (.int _ _), .same (.int _ _), (by rw [hes, ← List.append_assoc]; exact Mv.appE rfl), .same (.int _ _), .nn (.int _ _) (frz_int (by omega)), trivial⟩
          ⟨.same (S1_no _), .same (noS_row (stuff_row _ _)), .same (s := .dead) trivial, .same (s := .dead) trivial, (by rw [hes, ← List.append_assoc]; exact MvS.appE (.ints (sz := 1) (l := [(i : Int), (k : Int)]) rfl (fun _ _ h => by cases h) rfl)), trivial⟩
      · obtain rfl : k = n := by omega
        rw [← hnx]
        repeat' ((conv => whnf); first | (refine condP.dec (fun h => absurd h (by omega)) (fun _ => ?_)) | (first | refine condP.dec (fun h => ?_) (fun h => ?_) | refine condP.eq (fun h => ?_) (fun h => ?_) | refine condP.ne (fun h => ?_) (fun h => ?_)) | (refine .i64 (by omega) (by omega) ?_) | (refine onSome.intro (idx_fs rfl rfl (by omega) (by omega) (fun _ => rfl)) ?_) | (refine onSome.intro (load_fs rfl (by omega) (by omega) rfl) ?_) | (refine And.intro rfl ?_))
        refine .done (by simp) ?_
        repeat' ((conv => whnf); first | (refine force_om ?_) | (refine forceC_om ?_) | (first | refine condP.dec (fun h => ?_) (fun h => ?_) | refine condP.eq (fun h => ?_) (fun h => ?_) | refine condP.ne (fun h => ?_) (fun h => ?_)) | (refine .i64 (by omega) (by omega) ?_) | (refine onSome.intro (idx_fs rfl rfl (by omega) (by omega) (fun _ => rfl)) ?_) | (refine onSome.intro (load_fs rfl (by omega) (by omega) rfl) ?_) | (refine And.intro rfl ?_))
        exact .more (i + 1) [0, 1, 2, 3, 4] rfl (by omega) (by omega) rfl ⟨.pt rfl, .pt rfl, .same (.int _ _), .same (.int _ _), .same (sl_no _), .same (sl_no _), .same .nilslice, .same (.int _ _), .same (.int _ _), .same (.int _ _), .ms rfl, .nn (.int _ _) (frz_int (by omega)), trivial⟩
          ⟨.same (S1_no _), .same (noS_row (stuff_row _ _)), .same (s := .dead) trivial, .same (s := .dead) trivial, .same (noS_map el_no), trivial⟩
  obtain rfl : i = n := by omega
  have hall := partA_all (n := i) (show m = 1 ∨ m = 2 by omega)
  rw [hall] at hpA
  rw [hall]
  have hAl := listsL_len i m
  have hAat := fun j hj => @listsL_at i (by omega) m j hj
  generalize hA : listsL i m = A at *
  have e3 : (A.map el).length = A.length := List.length_map ..
  repeat' ((conv => whnf); first | (refine condP.dec (fun h => absurd h (by omega)) (fun _ => ?_)) | (first | refine condP.dec (fun h => ?_) (fun h => ?_) | refine condP.eq (fun h => ?_) (fun h => ?_) | refine condP.ne (fun h => ?_) (fun h => ?_)) | (refine .i64 (by omega) (by omega) ?_) | (refine onSome.intro (idx_fs rfl rfl (by omega) (by omega) (fun _ => rfl)) ?_) | (refine onSome.intro (load_fs rfl (by omega) (by omega) rfl) ?_) | (refine And.intro rfl ?_))
  refine .done (by simp) ?_
  conv => whnf
  refine .start [4] [(3, .ptr 0 0 0), (4, .ptr 1 0 0), (5, .int .i64 wall), (6, .int .i64 heat), (7, sl st), (8, sl ps), (9, nilOr (([], 0) : List Int × Int).1), (10, .int .i64 (([], 0) : List Int × Int).2), (11, .int .i64 left), (12, .int .i64 rd), (13, sll A), (16, .int .i64 0)] rfl
    ⟨.refl _, .refl _, .refl _, .refl _, .refl _, .refl _, .refl _, .refl _, .refl _, .refl _, .whole (sz := 1) rfl (fun _ _ h => by cases h) (by simp) (.refl _), .refl _, trivial⟩ ?_
  conv => whnf
  subst hsl
  subst hpl
  have hS : ∀ left o, sureP bx x wall heat st ps left o ↔ (judgeV bx x wall heat (legN ps st o st.length) left).1 = 1 := fun _ _ => Iff.rfl
  rcases (show rd = 0 ∨ rd = 1 by omega) with hrd0 | hrd0
  all_goals subst hrd0
  · refine loop_grow (X := Nat × Int × Int) (fun y => [(3, .ptr 0 0 0), (4, .ptr 1 0 0), (5, .int .i64 wall), (6, .int .i64 heat), (7, sl st), (8, sl ps), (9, nilOr (([], 0) : List Int × Int).1), (10, .int .i64 (([], 0) : List Int × Int).2), (11, .int .i64 y.2.1), (12, .int .i64 ((0 : Nat) : Int)), (13, sll A), (16, .int .i64 y.1)]) (fun y => [S1 y.2.2, .live 2 [[.int .i64 bx, zsl x]], .dead, .dead, .dead]) (fun y => A.length - y.1) (fun y => y.1 ≤ A.length ∧ 0 ≤ y.2.1 ∧ y.2.1 ≤ 1099511627776) (0, left, s) ⟨Nat.zero_le _, hl0, hl1⟩ ⟨rfl, rfl, rfl, rfl, rfl, rfl, rfl, rfl, rfl, rfl, rfl, rfl, trivial⟩ rfl (fun y hy => ?_)
    obtain ⟨j, lf, ss⟩ := y
    obtain ⟨hj, hf0, hf1⟩ := hy
    dsimp only at hj hf0 hf1 ⊢
    rcases Nat.lt_or_ge j A.length with hlt | hge
    · have hdl := digs_len ps.length st.length j
      have hdi := digs_in (show 0 < ps.length by omega) st.length j
      have hdn := digs_ne (b := ps.length) (show 0 < st.length by omega) j
      have hAi := hAat j (by omega)
      generalize digs ps.length st.length j = o at *
      have hOo := hoo o hdl hdi
      have hSo := hS lf o
      have hpi := pace_in hp3 hdl hdi
      have htn := tickN_in ps (o := o) (m := st.length) (fun j hj => by have := (hpi j hj).2; omega)
      have e4 : (o.map ei).length = o.length := List.length_map ..
      clear hAat
      repeat' ((conv => whnf); first | (refine condP.dec (fun _ => ?_) (fun h => absurd (by omega) h)) | (first | refine condP.dec (fun h => ?_) (fun h => ?_) | refine condP.eq (fun h => ?_) (fun h => ?_) | refine condP.ne (fun h => ?_) (fun h => ?_)) | (refine .i64 (by omega) (by omega) ?_) | (refine onSome.intro (idx_fs rfl rfl (by omega) (by omega) (fun _ => rfl)) ?_) | (refine onSome.intro (load_fs rfl (by omega) (by omega) rfl) ?_) | (refine And.intro rfl ?_))
      conv => whnf
      refine .pad 1 ?_
      refine loop_grow (X := Nat) (fun q => [(3, .ptr 0 0 0), (4, .ptr 1 0 0), (5, .int .i64 wall), (6, .int .i64 heat), (7, sl st), (8, sl ps), (9, nilOr (([], 0) : List Int × Int).1), (10, .int .i64 (([], 0) : List Int × Int).2), (11, .int .i64 lf), (12, .int .i64 ((0 : Nat) : Int)), (13, sll A), (16, .int .i64 j), (17, .ptr 5 0 0), (18, .int .i64 (tickN ps o q)), (19, .int .i64 q)]) (fun q => [S1 ss, .live 2 [[.int .i64 bx, zsl x]], .dead, .dead, .dead, .live 2 [[.int .i64 heat, omsl 6 (legN ps st o q)]], lsS 2 lr (legN ps st o q)]) (fun q => st.length - q) (fun q => q ≤ st.length) 0
        (Nat.zero_le _) ⟨rfl, rfl, rfl, rfl, rfl, rfl, rfl, rfl, rfl, rfl, rfl, rfl, rfl, rfl, rfl, trivial⟩ rfl (fun q hq => ?_)
      have htq := htn q hq
      have hql := legN_len ps st o q
      rcases Nat.lt_or_ge q st.length with hql' | hqg
      · have hpq := hpi q hql'
        have htq1 := htn (q + 1) hql'
        have e5 : legN ps st o (q + 1) = legN ps st o q ++ [⟨at' ps (at' o (q : Int)), at' st (q : Int)⟩] := rfl
        have e6 : tickN ps o (q + 1) = tickN ps o q + at' ps (at' o (q : Int)) := rfl
        generalize legN ps st o q = L at *
        generalize hd : at' o (q : Int) = d at *
        generalize hp : at' ps d = p at *
        generalize hs' : at' st (q : Int) = sv at *
        repeat' ((conv => whnf); first | (refine force_om ?_) | (refine forceC_om ?_) | (refine condP.dec (fun _ => ?_) (fun h => absurd (by omega) h)) | (refine onSome.intro (idx_fs (l := A) (enc := el) (n := (j : Int)) rfl rfl (by omega) (by omega) (fun _ => rfl)) ?_) | (refine onSome.intro (load_fs (l := A) (enc := el) (i := (j : Int)) (v := sl o) rfl (by omega) (by omega) (by rw [hAi]; rfl)) ?_) | (refine onSome.intro (idx_fs (l := o) (enc := ei) (n := (q : Int)) rfl rfl (by omega) (by omega) (fun _ => rfl)) ?_) | (refine onSome.intro (load_fs (l := o) (enc := ei) (i := (q : Int)) (v := .int .i64 d) rfl (by omega) (by omega) (by rw [hd]; rfl)) ?_) | (refine onSome.intro (idx_fs (l := ps) (enc := ei) (n := d) rfl rfl (by omega) (by omega) (fun _ => rfl)) ?_) | (refine onSome.intro (load_fs (l := ps) (enc := ei) (i := d) (v := .int .i64 p) rfl (by omega) (by omega) (by rw [hp]; rfl)) ?_) | (refine onSome.intro (idx_fs (l := st) (enc := ei) (n := (q : Int)) rfl rfl (by omega) (by omega) (fun _ => rfl)) ?_) | (refine onSome.intro (load_fs (l := st) (enc := ei) (i := (q : Int)) (v := .int .i64 sv) rfl (by omega) (by omega) (by rw [hs']; rfl)) ?_) | (refine OpP.snoc (enc := lr) (l := L) (b := 6) (r := [.int .i64 p, .int .i64 sv]) rfl rfl rfl rfl (fun c hc => by simp at hc; rcases hc with rfl | rfl <;> rfl) (by omega) ?_) | (first | refine condP.dec (fun h => ?_) (fun h => ?_) | refine condP.eq (fun h => ?_) (fun h => ?_) | refine condP.ne (fun h => ?_) (fun h => ?_)) | (refine .i64 (by omega) (by omega) ?_) | (refine onSome.intro (idx_fs rfl rfl (by omega) (by omega) (fun _ => rfl)) ?_) | (refine onSome.intro (load_fs rfl (by omega) (by omega) rfl) ?_) | (refine And.intro rfl ?_))
        exact .more (q + 1) [0, 1, 2, 3, 4, 5, 8] rfl (by omega) (by omega) rfl ⟨.pt rfl, .pt rfl, .same (.int _ _), .same (.int _ _), .same (sl_no _), .same (sl_no _), .same .nilslice, .same (.int _ _), .same (.int _ _), .same (.int _ _), .same (sll_no _), .same (.int _ _), .pt rfl, .nn (.int _ _) (frz_int (by rw [e6])), .nn (.int _ _) (frz_int (by omega)), trivial⟩
          ⟨.same (S1_no _), .same (noS_row (stuff_row _ _)), .same (s := .dead) trivial, .same (s := .dead) trivial, .same (s := .dead) trivial, .row (.cons (.same (.int _ _)) (.cons (by rw [e5]; exact .grown rfl (by simp) (by simp)) .nil)), (by rw [e5]; exact .snocL (enc := lr) (a := ⟨p, sv⟩) lr_no (.cons (.same (.int _ _)) (.cons (.same (.int _ _)) .nil))), trivial⟩
      obtain rfl : q = st.length := by omega
      generalize hL : legN ps st o st.length = L at *
      generalize tickN ps o st.length = tk at *
      have hFz : ∀ {H' : Heap}, (∀ sz e, H' 6 ≠ .live sz e) → ∀ {H : Heap}, H 6 = lsS 2 lr L → Frz H H' (.agg [.int .i64 heat, omsl 6 L]) (ovenI heat L) := fun h1 _ h2 => .aggL (.cons (.refl _) (.cons (.oml (enc := lr) h2 h1) .nil))
      have hu : ∀ s, List.all [S1 s, .live 2 [[.int .i64 bx, zsl x]], .dead, .dead, .dead, .live 2 [[.int .i64 heat, omsl 6 L]], lsS 2 lr L] Slot.used = true := fun s => by simp only [List.all_cons, lsS_used]; rfl
      have hjb : ∀ v w e : Int, Bare (ierr v w e) := fun v w e => .tupleL (.cons (.int _ _) (.cons (.int _ _) (.cons (.int _ _) .nil)))
      by_cases hj0 : j = 0
      · have q := LeftOf_any ss bx x wall heat L bx0 bx1 hx (by omega) (by omega) hOo
        obtain ⟨rl, s6, r0, r1, kl⟩ := q
        have kj := Judge_at bx0 bx1 hx (k := wall) (by omega) (by omega) hOo (left := rl) (by omega) (by omega)
        generalize judgeV bx x wall heat L rl = jv at *
        subst hj0
        repeat' ((conv => whnf); first | (refine force_om ?_) | (refine forceC_om ?_) | (refine condP.dec (fun h => absurd h (by omega)) (fun _ => ?_)) | (first | refine condP.dec (fun h => ?_) (fun h => ?_) | refine condP.eq (fun h => ?_) (fun h => ?_) | refine condP.ne (fun h => ?_) (fun h => ?_)) | (refine .i64 (by omega) (by omega) ?_) | (refine onSome.intro (idx_fs rfl rfl (by omega) (by omega) (fun _ => rfl)) ?_) | (refine onSome.intro (load_fs rfl (by omega) (by omega) rfl) ?_) | (refine And.intro rfl ?_))
        refine .done (by simp) ?_
        repeat' ((conv => whnf); first | (refine force_om ?_) | (refine forceC_om ?_) | (refine CallP.borrow1 [5, 6] (hu _) (.cons (.refl _) (.cons (.refl _) (.cons (hFz (fun _ _ h => by cases h) rfl) .nil))) (nn_cons (stuffI_no _ _) (nn_cons (nn_int _ _) (nn_cons (ovenI_no _ _) nn_none))) (fun H b hb => kl H b hb) (.int _ _) (S1_no _) (S1_no _) (bare_S1 _) rfl rfl ?_) | (refine CallP.borrow [5, 6] (hu _) (.cons (.refl _) (.cons (.refl _) (.cons (hFz (fun _ _ h => by cases h) rfl) (.cons (.refl _) .nil)))) (nn_cons (stuffI_no _ _) (nn_cons (nn_int _ _) (nn_cons (ovenI_no _ _) (nn_cons (nn_int _ _) nn_none)))) kj (hjb _ _ _) ?_) | (first | refine condP.dec (fun h => ?_) (fun h => ?_) | refine condP.eq (fun h => ?_) (fun h => ?_) | refine condP.ne (fun h => ?_) (fun h => ?_)) | (refine .i64 (by omega) (by omega) ?_) | (refine onSome.intro (idx_fs rfl rfl (by omega) (by omega) (fun _ => rfl)) ?_) | (refine onSome.intro (load_fs rfl (by omega) (by omega) rfl) ?_) | (refine And.intro rfl ?_))
        all_goals first | (exfalso; omega) | skip
        all_goals conv => whnf
        all_goals exact .more (0 + 1, rl, s6) [0, 1, 2, 3, 4] rfl ⟨by dsimp only; omega, by dsimp only; omega, by dsimp only; omega⟩ (by dsimp only; omega) rfl ⟨.pt rfl, .pt rfl, .same (.int _ _), .same (.int _ _), .same (sl_no _), .same (sl_no _), .same .nilslice, .same (.int _ _), .same (.int _ _), .same (.int _ _), .same (sll_no _), .nn (.int _ _) (frz_int (by dsimp only; omega)), trivial⟩ ⟨.same (S1_no _), .same (noS_row (stuff_row _ _)), .same (s := .dead) trivial, .same (s := .dead) trivial, .same (s := .dead) trivial, trivial⟩
      · have q := One_any ss 3 (by omega)
        obtain ⟨w, s5, kO⟩ := q
        cases w
        · skip
          have kj := Judge_at bx0 bx1 hx (k := wall) (by omega) (by omega) hOo (left := lf) (by omega) (by omega)
          generalize judgeV bx x wall heat L lf = jv at *
          repeat' ((conv => whnf); first | (refine force_om ?_) | (refine forceC_om ?_) | (refine condP.dec (fun h => absurd h (by omega)) (fun _ => ?_)) | (first | refine condP.dec (fun h => ?_) (fun h => ?_) | refine condP.eq (fun h => ?_) (fun h => ?_) | refine condP.ne (fun h => ?_) (fun h => ?_)) | (refine .i64 (by omega) (by omega) ?_) | (refine onSome.intro (idx_fs rfl rfl (by omega) (by omega) (fun _ => rfl)) ?_) | (refine onSome.intro (load_fs rfl (by omega) (by omega) rfl) ?_) | (refine And.intro rfl ?_))
          refine .done (by simp) ?_
          repeat' ((conv => whnf); first | (refine force_om ?_) | (refine forceC_om ?_) | (refine condP.eq (fun h => absurd h (by omega)) (fun _ => ?_)) | (refine CallP.one (fun H hb => kO H _ hb) rfl ?_) | (refine CallP.borrow [5, 6] (hu _) (.cons (.refl _) (.cons (.refl _) (.cons (hFz (fun _ _ h => by cases h) rfl) (.cons (.refl _) .nil)))) (nn_cons (stuffI_no _ _) (nn_cons (nn_int _ _) (nn_cons (ovenI_no _ _) (nn_cons (nn_int _ _) nn_none)))) kj (hjb _ _ _) ?_) | (first | refine condP.dec (fun h => ?_) (fun h => ?_) | refine condP.eq (fun h => ?_) (fun h => ?_) | refine condP.ne (fun h => ?_) (fun h => ?_)) | (refine .i64 (by omega) (by omega) ?_) | (refine onSome.intro (idx_fs rfl rfl (by omega) (by omega) (fun _ => rfl)) ?_) | (refine onSome.intro (load_fs rfl (by omega) (by omega) rfl) ?_) | (refine And.intro rfl ?_))
          all_goals first | (exfalso; omega) | skip
          all_goals conv => whnf
          all_goals exact .more (j + 1, lf, s5) [0, 1, 2, 3, 4] rfl ⟨by dsimp only; omega, by dsimp only; omega, by dsimp only; omega⟩ (by dsimp only; omega) rfl ⟨.pt rfl, .pt rfl, .same (.int _ _), .same (.int _ _), .same (sl_no _), .same (sl_no _), .same .nilslice, .same (.int _ _), .same (.int _ _), .same (.int _ _), .same (sll_no _), .nn (.int _ _) (frz_int (by dsimp only; omega)), trivial⟩ ⟨.same (S1_no _), .same (noS_row (stuff_row _ _)), .same (s := .dead) trivial, .same (s := .dead) trivial, .same (s := .dead) trivial, trivial⟩
        · skip
          have q := LeftOf_any s5 bx x wall heat L bx0 bx1 hx (by omega) (by omega) hOo
          obtain ⟨rl, s6, r0, r1, kl⟩ := q
          have kj := Judge_at bx0 bx1 hx (k := wall) (by omega) (by omega) hOo (left := rl) (by omega) (by omega)
          generalize judgeV bx x wall heat L rl = jv at *
          repeat' ((conv => whnf); first | (refine force_om ?_) | (refine forceC_om ?_) | (refine condP.dec (fun h => absurd h (by omega)) (fun _ => ?_)) | (first | refine condP.dec (fun h => ?_) (fun h => ?_) | refine condP.eq (fun h => ?_) (fun h => ?_) | refine condP.ne (fun h => ?_) (fun h => ?_)) | (refine .i64 (by omega) (by omega) ?_) | (refine onSome.intro (idx_fs rfl rfl (by omega) (by omega) (fun _ => rfl)) ?_) | (refine onSome.intro (load_fs rfl (by omega) (by omega) rfl) ?_) | (refine And.intro rfl ?_))
          refine .done (by simp) ?_
          repeat' ((conv => whnf); first | (refine force_om ?_) | (refine forceC_om ?_) | (refine condP.eq (fun h => absurd h (by omega)) (fun _ => ?_)) | (refine CallP.one (fun H hb => kO H _ hb) rfl ?_) | (refine CallP.borrow1 [5, 6] (hu _) (.cons (.refl _) (.cons (.refl _) (.cons (hFz (fun _ _ h => by cases h) rfl) .nil))) (nn_cons (stuffI_no _ _) (nn_cons (nn_int _ _) (nn_cons (ovenI_no _ _) nn_none))) (fun H b hb => kl H b hb) (.int _ _) (S1_no _) (S1_no _) (bare_S1 _) rfl rfl ?_) | (refine CallP.borrow [5, 6] (hu _) (.cons (.refl _) (.cons (.refl _) (.cons (hFz (fun _ _ h => by cases h) rfl) (.cons (.refl _) .nil)))) (nn_cons (stuffI_no _ _) (nn_cons (nn_int _ _) (nn_cons (ovenI_no _ _) (nn_cons (nn_int _ _) nn_none)))) kj (hjb _ _ _) ?_) | (first | refine condP.dec (fun h => ?_) (fun h => ?_) | refine condP.eq (fun h => ?_) (fun h => ?_) | refine condP.ne (fun h => ?_) (fun h => ?_)) | (refine .i64 (by omega) (by omega) ?_) | (refine onSome.intro (idx_fs rfl rfl (by omega) (by omega) (fun _ => rfl)) ?_) | (refine onSome.intro (load_fs rfl (by omega) (by omega) rfl) ?_) | (refine And.intro rfl ?_))
          all_goals first | (exfalso; omega) | skip
          all_goals conv => whnf
          all_goals exact .more (j + 1, rl, s6) [0, 1, 2, 3, 4] rfl ⟨by dsimp only; omega, by dsimp only; omega, by dsimp only; omega⟩ (by dsimp only; omega) rfl ⟨.pt rfl, .pt rfl, .same (.int _ _), .same (.int _ _), .same (sl_no _), .same (sl_no _), .same .nilslice, .same (.int _ _), .same (.int _ _), .same (.int _ _), .same (sll_no _), .nn (.int _ _) (frz_int (by dsimp only; omega)), trivial⟩ ⟨.same (S1_no _), .same (noS_row (stuff_row _ _)), .same (s := .dead) trivial, .same (s := .dead) trivial, .same (s := .dead) trivial, trivial⟩
    obtain rfl : j = A.length := by omega
    repeat' ((conv => whnf); first | (refine condP.dec (fun h => absurd h (by omega)) (fun _ => ?_)) | (first | refine condP.dec (fun h => ?_) (fun h => ?_) | refine condP.eq (fun h => ?_) (fun h => ?_) | refine condP.ne (fun h => ?_) (fun h => ?_)) | (refine .i64 (by omega) (by omega) ?_) | (refine onSome.intro (idx_fs rfl rfl (by omega) (by omega) (fun _ => rfl)) ?_) | (refine onSome.intro (load_fs rfl (by omega) (by omega) rfl) ?_) | (refine And.intro rfl ?_))
    refine .done (by simp) ?_
    repeat' ((conv => whnf); first | (refine force_om ?_) | (refine forceC_om ?_) | (first | refine condP.dec (fun h => ?_) (fun h => ?_) | refine condP.eq (fun h => ?_) (fun h => ?_) | refine condP.ne (fun h => ?_) (fun h => ?_)) | (refine .i64 (by omega) (by omega) ?_) | (refine onSome.intro (idx_fs rfl rfl (by omega) (by omega) (fun _ => rfl)) ?_) | (refine onSome.intro (load_fs rfl (by omega) (by omega) rfl) ?_) | (refine And.intro rfl ?_))
    exact .more (1, lf, ss, ([], 0)) [0, 1, 2, 3] rfl ⟨by dsimp only; omega, by dsimp only; omega, by dsimp only; omega, fun _ => rfl, fun h => by cases h⟩ (by dsimp only; omega) rfl ⟨.pt rfl, .pt rfl, .same (.int _ _), .same (.int _ _), .same (sl_no _), .same (sl_no _), .same .nilslice, .same (.int _ _), .same (.int _ _), .nn (.int _ _) (frz_int (by dsimp only; omega)), trivial⟩ ⟨.same (S1_no _), .same (noS_row (stuff_row _ _)), .same (s := .dead) trivial, .same (s := .dead) trivial, trivial⟩
  · have hfB : fastB bx x wall heat st ps left = bestF ps (sureP bx x wall heat st ps left) ps.length st.length (ps.length ^ st.length) := rfl
    have B0 : bestF ps (sureP bx x wall heat st ps left) ps.length st.length 0 = ([], 0) := rfl
    have Bt := fun j => @bestF_take ps (sureP bx x wall heat st ps left) ps.length st.length j
    have Bs := fun j => @bestF_skip ps (sureP bx x wall heat st ps left) ps.length st.length j
    have Bn := fun j => @bestF_not ps (sureP bx x wall heat st ps left) ps.length st.length j
    generalize hBd : bestF ps (sureP bx x wall heat st ps left) ps.length st.length = B at *
    refine loop_grow (X := Nat) (fun j => [(3, .ptr 0 0 0), (4, .ptr 1 0 0), (5, .int .i64 wall), (6, .int .i64 heat), (7, sl st), (8, sl ps), (9, nilOr (B j).1), (10, .int .i64 (B j).2), (11, .int .i64 left), (12, .int .i64 ((1 : Nat) : Int)), (13, sll A), (16, .int .i64 j)]) (fun _ => [S1 s, .live 2 [[.int .i64 bx, zsl x]], .dead, .dead, .dead]) (fun j => A.length - j) (fun j => j ≤ A.length) 0 (Nat.zero_le _) ⟨rfl, rfl, rfl, rfl, rfl, rfl, (by show IV.nilslice = nilOr (B 0).1; rw [B0]; rfl), (by show i6 0 = i6 (B 0).2; rw [B0]), rfl, rfl, rfl, rfl, trivial⟩ rfl (fun j hy => ?_)
    have hj := hy
    rcases Nat.lt_or_ge j A.length with hlt | hge
    · have hdl := digs_len ps.length st.length j
      have hdi := digs_in (show 0 < ps.length by omega) st.length j
      have hdn := digs_ne (b := ps.length) (show 0 < st.length by omega) j
      have hAi := hAat j (by omega)
      have hBt := Bt j
      have hBs := Bs j
      have hBn := Bn j
      generalize digs ps.length st.length j = o at *
      have hOo := hoo o hdl hdi
      have hSo := hS left o
      have hpi := pace_in hp3 hdl hdi
      have htn := tickN_in ps (o := o) (m := st.length) (fun j hj => by have := (hpi j hj).2; omega)
      have e4 : (o.map ei).length = o.length := List.length_map ..
      clear hAat
      repeat' ((conv => whnf); first | (refine condP.dec (fun _ => ?_) (fun h => absurd (by omega) h)) | (first | refine condP.dec (fun h => ?_) (fun h => ?_) | refine condP.eq (fun h => ?_) (fun h => ?_) | refine condP.ne (fun h => ?_) (fun h => ?_)) | (refine .i64 (by omega) (by omega) ?_) | (refine onSome.intro (idx_fs rfl rfl (by omega) (by omega) (fun _ => rfl)) ?_) | (refine onSome.intro (load_fs rfl (by omega) (by omega) rfl) ?_) | (refine And.intro rfl ?_))
      conv => whnf
      refine .pad 1 ?_
      refine loop_grow (X := Nat) (fun q => [(3, .ptr 0 0 0), (4, .ptr 1 0 0), (5, .int .i64 wall), (6, .int .i64 heat), (7, sl st), (8, sl ps), (9, nilOr (B j).1), (10, .int .i64 (B j).2), (11, .int .i64 left), (12, .int .i64 ((1 : Nat) : Int)), (13, sll A), (16, .int .i64 j), (17, .ptr 5 0 0), (18, .int .i64 (tickN ps o q)), (19, .int .i64 q)]) (fun q => [S1 s, .live 2 [[.int .i64 bx, zsl x]], .dead, .dead, .dead, .live 2 [[.int .i64 heat, omsl 6 (legN ps st o q)]], lsS 2 lr (legN ps st o q)]) (fun q => st.length - q) (fun q => q ≤ st.length) 0
        (Nat.zero_le _) ⟨rfl, rfl, rfl, rfl, rfl, rfl, rfl, rfl, rfl, rfl, rfl, rfl, rfl, rfl, rfl, trivial⟩ rfl (fun q hq => ?_)
      have htq := htn q hq
      have hql := legN_len ps st o q
      rcases Nat.lt_or_ge q st.length with hql' | hqg
      · have hpq := hpi q hql'
        have htq1 := htn (q + 1) hql'
        have e5 : legN ps st o (q + 1) = legN ps st o q ++ [⟨at' ps (at' o (q : Int)), at' st (q : Int)⟩] := rfl
        have e6 : tickN ps o (q + 1) = tickN ps o q + at' ps (at' o (q : Int)) := rfl
        generalize legN ps st o q = L at *
        generalize hd : at' o (q : Int) = d at *
        generalize hp : at' ps d = p at *
        generalize hs' : at' st (q : Int) = sv at *
        repeat' ((conv => whnf); first | (refine force_om ?_) | (refine forceC_om ?_) | (refine condP.dec (fun _ => ?_) (fun h => absurd (by omega) h)) | (refine onSome.intro (idx_fs (l := A) (enc := el) (n := (j : Int)) rfl rfl (by omega) (by omega) (fun _ => rfl)) ?_) | (refine onSome.intro (load_fs (l := A) (enc := el) (i := (j : Int)) (v := sl o) rfl (by omega) (by omega) (by rw [hAi]; rfl)) ?_) | (refine onSome.intro (idx_fs (l := o) (enc := ei) (n := (q : Int)) rfl rfl (by omega) (by omega) (fun _ => rfl)) ?_) | (refine onSome.intro (load_fs (l := o) (enc := ei) (i := (q : Int)) (v := .int .i64 d) rfl (by omega) (by omega) (by rw [hd]; rfl)) ?_) | (refine onSome.intro (idx_fs (l := ps) (enc := ei) (n := d) rfl rfl (by omega) (by omega) (fun _ => rfl)) ?_) | (refine onSome.intro (load_fs (l := ps) (enc := ei) (i := d) (v := .int .i64 p) rfl (by omega) (by omega) (by rw [hp]; rfl)) ?_) | (refine onSome.intro (idx_fs (l := st) (enc := ei) (n := (q : Int)) rfl rfl (by omega) (by omega) (fun _ => rfl)) ?_) | (refine onSome.intro (load_fs (l := st) (enc := ei) (i := (q : Int)) (v := .int .i64 sv) rfl (by omega) (by omega) (by rw [hs']; rfl)) ?_) | (refine OpP.snoc (enc := lr) (l := L) (b := 6) (r := [.int .i64 p, .int .i64 sv]) rfl rfl rfl rfl (fun c hc => by simp at hc; rcases hc with rfl | rfl <;> rfl) (by omega) ?_) | (first | refine condP.dec (fun h => ?_) (fun h => ?_) | refine condP.eq (fun h => ?_) (fun h => ?_) | refine condP.ne (fun h => ?_) (fun h => ?_)) | (refine .i64 (by omega) (by omega) ?_) | (refine onSome.intro (idx_fs rfl rfl (by omega) (by omega) (fun _ => rfl)) ?_) | (refine onSome.intro (load_fs rfl (by omega) (by omega) rfl) ?_) | (refine And.intro rfl ?_))
        exact .more (q + 1) [0, 1, 2, 3, 4, 5, 8] rfl (by omega) (by omega) rfl ⟨.pt rfl, .pt rfl, .same (.int _ _), .same (.int _ _), .same (sl_no _), .same (sl_no _), .same (nilOr_no _), .same (.int _ _), .same (.int _ _), .same (.int _ _), .same (sll_no _), .same (.int _ _), .pt rfl, .nn (.int _ _) (frz_int (by rw [e6])), .nn (.int _ _) (frz_int (by omega)), trivial⟩
          ⟨.same (S1_no _), .same (noS_row (stuff_row _ _)), .same (s := .dead) trivial, .same (s := .dead) trivial, .same (s := .dead) trivial, .row (.cons (.same (.int _ _)) (.cons (by rw [e5]; exact .grown rfl (by simp) (by simp)) .nil)), (by rw [e5]; exact .snocL (enc := lr) (a := ⟨p, sv⟩) lr_no (.cons (.same (.int _ _)) (.cons (.same (.int _ _)) .nil))), trivial⟩
      obtain rfl : q = st.length := by omega
      generalize hL : legN ps st o st.length = L at *
      generalize tickN ps o st.length = tk at *
      have hFz : ∀ {H' : Heap}, (∀ sz e, H' 6 ≠ .live sz e) → ∀ {H : Heap}, H 6 = lsS 2 lr L → Frz H H' (.agg [.int .i64 heat, omsl 6 L]) (ovenI heat L) := fun h1 _ h2 => .aggL (.cons (.refl _) (.cons (.oml (enc := lr) h2 h1) .nil))
      have hu : ∀ s, List.all [S1 s, .live 2 [[.int .i64 bx, zsl x]], .dead, .dead, .dead, .live 2 [[.int .i64 heat, omsl 6 L]], lsS 2 lr L] Slot.used = true := fun s => by simp only [List.all_cons, lsS_used]; rfl
      have hjb : ∀ v w e : Int, Bare (ierr v w e) := fun v w e => .tupleL (.cons (.int _ _) (.cons (.int _ _) (.cons (.int _ _) .nil)))
      have kj := Judge_at bx0 bx1 hx (k := wall) (by omega) (by omega) hOo (left := left) hl0 hl1
      generalize judgeV bx x wall heat L left = jv at *
      have hno : nilOr o = sl o := by
        cases o with
        | nil => exact absurd rfl hdn
        | cons a o => rfl
      generalize hBB : B j = bb at *
      obtain ⟨best, least⟩ := bb
      dsimp only at *
      rcases best with _ | ⟨b0, bs⟩
      · repeat' ((conv => whnf); first | (refine force_om ?_) | (refine forceC_om ?_) | (refine condP.dec (fun h => absurd h (by omega)) (fun _ => ?_)) | (first | refine condP.dec (fun h => ?_) (fun h => ?_) | refine condP.eq (fun h => ?_) (fun h => ?_) | refine condP.ne (fun h => ?_) (fun h => ?_)) | (refine .i64 (by omega) (by omega) ?_) | (refine onSome.intro (idx_fs rfl rfl (by omega) (by omega) (fun _ => rfl)) ?_) | (refine onSome.intro (load_fs rfl (by omega) (by omega) rfl) ?_) | (refine And.intro rfl ?_))
        refine .done (by simp) ?_
        repeat' ((conv => whnf); first | (refine force_om ?_) | (refine forceC_om ?_) | (refine CallP.borrow [5, 6] (hu _) (.cons (.refl _) (.cons (.refl _) (.cons (hFz (fun _ _ h => by cases h) rfl) (.cons (.refl _) .nil)))) (nn_cons (stuffI_no _ _) (nn_cons (nn_int _ _) (nn_cons (ovenI_no _ _) (nn_cons (nn_int _ _) nn_none)))) kj (hjb _ _ _) ?_) | (refine onSome.intro (load_fs (l := A) (enc := el) (i := (j : Int)) (v := sl o) rfl (by omega) (by omega) (by rw [hAi]; rfl)) ?_) | (first | refine condP.dec (fun h => ?_) (fun h => ?_) | refine condP.eq (fun h => ?_) (fun h => ?_) | refine condP.ne (fun h => ?_) (fun h => ?_)) | (refine .i64 (by omega) (by omega) ?_) | (refine onSome.intro (idx_fs rfl rfl (by omega) (by omega) (fun _ => rfl)) ?_) | (refine onSome.intro (load_fs rfl (by omega) (by omega) rfl) ?_) | (refine And.intro rfl ?_))
        all_goals first | (exfalso; omega) | skip
        · have hB1 := hBt (.inl rfl) (hSo.mpr (by assumption))
          conv => whnf
          exact .more (j + 1) [0, 1, 2, 3, 4] rfl (by omega) (by omega) rfl ⟨.pt rfl, .pt rfl, .same (.int _ _), .same (.int _ _), .same (sl_no _), .same (sl_no _), (by rw [hB1]; show Mv _ _ _ _ (nilOr o); rw [hno]; exact .same (sl_no _)), (by rw [hB1]; exact .same (.int _ _)), .same (.int _ _), .same (.int _ _), .same (sll_no _), .nn (.int _ _) (frz_int (by omega)), trivial⟩ ⟨.same (S1_no _), .same (noS_row (stuff_row _ _)), .same (s := .dead) trivial, .same (s := .dead) trivial, .same (s := .dead) trivial, trivial⟩
        · have hB1 := hBn (fun h => absurd (hSo.mp h) (by assumption))
          conv => whnf
          exact .more (j + 1) [0, 1, 2, 3, 4] rfl (by omega) (by omega) rfl ⟨.pt rfl, .pt rfl, .same (.int _ _), .same (.int _ _), .same (sl_no _), .same (sl_no _), (by rw [hB1]; exact .same (x := nilOr ([] : List Int)) (nilOr_no _)), (by rw [hB1]; exact .same (.int _ _)), .same (.int _ _), .same (.int _ _), .same (sll_no _), .nn (.int _ _) (frz_int (by omega)), trivial⟩ ⟨.same (S1_no _), .same (noS_row (stuff_row _ _)), .same (s := .dead) trivial, .same (s := .dead) trivial, .same (s := .dead) trivial, trivial⟩
      · repeat' ((conv => whnf); first | (refine force_om ?_) | (refine forceC_om ?_) | (refine condP.dec (fun h => absurd h (by omega)) (fun _ => ?_)) | (first | refine condP.dec (fun h => ?_) (fun h => ?_) | refine condP.eq (fun h => ?_) (fun h => ?_) | refine condP.ne (fun h => ?_) (fun h => ?_)) | (refine .i64 (by omega) (by omega) ?_) | (refine onSome.intro (idx_fs rfl rfl (by omega) (by omega) (fun _ => rfl)) ?_) | (refine onSome.intro (load_fs rfl (by omega) (by omega) rfl) ?_) | (refine And.intro rfl ?_))
        refine .done (by simp) ?_
        repeat' ((conv => whnf); first | (refine force_om ?_) | (refine forceC_om ?_) | (refine CallP.borrow [5, 6] (hu _) (.cons (.refl _) (.cons (.refl _) (.cons (hFz (fun _ _ h => by cases h) rfl) (.cons (.refl _) .nil)))) (nn_cons (stuffI_no _ _) (nn_cons (nn_int _ _) (nn_cons (ovenI_no _ _) (nn_cons (nn_int _ _) nn_none)))) kj (hjb _ _ _) ?_) | (refine onSome.intro (load_fs (l := A) (enc := el) (i := (j : Int)) (v := sl o) rfl (by omega) (by omega) (by rw [hAi]; rfl)) ?_) | (first | refine condP.dec (fun h => ?_) (fun h => ?_) | refine condP.eq (fun h => ?_) (fun h => ?_) | refine condP.ne (fun h => ?_) (fun h => ?_)) | (refine .i64 (by omega) (by omega) ?_) | (refine onSome.intro (idx_fs rfl rfl (by omega) (by omega) (fun _ => rfl)) ?_) | (refine onSome.intro (load_fs rfl (by omega) (by omega) rfl) ?_) | (refine And.intro rfl ?_))
        all_goals first | (exfalso; omega) | skip
        · have hB1 := hBt (.inr (by omega)) (hSo.mpr (by assumption))
          conv => whnf
          exact .more (j + 1) [0, 1, 2, 3, 4] rfl (by omega) (by omega) rfl ⟨.pt rfl, .pt rfl, .same (.int _ _), .same (.int _ _), .same (sl_no _), .same (sl_no _), (by rw [hB1]; show Mv _ _ _ _ (nilOr o); rw [hno]; exact .same (sl_no _)), (by rw [hB1]; exact .same (.int _ _)), .same (.int _ _), .same (.int _ _), .same (sll_no _), .nn (.int _ _) (frz_int (by omega)), trivial⟩ ⟨.same (S1_no _), .same (noS_row (stuff_row _ _)), .same (s := .dead) trivial, .same (s := .dead) trivial, .same (s := .dead) trivial, trivial⟩
        · have hB1 := hBs (by rintro (h | h); exact absurd h (by simp); omega)
          conv => whnf
          exact .more (j + 1) [0, 1, 2, 3, 4] rfl (by omega) (by omega) rfl ⟨.pt rfl, .pt rfl, .same (.int _ _), .same (.int _ _), .same (sl_no _), .same (sl_no _), (by rw [hB1]; exact .same (x := nilOr (b0 :: bs)) (nilOr_no _)), (by rw [hB1]; exact .same (.int _ _)), .same (.int _ _), .same (.int _ _), .same (sll_no _), .nn (.int _ _) (frz_int (by omega)), trivial⟩ ⟨.same (S1_no _), .same (noS_row (stuff_row _ _)), .same (s := .dead) trivial, .same (s := .dead) trivial, .same (s := .dead) trivial, trivial⟩
        · have hB1 := hBn (fun h => absurd (hSo.mp h) (by assumption))
          conv => whnf
          exact .more (j + 1) [0, 1, 2, 3, 4] rfl (by omega) (by omega) rfl ⟨.pt rfl, .pt rfl, .same (.int _ _), .same (.int _ _), .same (sl_no _), .same (sl_no _), (by rw [hB1]; exact .same (x := nilOr (b0 :: bs)) (nilOr_no _)), (by rw [hB1]; exact .same (.int _ _)), .same (.int _ _), .same (.int _ _), .same (sll_no _), .nn (.int _ _) (frz_int (by omega)), trivial⟩ ⟨.same (S1_no _), .same (noS_row (stuff_row _ _)), .same (s := .dead) trivial, .same (s := .dead) trivial, .same (s := .dead) trivial, trivial⟩
    obtain rfl : j = A.length := by omega
    rw [← hAl] at hfB
    repeat' ((conv => whnf); first | (refine condP.dec (fun h => absurd h (by omega)) (fun _ => ?_)) | (first | refine condP.dec (fun h => ?_) (fun h => ?_) | refine condP.eq (fun h => ?_) (fun h => ?_) | refine condP.ne (fun h => ?_) (fun h => ?_)) | (refine .i64 (by omega) (by omega) ?_) | (refine onSome.intro (idx_fs rfl rfl (by omega) (by omega) (fun _ => rfl)) ?_) | (refine onSome.intro (load_fs rfl (by omega) (by omega) rfl) ?_) | (refine And.intro rfl ?_))
    refine .done (by simp) ?_
    repeat' ((conv => whnf); first | (refine force_om ?_) | (refine forceC_om ?_) | (first | refine condP.dec (fun h => ?_) (fun h => ?_) | refine condP.eq (fun h => ?_) (fun h => ?_) | refine condP.ne (fun h => ?_) (fun h => ?_)) | (refine .i64 (by omega) (by omega) ?_) | (refine onSome.intro (idx_fs rfl rfl (by omega) (by omega) (fun _ => rfl)) ?_) | (refine onSome.intro (load_fs rfl (by omega) (by omega) rfl) ?_) | (refine And.intro rfl ?_))
    exact .more (2, left, s, B A.length) [0, 1, 2, 3] rfl ⟨by dsimp only; omega, by dsimp only; omega, by dsimp only; omega, fun h => absurd h (by dsimp only; omega), fun _ => hfB.symm⟩ (by dsimp only; omega) rfl ⟨.pt rfl, .pt rfl, .same (.int _ _), .same (.int _ _), .same (sl_no _), .same (sl_no _), .same (nilOr_no _), .same (.int _ _), .same (.int _ _), .nn (.int _ _) (frz_int (by dsimp only; omega)), trivial⟩ ⟨.same (S1_no _), .same (noS_row (stuff_row _ _)), .same (s := .dead) trivial, .same (s := .dead) trivial, trivial⟩

end Go.Proofs.Ytpbadgghhiommaa.I
