/- The pair of stages that look at each other; made. -/
import Derived.Test.YtlfaglkkeahamaaGreatNnetof
set_option linter.unusedVariables false
set_option maxHeartbeats 64000000
set_option linter.unusedSimpArgs false
namespace Go.Proofs.YtlfaglkkeahamaaGreat.I
open Go.Ideal

inductive MvE (kept : List Nat) (H H' : Heap) : Els → Els → Prop
  | nil : MvE kept H H' [] []
  | cons {x y : List IV} {xs ys : Els} (h : MvL kept H H' x y) (k : MvE kept H H' xs ys) : MvE kept H H' (x :: xs) (y :: ys)
theorem MvE.len {kept : List Nat} {H H' : Heap} {l l' : Els} (h : MvE kept H H' l l') : l'.length = l.length := by
  induction h with
  | nil => rfl
  | cons _ _ ih => simp [ih]
theorem MvE.get {kept : List Nat} {H H' : Heap} {l l' : Els} (h : MvE kept H H' l l') : ∀ (i : Nat) (h1 : i < l.length) (h2 : i < l'.length), MvL kept H H' l[i] l'[i] := by
  induction h with
  | nil => intro i h; simp at h
  | cons h _ ih =>
    intro i h1 h2
    cases i with
    | zero => exact h
    | succ i => exact ih i (by simpa using h1) (by simpa using h2)
theorem MvS.rows {kept : List Nat} {H H' : Heap} {sz : Nat} {r r' : Els} (h : MvE kept H H' r r') : MvS kept H H' (.live sz r) (.live sz r') :=
  .live h.len (fun j a b => (h.get j a b).len) (fun j k a b c d => (h.get j a b).get k c d)
theorem pair_fam {a b c : Int} (a0 : -6000 ≤ a) (a1 : a ≤ -2000) (b0 : 50000 ≤ b) (b1 : b ≤ 200000) (c0 : 900 ≤ c) (c1 : c ≤ 960) : Fam.Ok ⟨[a, 0], [0, b], [[0, 0], [0, 900]], [[0, 0], [0, c]]⟩ := by
  have asc2 : ∀ {x y : Int}, x < y → Asc [x, y] := fun {x y} h i j hi hj => by
    have hj : j < 2 := hj
    obtain rfl : i = 0 := by omega
    obtain rfl : j = 1 := by omega
    exact h
  have two : ∀ {P : Nat → Prop}, P 0 → P 1 → ∀ i : Nat, i < 2 → P i := fun {P} p q i hi => by
    rcases (show i = 0 ∨ i = 1 by omega) with rfl | rfl
    · exact p
    · exact q
  refine ⟨⟨asc2 (by omega), two (by show -1000000 ≤ a ∧ a ≤ 1000000; omega) (by show (-1000000 : Int) ≤ 0 ∧ (0 : Int) ≤ 1000000; omega)⟩, ⟨asc2 (by omega), two (by show (0 : Int) ≤ 0 ∧ (0 : Int) ≤ 1000000; omega) (by show 0 ≤ b ∧ b ≤ 1000000; omega)⟩, by simp, by simp, by simp, by simp, ⟨rfl, two rfl rfl⟩, ⟨rfl, two rfl rfl⟩, fun i k hi hk => ?_, fun i k hi hk => ?_, fun i k hi hk => ?_⟩
  · rcases (show i = 0 ∨ i = 1 by simp at hi; omega) with rfl | rfl <;> rcases (show k = 0 ∨ k = 1 by simp at hk; omega) with rfl | rfl <;> simp [vc] <;> omega
  · obtain rfl : i = 0 := by simp at hi; omega
    rcases (show k = 0 ∨ k = 1 by simp at hk; omega) with rfl | rfl <;> simp [vc] <;> omega
  · obtain rfl : k = 0 := by simp at hk; omega
    rcases (show i = 0 ∨ i = 1 by simp at hi; omega) with rfl | rfl <;> simp [vc] <;> omega

theorem Pair_any (S : Int) : ∃ (n : Net) (s' : Int), n.Ok ∧
    ∀ (H : Heap) (b : Nat), H b = S1 S → Ev T (.call (.func (.func 37) [] []) [.ptr b 0 0] H) (.call n.I (H.set b (S1 s'))) := by
  have key := run_one_some T37 (i := 0) (off := 0) (args := []) (s := S1 S) (P := fun v z => ∃ (n : Net) (s' : Int), v = n.I ∧ z = S1 s' ∧ n.Ok)
    nn_none (S1_no _) (by
    have q := Between_any S 50 200 (by omega) (by omega) (by omega)
    obtain ⟨x, s1, x0, x1, k1⟩ := q
    have q := Between_any s1 2 6 (by omega) (by omega) (by omega)
    obtain ⟨y, s2, y0, y1, k2⟩ := q
    have q := Upto_any s2 60 (by omega)
    obtain ⟨z, s3, z0, z1, k3⟩ := q
    have q := Between_any s3 50 900 (by omega) (by omega) (by omega)
    obtain ⟨w, s4, w0, w1, k4⟩ := q
    repeat' ((conv => whnf); first | (refine CallP.one (fun H hb => k1 H _ hb) rfl ?_) | (refine CallP.one (fun H hb => k2 H _ hb) rfl ?_) | (refine CallP.one (fun H hb => k3 H _ hb) rfl ?_) | (refine CallP.one (fun H hb => k4 H _ hb) rfl ?_) | (first | refine condP.dec (fun h => ?_) (fun h => ?_) | refine condP.eq (fun h => ?_) (fun h => ?_) | refine condP.ne (fun h => ?_) (fun h => ?_)) | (refine .i64 (by omega) (by omega) ?_) | (refine onSome.intro (idx_fs rfl rfl (by omega) (by omega) (fun _ => rfl)) ?_) | (refine onSome.intro (load_fs rfl (by omega) (by omega) rfl) ?_) | (refine And.intro rfl ?_))
    conv => whnf
    have hF := pair_fam (a := -1000 * y) (b := 1000 * x) (c := 900 + z) (by omega) (by omega) (by omega) (by omega) (by omega) (by omega)
    generalize hp : -1000 * y = a at *
    generalize hg : 1000 * x = b at *
    generalize hc : 900 + z = c at *
    generalize hw : 1000 * w = g at *
    refine .pad 1 ?_
    refine loop_grow (X := Nat × List Stg × Int) (fun x => [(0, .ptr 0 0 0), (2, .ptr 1 0 0), (3, .int .i64 b), (5, .int .i64 g), (6, .ptr 12 0 0), (7, .int .i64 x.1)]) (fun x => [S1 x.2.2, .live 3 [[.nilslice, .int .i64 0, .nilslice]],
        .live 1 ([a, 0].map ei), .live 1 ([0, b].map ei), .live 1 ([0, 0].map ei), .live 1 ([0, 900].map ei), .live 1 [[.mslice 4 0 2 2 true], [.mslice 5 0 2 2 true]], .live 1 ([0, 0].map ei), .live 1 ([0, c].map ei), .live 1 [[.mslice 7 0 2 2 true], [.mslice 8 0 2 2 true]],
        .live 4 [[.mslice 2 0 2 2 true, .mslice 3 0 2 2 true, .mslice 6 0 2 2 true, .mslice 9 0 2 2 true]], .live 4 [[.mslice 2 0 2 2 true, .mslice 3 0 2 2 true, .mslice 6 0 2 2 true, .mslice 9 0 2 2 true]], .live 3 [[.mslice 11 0 1 1 true, .int .i64 0, omsl 13 x.2.1]], lsS 8 Stg.R x.2.1])
      (fun x => 2 - x.1) (fun x => x.1 ≤ 2 ∧ x.2.1.length = x.1 ∧ ∀ j : Nat, j < x.1 → (at' x.2.1 (j : Int)).Ok 1 2) (0, [], s4) ⟨by dsimp only; omega, rfl, fun j hj => absurd hj (Nat.not_lt_zero _)⟩ ⟨rfl, rfl, rfl, rfl, rfl, rfl, trivial⟩ rfl (fun x hx => ?_)
    obtain ⟨i, ss, s⟩ := x
    obtain ⟨hi, hl, hall⟩ := hx
    dsimp only at hi hl hall ⊢
    by_cases hlt : i < 2
    rotate_left
    · obtain rfl : i = 2 := by omega
      have hmade : Net.Ok ⟨[⟨[a, 0], [0, b], [[0, 0], [0, 900]], [[0, 0], [0, c]]⟩], 0, ss⟩ := by
        refine ⟨by simp, by simp, fun j hj => ?_, by simp, by simp, by dsimp only; omega, by dsimp only; omega, fun j hj => ?_⟩
        · dsimp only at hj ⊢
          obtain rfl : j = 0 := by simp at hj; exact hj
          exact hF
        · have := hall j (by dsimp only at hj; omega)
          dsimp only
          rw [hl]
          exact this
      repeat' ((conv => whnf); first | (refine force_om ?_) | (refine forceC_om ?_) | (refine condP.dec (fun h => absurd h (by omega)) (fun _ => ?_)) | (first | refine condP.dec (fun h => ?_) (fun h => ?_) | refine condP.eq (fun h => ?_) (fun h => ?_) | refine condP.ne (fun h => ?_) (fun h => ?_)) | (refine .i64 (by omega) (by omega) ?_) | (refine onSome.intro (idx_fs rfl rfl (by omega) (by omega) (fun _ => rfl)) ?_) | (refine onSome.intro (load_fs rfl (by omega) (by omega) rfl) ?_) | (refine And.intro rfl ?_))
      refine .done (by simp) ?_
      repeat' ((conv => whnf); first | (refine force_om ?_) | (refine forceC_om ?_) | (first | refine condP.dec (fun h => ?_) (fun h => ?_) | refine condP.eq (fun h => ?_) (fun h => ?_) | refine condP.ne (fun h => ?_) (fun h => ?_)) | (refine .i64 (by omega) (by omega) ?_) | (refine onSome.intro (idx_fs rfl rfl (by omega) (by omega) (fun _ => rfl)) ?_) | (refine onSome.intro (load_fs rfl (by omega) (by omega) rfl) ?_) | (refine And.intro rfl ?_))
      rcases ss with _ | ⟨u, ss⟩
      · exfalso; simp at hl
      conv => whnf
      exact .intro (Net.I ⟨[⟨[a, 0], [0, b], [[0, 0], [0, 900]], [[0, 0], [0, c]]⟩], 0, u :: ss⟩) (S1 s) ⟨_, s, rfl, rfl, hmade⟩ (Net.I_no _) (S1_no _) (.one (u := .agg [.mslice 11 0 1 1 true, .int .i64 0, .mslice 13 0 (ss.length + 1) (ss.length + 1) false]) (.inl rfl) rfl rfl
        (.aggL (.cons (.whole (sz := 4) (es := [[.mslice 2 0 2 2 true, .mslice 3 0 2 2 true, .mslice 6 0 2 2 true, .mslice 9 0 2 2 true]]) (es' := [Fam.R ⟨[a, 0], [0, b], [[0, 0], [0, 900]], [[0, 0], [0, c]]⟩]) rfl (fun _ _ h => by cases h) rfl
          (.cons (.cons (.ints (l := [a, 0]) rfl (fun _ _ h => by cases h) rfl) (.cons (.ints (l := [0, b]) rfl (fun _ _ h => by cases h) rfl)
            (.cons (.whole (sz := 1) (es := [[.mslice 4 0 2 2 true], [.mslice 5 0 2 2 true]]) (es' := [[0, 0], [0, 900]].map el) rfl (fun _ _ h => by cases h) rfl (.cons (.cons (.ints (l := [0, 0]) rfl (fun _ _ h => by cases h) rfl) .nil) (.cons (.cons (.ints (l := [0, 900]) rfl (fun _ _ h => by cases h) rfl) .nil) .nil)))
            (.cons (.whole (sz := 1) (es := [[.mslice 7 0 2 2 true], [.mslice 8 0 2 2 true]]) (es' := [[0, 0], [0, c]].map el) rfl (fun _ _ h => by cases h) rfl (.cons (.cons (.ints (l := [0, 0]) rfl (fun _ _ h => by cases h) rfl) .nil) (.cons (.cons (.ints (l := [0, c]) rfl (fun _ _ h => by cases h) rfl) .nil) .nil)))
            .nil)))) .nil)) (.cons (.refl _) (.cons (.whole (sz := 8) (es := (u :: ss).map Stg.R) rfl (fun _ _ h => by cases h) (by simp) (.refl _)) .nil)))) (Net.I_no _))
    have q := Upto_any s 900 (by omega)
    obtain ⟨u, t1, u0, u1, j1⟩ := q
    have q := Between_any t1 6 60 (by omega) (by omega) (by omega)
    obtain ⟨v, t2, v0, v1, j2⟩ := q
    have q := Between_any t2 1 9 (by omega) (by omega) (by omega)
    obtain ⟨nu, t3, n0, n1, j3⟩ := q
    have q := Between_any t3 9 60 (by omega) (by omega) (by omega)
    obtain ⟨de, t4, d0, d1, j4⟩ := q
    repeat' ((conv => whnf); first | (refine force_om ?_) | (refine forceC_om ?_) | (refine condP.dec (fun _ => ?_) (fun h => absurd (by omega) h)) | (refine CallP.one (fun H hb => j1 H _ hb) rfl ?_) | (refine CallP.one (fun H hb => j2 H _ hb) rfl ?_) | (refine CallP.one (fun H hb => j3 H _ hb) rfl ?_) | (refine CallP.one (fun H hb => j4 H _ hb) rfl ?_) | (first | refine condP.dec (fun h => ?_) (fun h => ?_) | refine condP.eq (fun h => ?_) (fun h => ?_) | refine condP.ne (fun h => ?_) (fun h => ?_)) | (refine .i64 (by omega) (by omega) ?_) | (refine onSome.intro (idx_fs rfl rfl (by omega) (by omega) (fun _ => rfl)) ?_) | (refine onSome.intro (load_fs rfl (by omega) (by omega) rfl) ?_) | (refine And.intro rfl ?_))
    conv => whnf
    generalize hv : -1000 * v = bv at *
    have hs : Stg.Ok (⟨0, ⟨b, b⟩, ⟨g, g + u⟩, ⟨bv, bv⟩, [⟨1 - (i : Int), nu, de⟩]⟩ : Stg) 1 2 := by
      refine ⟨by dsimp only; omega, by dsimp only; omega, ⟨by dsimp only; omega, by dsimp only; omega, by dsimp only; omega⟩, ⟨by dsimp only; omega, by dsimp only; omega, by dsimp only; omega⟩, ⟨by dsimp only; omega, by dsimp only; omega, by dsimp only; omega⟩, ⟨by simp, fun k hk => ?_, fun k k0 hk => ?_⟩⟩
      · obtain rfl : k = 0 := by simp at hk; exact hk
        exact ⟨by show 0 ≤ 1 - (i : Int); omega, by show 1 - (i : Int) < 2; omega, by show 0 ≤ nu; omega, by show nu ≤ 1000; omega, by show 1 ≤ de; omega, by show de ≤ 1000; omega⟩
      · exfalso; simp at hk; omega
    refine .snoc (enc := Stg.R) (l := ss) (b := 13) (r := [.int .i64 0, .int .i64 b, .int .i64 b, .int .i64 g, .int .i64 (g + u), .int .i64 bv, .int .i64 bv, .mslice 14 0 1 1 true]) rfl rfl rfl rfl (fun c hc => by simp at hc; rcases hc with rfl | rfl | rfl | rfl | rfl | rfl | rfl | rfl <;> rfl) (by omega) ?_
    (repeat ((conv => whnf); refine And.intro rfl ?_)); conv => whnf
    refine .i64 (by omega) (by omega) ?_
    conv => whnf
    exact .more (i + 1, ss ++ [⟨0, ⟨b, b⟩, ⟨g, g + u⟩, ⟨bv, bv⟩, [⟨1 - (i : Int), nu, de⟩]⟩], t4) [0, 1, 2, 3, 4, 5, 6, 7, 8, 9, 10, 11, 12, 17] rfl ⟨by dsimp only; omega, by simp; omega, fun j hj => by
        rcases Nat.lt_or_ge j i with c | c
        · dsimp only; rw [at'_left (by omega)]; exact hall j c
        · obtain rfl : j = i := by dsimp only at hj; omega
          dsimp only; rw [← hl, at'_last, hl]; exact hs⟩ (by dsimp only; omega) rfl ⟨.pt rfl, .pt rfl, .same (.int _ _), .same (.int _ _), .pt rfl, .nn (.int _ _) (frz_int (by dsimp only; omega)), trivial⟩
      ⟨.same (S1_no _), .same (noS_row (nn_cons .nilslice (nn_cons (.int _ _) (nn_cons .nilslice nn_none)))), .same noS_ints, .same noS_ints, .same noS_ints, .same noS_ints, MvS.rows (.cons (.cons (.ms rfl) .nil) (.cons (.cons (.ms rfl) .nil) .nil)), .same noS_ints, .same noS_ints, MvS.rows (.cons (.cons (.ms rfl) .nil) (.cons (.cons (.ms rfl) .nil) .nil)),
        .row (.cons (.ms rfl) (.cons (.ms rfl) (.cons (.ms rfl) (.cons (.ms rfl) .nil)))), .row (.cons (.ms rfl) (.cons (.ms rfl) (.cons (.ms rfl) (.cons (.ms rfl) .nil)))), .row (.cons (.ms rfl) (.cons (.same (.int _ _)) (.cons (.grown rfl (by simp) (by simp)) .nil))),
        .snocL (enc := Stg.R) (a := ⟨0, ⟨b, b⟩, ⟨g, g + u⟩, ⟨bv, bv⟩, [⟨1 - (i : Int), nu, de⟩]⟩) Stg.R_no (.cons (.same (.int _ _)) (.cons (.same (.int _ _)) (.cons (.same (.int _ _)) (.cons (.same (.int _ _)) (.cons (.same (.int _ _)) (.cons (.same (.int _ _)) (.cons (.same (.int _ _)) (.cons (.nn (tapsI_no [⟨1 - (i : Int), nu, de⟩]) (Frz.taps (b := 14) (l := [⟨1 - (i : Int), nu, de⟩]) rfl (fun _ _ h => by cases h) rfl)) .nil)))))))), trivial⟩)
  obtain ⟨v, z, ⟨n, s', rfl, rfl, h1⟩, _, _, k⟩ := key
  exact ⟨n, s', h1, fun H b hb => k H b hb⟩

end Go.Proofs.YtlfaglkkeahamaaGreat.I
