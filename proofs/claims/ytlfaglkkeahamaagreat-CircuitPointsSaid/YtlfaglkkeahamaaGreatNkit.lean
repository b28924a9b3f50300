/- Nets that are made of numbers. -/
import Derived.Test.YtlfaglkkeahamaaGreatNawake
import Derived.Test.YtlfaglkkeahamaaGreatKfamof
set_option linter.unusedVariables false
set_option maxHeartbeats 16000000
set_option linter.unusedSimpArgs false
namespace Go.Proofs.YtlfaglkkeahamaaGreat.I
open Go.Ideal

theorem About_any (s n by_ lo hi : Int) (h : lo ≤ hi) (h0 : -1000000 ≤ lo) (h1 : hi ≤ 1000000) (n0 : -1000000 ≤ n) (n1 : n ≤ 1000000) (b0 : 0 ≤ by_) (b1 : by_ ≤ 1000000) : ∃ (r : Rg) (s' : Int), r.Ok lo hi ∧ r.hi ≤ max n lo + by_ ∧
    ∀ (H : Heap) (b : Nat), H b = S1 s → Ev T (.call (.func (.func 70) [] []) [.ptr b 0 0, .int .i64 n, .int .i64 by_, .int .i64 lo, .int .i64 hi] H) (.call r.I (H.set b (S1 s'))) := by
  have key := run_one_some T70 (i := 0) (off := 0) (args := [.int .i64 n, .int .i64 by_, .int .i64 lo, .int .i64 hi]) (s := S1 s) (P := fun v z => ∃ (r : Rg) (s' : Int), v = r.I ∧ z = S1 s' ∧ r.Ok lo hi ∧ r.hi ≤ max n lo + by_)
    (nn_cons (nn_int _ _) (nn_cons (nn_int _ _) (nn_cons (nn_int _ _) (nn_cons (nn_int _ _) nn_none)))) (S1_no _) (by
    have q := One_any s 2 (by omega)
    obtain ⟨w, s1, k0⟩ := q
    have q := Upto_any s1 (by_ + 1) (by omega)
    obtain ⟨x, s2, x0, x1, k1⟩ := q
    have q := Upto_any s2 (by_ + 1) (by omega)
    obtain ⟨y, s3, y0, y1, k2⟩ := q
    cases w
    · repeat' ((conv => whnf); first | (refine CallP.one (fun H hb => k0 H _ hb) rfl ?_) | (refine CallP.one (fun H hb => k1 H _ hb) rfl ?_) | (refine CallP.one (fun H hb => k2 H _ hb) rfl ?_) | (first | refine condP.dec (fun h => ?_) (fun h => ?_) | refine condP.eq (fun h => ?_) (fun h => ?_) | refine condP.ne (fun h => ?_) (fun h => ?_)) | (refine .i64 (by omega) (by omega) ?_) | (refine onSome.intro (idx_fs rfl rfl (by omega) (by omega) (fun _ => rfl)) ?_) | (refine onSome.intro (load_fs rfl (by omega) (by omega) rfl) ?_) | (refine And.intro rfl ?_))
      conv => whnf
      exact .intro (Rg.I ⟨max lo (min (max n lo) hi - x), min hi (min (max n lo) hi + y)⟩) (S1 s3) ⟨_, s3, rfl, rfl, ⟨by dsimp only; omega, by dsimp only; omega, by dsimp only; omega⟩, by dsimp only; omega⟩ (Rg.I_no _) (S1_no _) (.one (.inl rfl) rfl rfl (.refl _) (Rg.I_no _))
    · repeat' ((conv => whnf); first | (refine CallP.one (fun H hb => k0 H _ hb) rfl ?_) | (first | refine condP.dec (fun h => ?_) (fun h => ?_) | refine condP.eq (fun h => ?_) (fun h => ?_) | refine condP.ne (fun h => ?_) (fun h => ?_)) | (refine .i64 (by omega) (by omega) ?_) | (refine onSome.intro (idx_fs rfl rfl (by omega) (by omega) (fun _ => rfl)) ?_) | (refine onSome.intro (load_fs rfl (by omega) (by omega) rfl) ?_) | (refine And.intro rfl ?_))
      conv => whnf
      exact .intro (Rg.I ⟨min (max n lo) hi, min (max n lo) hi⟩) (S1 s1) ⟨_, s1, rfl, rfl, ⟨by dsimp only; omega, by dsimp only; omega, by dsimp only; omega⟩, by dsimp only; omega⟩ (Rg.I_no _) (S1_no _) (.one (.inl rfl) rfl rfl (.refl _) (Rg.I_no _)))
  obtain ⟨v, z, ⟨r, s', rfl, rfl, h1, h2⟩, _, _, k⟩ := key
  exact ⟨r, s', h1, h2, fun H b hb => k H b hb⟩
theorem ol_frz {H H' : Heap} {α : Type} {enc : α → List IV} {l : List α} {b sz : Nat} (hH : H b = lsS sz enc l) (hH' : ∀ sz e, H' b ≠ .live sz e) : Frz H H' (omsl b l) (ol enc l) := by
  cases l with
  | nil => exact .refl _
  | cons a l => exact .whole hH hH' (by simp) (.refl _)
theorem InputsOf_any (s : Int) (n : Net) (h0 : 0 ≤ n.ins) (h1 : n.ins ≤ 4) : ∃ (l : List Rg) (s' : Int), RgsOk l n.ins (-1000000) 1000000 ∧
    ∀ (H : Heap) (b : Nat), H b = S1 s → Ev T (.call (.func (.func 27) [] []) [.ptr b 0 0, n.I] H) (.call (ol Rg.R l) (H.set b (S1 s'))) := by
  have key := run_one_some T27 (i := 0) (off := 0) (args := [n.I]) (s := S1 s) (P := fun v z => ∃ (l : List Rg) (s' : Int), v = ol Rg.R l ∧ z = S1 s' ∧ RgsOk l n.ins (-1000000) 1000000)
    (nn_cons n.I_no nn_none) (S1_no _) (by
    conv => whnf
    refine .pad 1 ?_
    refine loop_grow (X := Nat × List Rg × Int) (fun x => [(0, .ptr 0 0 0), (3, .ptr 1 0 0), (5, omsl 2 x.2.1), (6, .int .i64 x.1)]) (fun x => [S1 x.2.2, .live 3 [n.R], lsS 2 Rg.R x.2.1])
      (fun x => n.ins.toNat - x.1) (fun x => (x.1 : Int) ≤ n.ins ∧ x.2.1.length = x.1 ∧ ∀ i : Nat, i < x.2.1.length → (at' x.2.1 (i : Int)).Ok (-1000000) 1000000) (0, [], s) ⟨h0, rfl, fun i hi => by simp at hi⟩ ⟨rfl, rfl, rfl, rfl, trivial⟩ rfl (fun x hx => ?_)
    obtain ⟨i, out, s⟩ := x
    obtain ⟨hi, hl, hall⟩ := hx
    dsimp only at hi hl hall ⊢
    by_cases hlt : (i : Int) < n.ins
    · have q := Between_any s (-9000) 3000 (by omega) (by omega) (by omega)
      obtain ⟨x, s1, x0, x1, k0⟩ := q
      have q := About_any s1 x 2000 (-1000000) 1000000 (by omega) (by omega) (by omega) (by omega) (by omega) (by omega) (by omega)
      obtain ⟨r, s2, hr, _, k1⟩ := q
      repeat' ((conv => whnf); first | (refine force_om ?_) | (refine forceC_om ?_) | (refine condP.dec (fun _ => ?_) (fun h => absurd (by omega) h)) | (refine CallP.one (fun H hb => k0 H _ hb) rfl ?_) | (refine CallP.one (fun H hb => k1 H _ hb) rfl ?_) | (first | refine condP.dec (fun h => ?_) (fun h => ?_) | refine condP.eq (fun h => ?_) (fun h => ?_) | refine condP.ne (fun h => ?_) (fun h => ?_)) | (refine .i64 (by omega) (by omega) ?_) | (refine onSome.intro (idx_fs rfl rfl (by omega) (by omega) (fun _ => rfl)) ?_) | (refine onSome.intro (load_fs rfl (by omega) (by omega) rfl) ?_) | (refine And.intro rfl ?_))
      conv => whnf
      refine .snocM (enc := Rg.R) (l := out) (b := 2) r rfl rfl rfl rfl (fun c hc => by simp [Rg.R] at hc; rcases hc with rfl | rfl <;> rfl) (by omega) ?_
      (repeat ((conv => whnf); refine And.intro rfl ?_)); conv => whnf
      refine .i64 (by omega) (by omega) ?_
      conv => whnf
      exact .more (i + 1, out ++ [r], s2) [0, 1, 4] rfl ⟨by dsimp only; omega, by simp; omega, fun j hj => by
        rw [List.length_append, List.length_singleton] at hj
        rcases Nat.lt_or_ge j out.length with c | c
        · dsimp only; rw [at'_left c]; exact hall j c
        · dsimp only; rw [show j = out.length + 0 by omega, at'_right]; exact hr⟩ (by dsimp only; omega) rfl ⟨.pt rfl, .pt rfl, .grown rfl (by simp) (by simp), .nn (.int _ _) (frz_int (by dsimp only; omega)), trivial⟩
        ⟨.same (S1_no _), .same (noS_row n.R_no), .lsM (by simp) Rg.R_no, trivial⟩
    · repeat' ((conv => whnf); first | (refine force_om ?_) | (refine forceC_om ?_) | (refine condP.dec (fun h => absurd h (by omega)) (fun _ => ?_)) | (first | refine condP.dec (fun h => ?_) (fun h => ?_) | refine condP.eq (fun h => ?_) (fun h => ?_) | refine condP.ne (fun h => ?_) (fun h => ?_)) | (refine .i64 (by omega) (by omega) ?_) | (refine onSome.intro (idx_fs rfl rfl (by omega) (by omega) (fun _ => rfl)) ?_) | (refine onSome.intro (load_fs rfl (by omega) (by omega) rfl) ?_) | (refine And.intro rfl ?_))
      refine .done (by simp) ?_
      repeat' ((conv => whnf); first | (refine force_om ?_) | (refine forceC_om ?_) | (first | refine condP.dec (fun h => ?_) (fun h => ?_) | refine condP.eq (fun h => ?_) (fun h => ?_) | refine condP.ne (fun h => ?_) (fun h => ?_)) | (refine .i64 (by omega) (by omega) ?_) | (refine onSome.intro (idx_fs rfl rfl (by omega) (by omega) (fun _ => rfl)) ?_) | (refine onSome.intro (load_fs rfl (by omega) (by omega) rfl) ?_) | (refine And.intro rfl ?_))
      conv => whnf
      exact .intro (ol Rg.R out) (S1 s) ⟨out, s, rfl, rfl, by omega, hall⟩ (ol_no Rg.R_no _) (S1_no _) (.one (u := omsl 2 out) (.inl rfl) rfl rfl (ol_frz (sz := 2) rfl (fun _ _ h => by cases h)) (ol_no Rg.R_no _)))
  obtain ⟨v, z, ⟨l, s', rfl, rfl, h⟩, _, _, k⟩ := key
  exact ⟨l, s', h, fun H b hb => k H b hb⟩

end Go.Proofs.YtlfaglkkeahamaaGreat.I
