/- narrow: each of the five ranges (printed by tools/mknar.py). -/
import Derived.Test.YtbomgfbfnkfamaaKnar
set_option linter.unusedVariables false
set_option maxHeartbeats 16000000
set_option linter.unusedSimpArgs false
namespace Go.Proofs.Ytbomgfbfnkfamaa.I
open Go.Ideal

/-- The blocks of narrow. -/
def MS (L : Slot) (v w c d x0 x1 : Int) (f1 f2 : Nat) (off : Nat) : List Slot := [L, .live 1 [[.ptr 0 0 0]], .live 1 [[.ptr 0 0 off]], .live 4 [[.int .i64 v, .int .i64 w, .int .i64 c, .int .i64 d]], .live 2 [[.int .i64 x0, .int .i64 x1]],
  .live 1 [[.func (.func f1) [] [.ptr 4 0 0, .ptr 2 0 0, .ptr 1 0 0, .ptr 3 0 0]]], .live 1 [[.func (.func f2) [] [.ptr 5 0 0, .ptr 3 0 0]]]]
theorem inn_fn {S : Nat → Prop} {f : FuncId} {cs : List IV} (h : ∀ x ∈ cs, Inn S x) : Inn S (.func (.func f) [] cs) := .func _ _ _ (fun i h => by simp at h) (fun i hi => h _ (List.getElem_mem hi))
theorem row_chk {S : Nat → Prop} {sz : Nat} {r : List IV} {l : List Slot} (h : ∀ x ∈ r, Inn S x) (k : chkS S l) : chkS S (.live sz [r] :: l) := by
  refine ⟨fun j i hj hi => ?_, k⟩
  obtain rfl : j = 0 := by simpa using hj
  exact h _ (List.getElem_mem hi)
theorem all_one {S : Nat → Prop} {x : IV} (h : Inn S x) : ∀ y ∈ [x], Inn S y := fun y hy => by rw [List.mem_singleton.mp hy]; exact h
theorem all_cons {S : Nat → Prop} {x : IV} {l : List IV} (h : Inn S x) (k : ∀ y ∈ l, Inn S y) : ∀ y ∈ x :: l, Inn S y := fun y hy => by
  rcases List.mem_cons.mp hy with rfl | hy
  · exact h
  · exact k y hy
theorem MS_chk (a0 a1 a2 a3 a4 a5 a6 a7 a8 a9 v w c d x0 x1 : Int) (f1 f2 off : Nat) : chkS (fun b => b < 7) (MS (SL a0 a1 a2 a3 a4 a5 a6 a7 a8 a9) v w c d x0 x1 f1 f2 off) := by
  unfold MS SL
  exact row_chk (fun x hx => Noname.inn ((by simp [nn_int] : ∀ y ∈ _, Noname y) x hx) _) (row_chk (all_one (.ptr _ _ _ (by simp))) (row_chk (all_one (.ptr _ _ _ (by simp))) (row_chk (fun x hx => Noname.inn ((by simp [nn_int] : ∀ y ∈ _, Noname y) x hx) _) (row_chk (fun x hx => Noname.inn ((by simp [nn_int] : ∀ y ∈ _, Noname y) x hx) _)
    (row_chk (all_one (inn_fn (all_cons (.ptr _ _ _ (by simp)) (all_cons (.ptr _ _ _ (by simp)) (all_cons (.ptr _ _ _ (by simp)) (all_one (.ptr _ _ _ (by simp)))))))) (row_chk (all_one (inn_fn (all_cons (.ptr _ _ _ (by simp)) (all_one (.ptr _ _ _ (by simp)))))) trivial))))))
theorem narrow0_ok {p0 p1 g0 g1 s0 s1 f0 f1 q0 q1 v w c d : Int} {cl ch : Int → Int} (b0 : -1000000 ≤ p0) (b1 : p0 ≤ p1) (b2 : p1 ≤ 1000000)
    (hcur : ∀ m, p0 ≤ m → m ≤ p1 → ∀ H, Ev T (.call (.func (.func 80) [] []) [lawI m m g0 g1 s0 s1 f0 f1 q0 q1, .int .i64 v, .int .i64 w] H) (.call (rgI (cl m) (ch m)) H))
    (hm : ∀ m m', p0 ≤ m → m ≤ m' → m' ≤ p1 → cl m ≤ cl m' ∧ ch m ≤ ch m') :
    ∃ a b, Cutting p0 p1 (fun m => ch m < c) (fun m => d < cl m) a b ∧ ∀ (H : Heap) (n : Nat), H n = SL p0 p1 g0 g1 s0 s1 f0 f1 q0 q1 →
      Ev T (.call (.func (.func 104) [] []) [.ptr n 0 0, .ptr n 0 0, .bool true, rdI v w c d] H) (.call (.bool (decide (a ≤ b))) (H.set n (SL a b g0 g1 s0 s1 f0 f1 q0 q1))) := by
  have key := run_own_some T104 (args := [.ptr 0 0 0, .ptr 0 0 0, .bool true, rdI v w c d]) (s := SL p0 p1 g0 g1 s0 s1 f0 f1 q0 q1) (P := fun x z => ∃ a b, Cutting p0 p1 (fun m => ch m < c) (fun m => d < cl m) a b ∧ x = .bool (decide (a ≤ b)) ∧ z = SL a b g0 g1 s0 s1 f0 f1 q0 q1)
    (by
      intro x hx
      simp only [List.mem_cons, List.not_mem_nil, or_false] at hx
      rcases hx with rfl | rfl | rfl | rfl
      · exact .ptr _ _ _ (by simp)
      · exact .ptr _ _ _ (by simp)
      · exact .bool _
      · exact (rdI_no ..).inn _) (noS_row (by simp [nn_int])) (by
    conv => whnf
    refine .i64 (by omega) (by omega) ?_
    conv => whnf
    refine .i64 (by omega) (by omega) ?_
    conv => whnf
    refine CallP.inl T132 rfl ?_
    conv => whnf
    refine loop_rule (X := Nat × Nat × Int × Int) (fun x => [(0, .int .i64 (p1 - p0 + 1)), (1, .func (.func 133) [] [.ptr 6 0 0]), (5, .int .i64 x.1), (6, .int .i64 x.2.1)]) (fun x => MS (SL x.2.2.1 x.2.2.2 g0 g1 s0 s1 f0 f1 q0 q1) v w c d p0 p1 129 131 0)
      (fun x => x.2.1 - x.1) (fun x => x.1 ≤ x.2.1 ∧ (x.2.1 : Int) ≤ p1 - p0 + 1 ∧ (∀ m, p0 ≤ m → m < p0 + x.1 → ch m < c) ∧ (∀ m, p0 + x.2.1 ≤ m → m ≤ p1 → ¬ ch m < c)) (0, (p1 - p0 + 1).toNat, p0, p1)
      ⟨Nat.zero_le _, by dsimp only; omega, fun m h h' => absurd h' (by dsimp only; omega), fun m h h' => absurd h' (by dsimp only at h; omega)⟩ ⟨rfl, rfl, rfl, congrArg (IV.int .i64) (by dsimp only; omega), trivial⟩ rfl (fun _ _ => rfl) (fun x hx => ?_)
    obtain ⟨i, j, u, u'⟩ := x
    obtain ⟨h1, h2, h3, h4⟩ := hx
    dsimp only at h1 h2 h3 h4 ⊢
    conv => whnf
    refine condP.dec (fun h => ?_) (fun h => ?_)
    · conv => whnf
      refine .i64 (by omega) (by omega) ?_
      conv => whnf
      refine .u64 (by omega) (by omega) ?_
      conv => whnf
      rw [fd1]
      obtain ⟨m, hmid⟩ : ∃ m : Nat, ((i : Int) + j) / 2 = m := ⟨(i + j) / 2, by omega⟩
      rw [hmid]
      refine .i64 (by omega) (by omega) ?_
      conv => whnf
      refine CallP.inl T133 rfl ?_
      conv => whnf
      refine CallP.inl T131 rfl ?_
      conv => whnf
      refine CallP.inl T129 rfl ?_
      conv => whnf
      repeat' ((conv => whnf); first | (refine CallP.pure (hcur (p0 + m) (by omega) (by omega)) ?_) | (first | refine condP.dec (fun h => ?_) (fun h => ?_) | refine condP.eq (fun h => ?_) (fun h => ?_) | refine condP.ne (fun h => ?_) (fun h => ?_)) | (refine .i64 (by omega) (by omega) ?_) | (refine onSome.intro (idx_fs rfl rfl (by omega) (by omega) (fun _ => rfl)) ?_) | (refine onSome.intro (load_fs rfl (by omega) (by omega) rfl) ?_) | (refine And.intro rfl ?_))
      · rename_i hv
        conv => whnf
        refine .more (m + 1, j, p0 + m, p0 + m) rfl ⟨by dsimp only; omega, h2, fun k k0 k1 => ?_, h4⟩ (by dsimp only; omega) ⟨rfl, rfl, rfl, rfl, trivial⟩ rfl ⟨.int _ _, inn_fn (all_one (.ptr _ _ _ (show (6 : Nat) < 7 by decide))), .int _ _, .int _ _, trivial⟩ (MS_chk ..)
        have := (hm k (p0 + m) k0 (by dsimp only at k1; omega) (by omega)).2
        omega
      · conv => whnf
        refine .more (i, m, p0 + m, p0 + m) rfl ⟨by dsimp only; omega, by dsimp only; omega, h3, fun k k0 k1 => ?_⟩ (by dsimp only; omega) ⟨rfl, rfl, rfl, rfl, trivial⟩ rfl ⟨.int _ _, inn_fn (all_one (.ptr _ _ _ (show (6 : Nat) < 7 by decide))), .int _ _, .int _ _, trivial⟩ (MS_chk ..)
        have := (hm (p0 + m) k (by omega) (by dsimp only at k0; omega) k1).2
        omega
    obtain rfl : i = j := by omega
    conv => whnf
    refine .done (by simp) ?_
    conv => whnf
    refine CallP.inl T132 rfl ?_
    conv => whnf
    refine loop_rule (X := Nat × Nat × Int × Int) (fun x => [(0, .int .i64 (p1 - p0 + 1)), (1, .func (.func 130) [] [.ptr 5 0 0, .ptr 3 0 0]), (5, .int .i64 x.1), (6, .int .i64 x.2.1)]) (fun x => MS (SL x.2.2.1 x.2.2.2 g0 g1 s0 s1 f0 f1 q0 q1) v w c d p0 p1 129 131 0)
      (fun x => x.2.1 - x.1) (fun x => x.1 ≤ x.2.1 ∧ (x.2.1 : Int) ≤ p1 - p0 + 1 ∧ (∀ m, p0 ≤ m → m < p0 + x.1 → ¬ d < cl m) ∧ (∀ m, p0 + x.2.1 ≤ m → m ≤ p1 → d < cl m)) (0, (p1 - p0 + 1).toNat, u, u')
      ⟨Nat.zero_le _, by dsimp only; omega, fun m h h' => absurd h' (by dsimp only; omega), fun m h h' => absurd h' (by dsimp only at h; omega)⟩ ⟨rfl, rfl, rfl, congrArg (IV.int .i64) (by dsimp only; omega), trivial⟩ rfl (fun _ _ => rfl) (fun x hx => ?_)
    obtain ⟨k, j, u, u'⟩ := x
    obtain ⟨k1, k2, k3, k4⟩ := hx
    dsimp only at k1 k2 k3 k4 ⊢
    conv => whnf
    refine condP.dec (fun h => ?_) (fun h => ?_)
    · conv => whnf
      refine .i64 (by omega) (by omega) ?_
      conv => whnf
      refine .u64 (by omega) (by omega) ?_
      conv => whnf
      rw [fd1]
      obtain ⟨m, hmid⟩ : ∃ m : Nat, ((k : Int) + j) / 2 = m := ⟨(k + j) / 2, by omega⟩
      rw [hmid]
      refine .i64 (by omega) (by omega) ?_
      conv => whnf
      refine CallP.inl T130 rfl ?_
      conv => whnf
      refine CallP.inl T129 rfl ?_
      repeat' ((conv => whnf); first | (refine CallP.pure (hcur (p0 + m) (by omega) (by omega)) ?_) | (first | refine condP.dec (fun h => ?_) (fun h => ?_) | refine condP.eq (fun h => ?_) (fun h => ?_) | refine condP.ne (fun h => ?_) (fun h => ?_)) | (refine .i64 (by omega) (by omega) ?_) | (refine onSome.intro (idx_fs rfl rfl (by omega) (by omega) (fun _ => rfl)) ?_) | (refine onSome.intro (load_fs rfl (by omega) (by omega) rfl) ?_) | (refine And.intro rfl ?_))
      · rename_i hv
        conv => whnf
        refine .more (k, m, p0 + m, p0 + m) rfl ⟨by dsimp only; omega, by dsimp only; omega, k3, fun y y0 y1 => ?_⟩ (by dsimp only; omega) ⟨rfl, rfl, rfl, rfl, trivial⟩ rfl ⟨.int _ _, inn_fn (all_cons (.ptr _ _ _ (show (5 : Nat) < 7 by decide)) (all_one (.ptr _ _ _ (show (3 : Nat) < 7 by decide)))), .int _ _, .int _ _, trivial⟩ (MS_chk ..)
        have := (hm (p0 + m) y (by omega) (by dsimp only at y0; omega) y1).1
        omega
      · conv => whnf
        refine .more (m + 1, j, p0 + m, p0 + m) rfl ⟨by dsimp only; omega, k2, fun y y0 y1 => ?_, k4⟩ (by dsimp only; omega) ⟨rfl, rfl, rfl, rfl, trivial⟩ rfl ⟨.int _ _, inn_fn (all_cons (.ptr _ _ _ (show (5 : Nat) < 7 by decide)) (all_one (.ptr _ _ _ (show (3 : Nat) < 7 by decide)))), .int _ _, .int _ _, trivial⟩ (MS_chk ..)
        have := (hm y (p0 + m) y0 (by dsimp only at y1; omega) (by omega)).1
        omega
    obtain rfl : k = j := by omega
    conv => whnf
    refine .done (by simp) ?_
    have hC : Cutting p0 p1 (fun m => ch m < c) (fun m => d < cl m) (p0 + i) (p0 + ((k : Int) - 1)) := ⟨by omega, by omega, fun m a b => h3 m a b, fun m a b => h4 m a b, by omega, by omega, fun m a b => k4 m (by omega) b, fun m a b => k3 m a (by omega)⟩
    repeat' ((conv => whnf); first | (first | refine condP.dec (fun h => ?_) (fun h => ?_) | refine condP.eq (fun h => ?_) (fun h => ?_) | refine condP.ne (fun h => ?_) (fun h => ?_)) | (refine .i64 (by omega) (by omega) ?_) | (refine onSome.intro (idx_fs rfl rfl (by omega) (by omega) (fun _ => rfl)) ?_) | (refine onSome.intro (load_fs rfl (by omega) (by omega) rfl) ?_) | (refine And.intro rfl ?_))
    · rename_i hle
      conv => whnf
      exact .intro (.bool true) (SL (p0 + i) (p0 + ((k : Int) - 1)) g0 g1 s0 s1 f0 f1 q0 q1) ⟨_, _, hC, congrArg IV.bool (decide_eq_true (by omega)).symm, rfl⟩ (.bool _) (noS_row (by simp [nn_int])) (Go.Proofs.Ytbomgfbfnkfamaa.I.FinP.own (.inl rfl) rfl rfl (noS_row (by simp [nn_int])) (.refl _) (.bool _))
    · rename_i hle
      conv => whnf
      exact .intro (.bool false) (SL (p0 + i) (p0 + ((k : Int) - 1)) g0 g1 s0 s1 f0 f1 q0 q1) ⟨_, _, hC, congrArg IV.bool (decide_eq_false (by omega)).symm, rfl⟩ (.bool _) (noS_row (by simp [nn_int])) (Go.Proofs.Ytbomgfbfnkfamaa.I.FinP.own (.inl rfl) rfl rfl (noS_row (by simp [nn_int])) (.refl _) (.bool _)))
  obtain ⟨x, z, ⟨a, b, hC, rfl, rfl⟩, _, _, h⟩ := key
  exact ⟨a, b, hC, fun H n hn => h H n hn⟩
theorem narrow1_ok {p0 p1 g0 g1 s0 s1 f0 f1 q0 q1 v w c d : Int} {cl ch : Int → Int} (b0 : -1000000 ≤ g0) (b1 : g0 ≤ g1) (b2 : g1 ≤ 1000000)
    (hcur : ∀ m, g0 ≤ m → m ≤ g1 → ∀ H, Ev T (.call (.func (.func 80) [] []) [lawI p0 p1 m m s0 s1 f0 f1 q0 q1, .int .i64 v, .int .i64 w] H) (.call (rgI (cl m) (ch m)) H))
    (hm : ∀ m m', g0 ≤ m → m ≤ m' → m' ≤ g1 → cl m' ≤ cl m ∧ ch m' ≤ ch m) :
    ∃ a b, Cutting g0 g1 (fun m => d < cl m) (fun m => ch m < c) a b ∧ ∀ (H : Heap) (n : Nat), H n = SL p0 p1 g0 g1 s0 s1 f0 f1 q0 q1 →
      Ev T (.call (.func (.func 104) [] []) [.ptr n 0 0, .ptr n 0 2, .bool false, rdI v w c d] H) (.call (.bool (decide (a ≤ b))) (H.set n (SL p0 p1 a b s0 s1 f0 f1 q0 q1))) := by
  have key := run_own_some T104 (args := [.ptr 0 0 0, .ptr 0 0 2, .bool false, rdI v w c d]) (s := SL p0 p1 g0 g1 s0 s1 f0 f1 q0 q1) (P := fun x z => ∃ a b, Cutting g0 g1 (fun m => d < cl m) (fun m => ch m < c) a b ∧ x = .bool (decide (a ≤ b)) ∧ z = SL p0 p1 a b s0 s1 f0 f1 q0 q1)
    (by
      intro x hx
      simp only [List.mem_cons, List.not_mem_nil, or_false] at hx
      rcases hx with rfl | rfl | rfl | rfl
      · exact .ptr _ _ _ (by simp)
      · exact .ptr _ _ _ (by simp)
      · exact .bool _
      · exact (rdI_no ..).inn _) (noS_row (by simp [nn_int])) (by
    conv => whnf
    refine .i64 (by omega) (by omega) ?_
    conv => whnf
    refine .i64 (by omega) (by omega) ?_
    conv => whnf
    refine CallP.inl T132 rfl ?_
    conv => whnf
    refine loop_rule (X := Nat × Nat × Int × Int) (fun x => [(0, .int .i64 (g1 - g0 + 1)), (1, .func (.func 133) [] [.ptr 6 0 0]), (5, .int .i64 x.1), (6, .int .i64 x.2.1)]) (fun x => MS (SL p0 p1 x.2.2.1 x.2.2.2 s0 s1 f0 f1 q0 q1) v w c d g0 g1 129 130 2)
      (fun x => x.2.1 - x.1) (fun x => x.1 ≤ x.2.1 ∧ (x.2.1 : Int) ≤ g1 - g0 + 1 ∧ (∀ m, g0 ≤ m → m < g0 + x.1 → d < cl m) ∧ (∀ m, g0 + x.2.1 ≤ m → m ≤ g1 → ¬ d < cl m)) (0, (g1 - g0 + 1).toNat, g0, g1)
      ⟨Nat.zero_le _, by dsimp only; omega, fun m h h' => absurd h' (by dsimp only; omega), fun m h h' => absurd h' (by dsimp only at h; omega)⟩ ⟨rfl, rfl, rfl, congrArg (IV.int .i64) (by dsimp only; omega), trivial⟩ rfl (fun _ _ => rfl) (fun x hx => ?_)
    obtain ⟨i, j, u, u'⟩ := x
    obtain ⟨h1, h2, h3, h4⟩ := hx
    dsimp only at h1 h2 h3 h4 ⊢
    conv => whnf
    refine condP.dec (fun h => ?_) (fun h => ?_)
    · conv => whnf
      refine .i64 (by omega) (by omega) ?_
      conv => whnf
      refine .u64 (by omega) (by omega) ?_
      conv => whnf
      rw [fd1]
      obtain ⟨m, hmid⟩ : ∃ m : Nat, ((i : Int) + j) / 2 = m := ⟨(i + j) / 2, by omega⟩
      rw [hmid]
      refine .i64 (by omega) (by omega) ?_
      conv => whnf
      refine CallP.inl T133 rfl ?_
      conv => whnf
      refine CallP.inl T130 rfl ?_
      conv => whnf
      refine CallP.inl T129 rfl ?_
      conv => whnf
      repeat' ((conv => whnf); first | (refine CallP.pure (hcur (g0 + m) (by omega) (by omega)) ?_) | (first | refine condP.dec (fun h => ?_) (fun h => ?_) | refine condP.eq (fun h => ?_) (fun h => ?_) | refine condP.ne (fun h => ?_) (fun h => ?_)) | (refine .i64 (by omega) (by omega) ?_) | (refine onSome.intro (idx_fs rfl rfl (by omega) (by omega) (fun _ => rfl)) ?_) | (refine onSome.intro (load_fs rfl (by omega) (by omega) rfl) ?_) | (refine And.intro rfl ?_))
      · rename_i hv
        conv => whnf
        refine .more (m + 1, j, g0 + m, g0 + m) rfl ⟨by dsimp only; omega, h2, fun k k0 k1 => ?_, h4⟩ (by dsimp only; omega) ⟨rfl, rfl, rfl, rfl, trivial⟩ rfl ⟨.int _ _, inn_fn (all_one (.ptr _ _ _ (show (6 : Nat) < 7 by decide))), .int _ _, .int _ _, trivial⟩ (MS_chk ..)
        have := (hm k (g0 + m) k0 (by dsimp only at k1; omega) (by omega)).1
        omega
      · conv => whnf
        refine .more (i, m, g0 + m, g0 + m) rfl ⟨by dsimp only; omega, by dsimp only; omega, h3, fun k k0 k1 => ?_⟩ (by dsimp only; omega) ⟨rfl, rfl, rfl, rfl, trivial⟩ rfl ⟨.int _ _, inn_fn (all_one (.ptr _ _ _ (show (6 : Nat) < 7 by decide))), .int _ _, .int _ _, trivial⟩ (MS_chk ..)
        have := (hm (g0 + m) k (by omega) (by dsimp only at k0; omega) k1).1
        omega
    obtain rfl : i = j := by omega
    conv => whnf
    refine .done (by simp) ?_
    conv => whnf
    refine CallP.inl T132 rfl ?_
    conv => whnf
    refine loop_rule (X := Nat × Nat × Int × Int) (fun x => [(0, .int .i64 (g1 - g0 + 1)), (1, .func (.func 131) [] [.ptr 5 0 0, .ptr 3 0 0]), (5, .int .i64 x.1), (6, .int .i64 x.2.1)]) (fun x => MS (SL p0 p1 x.2.2.1 x.2.2.2 s0 s1 f0 f1 q0 q1) v w c d g0 g1 129 130 2)
      (fun x => x.2.1 - x.1) (fun x => x.1 ≤ x.2.1 ∧ (x.2.1 : Int) ≤ g1 - g0 + 1 ∧ (∀ m, g0 ≤ m → m < g0 + x.1 → ¬ ch m < c) ∧ (∀ m, g0 + x.2.1 ≤ m → m ≤ g1 → ch m < c)) (0, (g1 - g0 + 1).toNat, u, u')
      ⟨Nat.zero_le _, by dsimp only; omega, fun m h h' => absurd h' (by dsimp only; omega), fun m h h' => absurd h' (by dsimp only at h; omega)⟩ ⟨rfl, rfl, rfl, congrArg (IV.int .i64) (by dsimp only; omega), trivial⟩ rfl (fun _ _ => rfl) (fun x hx => ?_)
    obtain ⟨k, j, u, u'⟩ := x
    obtain ⟨k1, k2, k3, k4⟩ := hx
    dsimp only at k1 k2 k3 k4 ⊢
    conv => whnf
    refine condP.dec (fun h => ?_) (fun h => ?_)
    · conv => whnf
      refine .i64 (by omega) (by omega) ?_
      conv => whnf
      refine .u64 (by omega) (by omega) ?_
      conv => whnf
      rw [fd1]
      obtain ⟨m, hmid⟩ : ∃ m : Nat, ((k : Int) + j) / 2 = m := ⟨(k + j) / 2, by omega⟩
      rw [hmid]
      refine .i64 (by omega) (by omega) ?_
      conv => whnf
      refine CallP.inl T131 rfl ?_
      conv => whnf
      refine CallP.inl T129 rfl ?_
      repeat' ((conv => whnf); first | (refine CallP.pure (hcur (g0 + m) (by omega) (by omega)) ?_) | (first | refine condP.dec (fun h => ?_) (fun h => ?_) | refine condP.eq (fun h => ?_) (fun h => ?_) | refine condP.ne (fun h => ?_) (fun h => ?_)) | (refine .i64 (by omega) (by omega) ?_) | (refine onSome.intro (idx_fs rfl rfl (by omega) (by omega) (fun _ => rfl)) ?_) | (refine onSome.intro (load_fs rfl (by omega) (by omega) rfl) ?_) | (refine And.intro rfl ?_))
      · rename_i hv
        conv => whnf
        refine .more (k, m, g0 + m, g0 + m) rfl ⟨by dsimp only; omega, by dsimp only; omega, k3, fun y y0 y1 => ?_⟩ (by dsimp only; omega) ⟨rfl, rfl, rfl, rfl, trivial⟩ rfl ⟨.int _ _, inn_fn (all_cons (.ptr _ _ _ (show (5 : Nat) < 7 by decide)) (all_one (.ptr _ _ _ (show (3 : Nat) < 7 by decide)))), .int _ _, .int _ _, trivial⟩ (MS_chk ..)
        have := (hm (g0 + m) y (by omega) (by dsimp only at y0; omega) y1).2
        omega
      · conv => whnf
        refine .more (m + 1, j, g0 + m, g0 + m) rfl ⟨by dsimp only; omega, k2, fun y y0 y1 => ?_, k4⟩ (by dsimp only; omega) ⟨rfl, rfl, rfl, rfl, trivial⟩ rfl ⟨.int _ _, inn_fn (all_cons (.ptr _ _ _ (show (5 : Nat) < 7 by decide)) (all_one (.ptr _ _ _ (show (3 : Nat) < 7 by decide)))), .int _ _, .int _ _, trivial⟩ (MS_chk ..)
        have := (hm y (g0 + m) y0 (by dsimp only at y1; omega) (by omega)).2
        omega
    obtain rfl : k = j := by omega
    conv => whnf
    refine .done (by simp) ?_
    have hC : Cutting g0 g1 (fun m => d < cl m) (fun m => ch m < c) (g0 + i) (g0 + ((k : Int) - 1)) := ⟨by omega, by omega, fun m a b => h3 m a b, fun m a b => h4 m a b, by omega, by omega, fun m a b => k4 m (by omega) b, fun m a b => k3 m a (by omega)⟩
    repeat' ((conv => whnf); first | (first | refine condP.dec (fun h => ?_) (fun h => ?_) | refine condP.eq (fun h => ?_) (fun h => ?_) | refine condP.ne (fun h => ?_) (fun h => ?_)) | (refine .i64 (by omega) (by omega) ?_) | (refine onSome.intro (idx_fs rfl rfl (by omega) (by omega) (fun _ => rfl)) ?_) | (refine onSome.intro (load_fs rfl (by omega) (by omega) rfl) ?_) | (refine And.intro rfl ?_))
    · rename_i hle
      conv => whnf
      exact .intro (.bool true) (SL p0 p1 (g0 + i) (g0 + ((k : Int) - 1)) s0 s1 f0 f1 q0 q1) ⟨_, _, hC, congrArg IV.bool (decide_eq_true (by omega)).symm, rfl⟩ (.bool _) (noS_row (by simp [nn_int])) (Go.Proofs.Ytbomgfbfnkfamaa.I.FinP.own (.inl rfl) rfl rfl (noS_row (by simp [nn_int])) (.refl _) (.bool _))
    · rename_i hle
      conv => whnf
      exact .intro (.bool false) (SL p0 p1 (g0 + i) (g0 + ((k : Int) - 1)) s0 s1 f0 f1 q0 q1) ⟨_, _, hC, congrArg IV.bool (decide_eq_false (by omega)).symm, rfl⟩ (.bool _) (noS_row (by simp [nn_int])) (Go.Proofs.Ytbomgfbfnkfamaa.I.FinP.own (.inl rfl) rfl rfl (noS_row (by simp [nn_int])) (.refl _) (.bool _)))
  obtain ⟨x, z, ⟨a, b, hC, rfl, rfl⟩, _, _, h⟩ := key
  exact ⟨a, b, hC, fun H n hn => h H n hn⟩
theorem narrow2_ok {p0 p1 g0 g1 s0 s1 f0 f1 q0 q1 v w c d : Int} {cl ch : Int → Int} (b0 : -1000000 ≤ s0) (b1 : s0 ≤ s1) (b2 : s1 ≤ 1000000)
    (hcur : ∀ m, s0 ≤ m → m ≤ s1 → ∀ H, Ev T (.call (.func (.func 80) [] []) [lawI p0 p1 g0 g1 m m f0 f1 q0 q1, .int .i64 v, .int .i64 w] H) (.call (rgI (cl m) (ch m)) H))
    (hm : ∀ m m', s0 ≤ m → m ≤ m' → m' ≤ s1 → cl m ≤ cl m' ∧ ch m ≤ ch m') :
    ∃ a b, Cutting s0 s1 (fun m => ch m < c) (fun m => d < cl m) a b ∧ ∀ (H : Heap) (n : Nat), H n = SL p0 p1 g0 g1 s0 s1 f0 f1 q0 q1 →
      Ev T (.call (.func (.func 104) [] []) [.ptr n 0 0, .ptr n 0 4, .bool true, rdI v w c d] H) (.call (.bool (decide (a ≤ b))) (H.set n (SL p0 p1 g0 g1 a b f0 f1 q0 q1))) := by
  have key := run_own_some T104 (args := [.ptr 0 0 0, .ptr 0 0 4, .bool true, rdI v w c d]) (s := SL p0 p1 g0 g1 s0 s1 f0 f1 q0 q1) (P := fun x z => ∃ a b, Cutting s0 s1 (fun m => ch m < c) (fun m => d < cl m) a b ∧ x = .bool (decide (a ≤ b)) ∧ z = SL p0 p1 g0 g1 a b f0 f1 q0 q1)
    (by
      intro x hx
      simp only [List.mem_cons, List.not_mem_nil, or_false] at hx
      rcases hx with rfl | rfl | rfl | rfl
      · exact .ptr _ _ _ (by simp)
      · exact .ptr _ _ _ (by simp)
      · exact .bool _
      · exact (rdI_no ..).inn _) (noS_row (by simp [nn_int])) (by
    conv => whnf
    refine .i64 (by omega) (by omega) ?_
    conv => whnf
    refine .i64 (by omega) (by omega) ?_
    conv => whnf
    refine CallP.inl T132 rfl ?_
    conv => whnf
    refine loop_rule (X := Nat × Nat × Int × Int) (fun x => [(0, .int .i64 (s1 - s0 + 1)), (1, .func (.func 133) [] [.ptr 6 0 0]), (5, .int .i64 x.1), (6, .int .i64 x.2.1)]) (fun x => MS (SL p0 p1 g0 g1 x.2.2.1 x.2.2.2 f0 f1 q0 q1) v w c d s0 s1 129 131 4)
      (fun x => x.2.1 - x.1) (fun x => x.1 ≤ x.2.1 ∧ (x.2.1 : Int) ≤ s1 - s0 + 1 ∧ (∀ m, s0 ≤ m → m < s0 + x.1 → ch m < c) ∧ (∀ m, s0 + x.2.1 ≤ m → m ≤ s1 → ¬ ch m < c)) (0, (s1 - s0 + 1).toNat, s0, s1)
      ⟨Nat.zero_le _, by dsimp only; omega, fun m h h' => absurd h' (by dsimp only; omega), fun m h h' => absurd h' (by dsimp only at h; omega)⟩ ⟨rfl, rfl, rfl, congrArg (IV.int .i64) (by dsimp only; omega), trivial⟩ rfl (fun _ _ => rfl) (fun x hx => ?_)
    obtain ⟨i, j, u, u'⟩ := x
    obtain ⟨h1, h2, h3, h4⟩ := hx
    dsimp only at h1 h2 h3 h4 ⊢
    conv => whnf
    refine condP.dec (fun h => ?_) (fun h => ?_)
    · conv => whnf
      refine .i64 (by omega) (by omega) ?_
      conv => whnf
      refine .u64 (by omega) (by omega) ?_
      conv => whnf
      rw [fd1]
      obtain ⟨m, hmid⟩ : ∃ m : Nat, ((i : Int) + j) / 2 = m := ⟨(i + j) / 2, by omega⟩
      rw [hmid]
      refine .i64 (by omega) (by omega) ?_
      conv => whnf
      refine CallP.inl T133 rfl ?_
      conv => whnf
      refine CallP.inl T131 rfl ?_
      conv => whnf
      refine CallP.inl T129 rfl ?_
      conv => whnf
      repeat' ((conv => whnf); first | (refine CallP.pure (hcur (s0 + m) (by omega) (by omega)) ?_) | (first | refine condP.dec (fun h => ?_) (fun h => ?_) | refine condP.eq (fun h => ?_) (fun h => ?_) | refine condP.ne (fun h => ?_) (fun h => ?_)) | (refine .i64 (by omega) (by omega) ?_) | (refine onSome.intro (idx_fs rfl rfl (by omega) (by omega) (fun _ => rfl)) ?_) | (refine onSome.intro (load_fs rfl (by omega) (by omega) rfl) ?_) | (refine And.intro rfl ?_))
      · rename_i hv
        conv => whnf
        refine .more (m + 1, j, s0 + m, s0 + m) rfl ⟨by dsimp only; omega, h2, fun k k0 k1 => ?_, h4⟩ (by dsimp only; omega) ⟨rfl, rfl, rfl, rfl, trivial⟩ rfl ⟨.int _ _, inn_fn (all_one (.ptr _ _ _ (show (6 : Nat) < 7 by decide))), .int _ _, .int _ _, trivial⟩ (MS_chk ..)
        have := (hm k (s0 + m) k0 (by dsimp only at k1; omega) (by omega)).2
        omega
      · conv => whnf
        refine .more (i, m, s0 + m, s0 + m) rfl ⟨by dsimp only; omega, by dsimp only; omega, h3, fun k k0 k1 => ?_⟩ (by dsimp only; omega) ⟨rfl, rfl, rfl, rfl, trivial⟩ rfl ⟨.int _ _, inn_fn (all_one (.ptr _ _ _ (show (6 : Nat) < 7 by decide))), .int _ _, .int _ _, trivial⟩ (MS_chk ..)
        have := (hm (s0 + m) k (by omega) (by dsimp only at k0; omega) k1).2
        omega
    obtain rfl : i = j := by omega
    conv => whnf
    refine .done (by simp) ?_
    conv => whnf
    refine CallP.inl T132 rfl ?_
    conv => whnf
    refine loop_rule (X := Nat × Nat × Int × Int) (fun x => [(0, .int .i64 (s1 - s0 + 1)), (1, .func (.func 130) [] [.ptr 5 0 0, .ptr 3 0 0]), (5, .int .i64 x.1), (6, .int .i64 x.2.1)]) (fun x => MS (SL p0 p1 g0 g1 x.2.2.1 x.2.2.2 f0 f1 q0 q1) v w c d s0 s1 129 131 4)
      (fun x => x.2.1 - x.1) (fun x => x.1 ≤ x.2.1 ∧ (x.2.1 : Int) ≤ s1 - s0 + 1 ∧ (∀ m, s0 ≤ m → m < s0 + x.1 → ¬ d < cl m) ∧ (∀ m, s0 + x.2.1 ≤ m → m ≤ s1 → d < cl m)) (0, (s1 - s0 + 1).toNat, u, u')
      ⟨Nat.zero_le _, by dsimp only; omega, fun m h h' => absurd h' (by dsimp only; omega), fun m h h' => absurd h' (by dsimp only at h; omega)⟩ ⟨rfl, rfl, rfl, congrArg (IV.int .i64) (by dsimp only; omega), trivial⟩ rfl (fun _ _ => rfl) (fun x hx => ?_)
    obtain ⟨k, j, u, u'⟩ := x
    obtain ⟨k1, k2, k3, k4⟩ := hx
    dsimp only at k1 k2 k3 k4 ⊢
    conv => whnf
    refine condP.dec (fun h => ?_) (fun h => ?_)
    · conv => whnf
      refine .i64 (by omega) (by omega) ?_
      conv => whnf
      refine .u64 (by omega) (by omega) ?_
      conv => whnf
      rw [fd1]
      obtain ⟨m, hmid⟩ : ∃ m : Nat, ((k : Int) + j) / 2 = m := ⟨(k + j) / 2, by omega⟩
      rw [hmid]
      refine .i64 (by omega) (by omega) ?_
      conv => whnf
      refine CallP.inl T130 rfl ?_
      conv => whnf
      refine CallP.inl T129 rfl ?_
      repeat' ((conv => whnf); first | (refine CallP.pure (hcur (s0 + m) (by omega) (by omega)) ?_) | (first | refine condP.dec (fun h => ?_) (fun h => ?_) | refine condP.eq (fun h => ?_) (fun h => ?_) | refine condP.ne (fun h => ?_) (fun h => ?_)) | (refine .i64 (by omega) (by omega) ?_) | (refine onSome.intro (idx_fs rfl rfl (by omega) (by omega) (fun _ => rfl)) ?_) | (refine onSome.intro (load_fs rfl (by omega) (by omega) rfl) ?_) | (refine And.intro rfl ?_))
      · rename_i hv
        conv => whnf
        refine .more (k, m, s0 + m, s0 + m) rfl ⟨by dsimp only; omega, by dsimp only; omega, k3, fun y y0 y1 => ?_⟩ (by dsimp only; omega) ⟨rfl, rfl, rfl, rfl, trivial⟩ rfl ⟨.int _ _, inn_fn (all_cons (.ptr _ _ _ (show (5 : Nat) < 7 by decide)) (all_one (.ptr _ _ _ (show (3 : Nat) < 7 by decide)))), .int _ _, .int _ _, trivial⟩ (MS_chk ..)
        have := (hm (s0 + m) y (by omega) (by dsimp only at y0; omega) y1).1
        omega
      · conv => whnf
        refine .more (m + 1, j, s0 + m, s0 + m) rfl ⟨by dsimp only; omega, k2, fun y y0 y1 => ?_, k4⟩ (by dsimp only; omega) ⟨rfl, rfl, rfl, rfl, trivial⟩ rfl ⟨.int _ _, inn_fn (all_cons (.ptr _ _ _ (show (5 : Nat) < 7 by decide)) (all_one (.ptr _ _ _ (show (3 : Nat) < 7 by decide)))), .int _ _, .int _ _, trivial⟩ (MS_chk ..)
        have := (hm y (s0 + m) y0 (by dsimp only at y1; omega) (by omega)).1
        omega
    obtain rfl : k = j := by omega
    conv => whnf
    refine .done (by simp) ?_
    have hC : Cutting s0 s1 (fun m => ch m < c) (fun m => d < cl m) (s0 + i) (s0 + ((k : Int) - 1)) := ⟨by omega, by omega, fun m a b => h3 m a b, fun m a b => h4 m a b, by omega, by omega, fun m a b => k4 m (by omega) b, fun m a b => k3 m a (by omega)⟩
    repeat' ((conv => whnf); first | (first | refine condP.dec (fun h => ?_) (fun h => ?_) | refine condP.eq (fun h => ?_) (fun h => ?_) | refine condP.ne (fun h => ?_) (fun h => ?_)) | (refine .i64 (by omega) (by omega) ?_) | (refine onSome.intro (idx_fs rfl rfl (by omega) (by omega) (fun _ => rfl)) ?_) | (refine onSome.intro (load_fs rfl (by omega) (by omega) rfl) ?_) | (refine And.intro rfl ?_))
    · rename_i hle
      conv => whnf
      exact .intro (.bool true) (SL p0 p1 g0 g1 (s0 + i) (s0 + ((k : Int) - 1)) f0 f1 q0 q1) ⟨_, _, hC, congrArg IV.bool (decide_eq_true (by omega)).symm, rfl⟩ (.bool _) (noS_row (by simp [nn_int])) (Go.Proofs.Ytbomgfbfnkfamaa.I.FinP.own (.inl rfl) rfl rfl (noS_row (by simp [nn_int])) (.refl _) (.bool _))
    · rename_i hle
      conv => whnf
      exact .intro (.bool false) (SL p0 p1 g0 g1 (s0 + i) (s0 + ((k : Int) - 1)) f0 f1 q0 q1) ⟨_, _, hC, congrArg IV.bool (decide_eq_false (by omega)).symm, rfl⟩ (.bool _) (noS_row (by simp [nn_int])) (Go.Proofs.Ytbomgfbfnkfamaa.I.FinP.own (.inl rfl) rfl rfl (noS_row (by simp [nn_int])) (.refl _) (.bool _)))
  obtain ⟨x, z, ⟨a, b, hC, rfl, rfl⟩, _, _, h⟩ := key
  exact ⟨a, b, hC, fun H n hn => h H n hn⟩
theorem narrow3_ok {p0 p1 g0 g1 s0 s1 f0 f1 q0 q1 v w c d : Int} {cl ch : Int → Int} (b0 : -1000000 ≤ f0) (b1 : f0 ≤ f1) (b2 : f1 ≤ 1000000)
    (hcur : ∀ m, f0 ≤ m → m ≤ f1 → ∀ H, Ev T (.call (.func (.func 80) [] []) [lawI p0 p1 g0 g1 s0 s1 m m q0 q1, .int .i64 v, .int .i64 w] H) (.call (rgI (cl m) (ch m)) H))
    (hm : ∀ m m', f0 ≤ m → m ≤ m' → m' ≤ f1 → cl m ≤ cl m' ∧ ch m ≤ ch m') :
    ∃ a b, Cutting f0 f1 (fun m => ch m < c) (fun m => d < cl m) a b ∧ ∀ (H : Heap) (n : Nat), H n = SL p0 p1 g0 g1 s0 s1 f0 f1 q0 q1 →
      Ev T (.call (.func (.func 104) [] []) [.ptr n 0 0, .ptr n 0 6, .bool true, rdI v w c d] H) (.call (.bool (decide (a ≤ b))) (H.set n (SL p0 p1 g0 g1 s0 s1 a b q0 q1))) := by
  have key := run_own_some T104 (args := [.ptr 0 0 0, .ptr 0 0 6, .bool true, rdI v w c d]) (s := SL p0 p1 g0 g1 s0 s1 f0 f1 q0 q1) (P := fun x z => ∃ a b, Cutting f0 f1 (fun m => ch m < c) (fun m => d < cl m) a b ∧ x = .bool (decide (a ≤ b)) ∧ z = SL p0 p1 g0 g1 s0 s1 a b q0 q1)
    (by
      intro x hx
      simp only [List.mem_cons, List.not_mem_nil, or_false] at hx
      rcases hx with rfl | rfl | rfl | rfl
      · exact .ptr _ _ _ (by simp)
      · exact .ptr _ _ _ (by simp)
      · exact .bool _
      · exact (rdI_no ..).inn _) (noS_row (by simp [nn_int])) (by
    conv => whnf
    refine .i64 (by omega) (by omega) ?_
    conv => whnf
    refine .i64 (by omega) (by omega) ?_
    conv => whnf
    refine CallP.inl T132 rfl ?_
    conv => whnf
    refine loop_rule (X := Nat × Nat × Int × Int) (fun x => [(0, .int .i64 (f1 - f0 + 1)), (1, .func (.func 133) [] [.ptr 6 0 0]), (5, .int .i64 x.1), (6, .int .i64 x.2.1)]) (fun x => MS (SL p0 p1 g0 g1 s0 s1 x.2.2.1 x.2.2.2 q0 q1) v w c d f0 f1 129 131 6)
      (fun x => x.2.1 - x.1) (fun x => x.1 ≤ x.2.1 ∧ (x.2.1 : Int) ≤ f1 - f0 + 1 ∧ (∀ m, f0 ≤ m → m < f0 + x.1 → ch m < c) ∧ (∀ m, f0 + x.2.1 ≤ m → m ≤ f1 → ¬ ch m < c)) (0, (f1 - f0 + 1).toNat, f0, f1)
      ⟨Nat.zero_le _, by dsimp only; omega, fun m h h' => absurd h' (by dsimp only; omega), fun m h h' => absurd h' (by dsimp only at h; omega)⟩ ⟨rfl, rfl, rfl, congrArg (IV.int .i64) (by dsimp only; omega), trivial⟩ rfl (fun _ _ => rfl) (fun x hx => ?_)
    obtain ⟨i, j, u, u'⟩ := x
    obtain ⟨h1, h2, h3, h4⟩ := hx
    dsimp only at h1 h2 h3 h4 ⊢
    conv => whnf
    refine condP.dec (fun h => ?_) (fun h => ?_)
    · conv => whnf
      refine .i64 (by omega) (by omega) ?_
      conv => whnf
      refine .u64 (by omega) (by omega) ?_
      conv => whnf
      rw [fd1]
      obtain ⟨m, hmid⟩ : ∃ m : Nat, ((i : Int) + j) / 2 = m := ⟨(i + j) / 2, by omega⟩
      rw [hmid]
      refine .i64 (by omega) (by omega) ?_
      conv => whnf
      refine CallP.inl T133 rfl ?_
      conv => whnf
      refine CallP.inl T131 rfl ?_
      conv => whnf
      refine CallP.inl T129 rfl ?_
      conv => whnf
      repeat' ((conv => whnf); first | (refine CallP.pure (hcur (f0 + m) (by omega) (by omega)) ?_) | (first | refine condP.dec (fun h => ?_) (fun h => ?_) | refine condP.eq (fun h => ?_) (fun h => ?_) | refine condP.ne (fun h => ?_) (fun h => ?_)) | (refine .i64 (by omega) (by omega) ?_) | (refine onSome.intro (idx_fs rfl rfl (by omega) (by omega) (fun _ => rfl)) ?_) | (refine onSome.intro (load_fs rfl (by omega) (by omega) rfl) ?_) | (refine And.intro rfl ?_))
      · rename_i hv
        conv => whnf
        refine .more (m + 1, j, f0 + m, f0 + m) rfl ⟨by dsimp only; omega, h2, fun k k0 k1 => ?_, h4⟩ (by dsimp only; omega) ⟨rfl, rfl, rfl, rfl, trivial⟩ rfl ⟨.int _ _, inn_fn (all_one (.ptr _ _ _ (show (6 : Nat) < 7 by decide))), .int _ _, .int _ _, trivial⟩ (MS_chk ..)
        have := (hm k (f0 + m) k0 (by dsimp only at k1; omega) (by omega)).2
        omega
      · conv => whnf
        refine .more (i, m, f0 + m, f0 + m) rfl ⟨by dsimp only; omega, by dsimp only; omega, h3, fun k k0 k1 => ?_⟩ (by dsimp only; omega) ⟨rfl, rfl, rfl, rfl, trivial⟩ rfl ⟨.int _ _, inn_fn (all_one (.ptr _ _ _ (show (6 : Nat) < 7 by decide))), .int _ _, .int _ _, trivial⟩ (MS_chk ..)
        have := (hm (f0 + m) k (by omega) (by dsimp only at k0; omega) k1).2
        omega
    obtain rfl : i = j := by omega
    conv => whnf
    refine .done (by simp) ?_
    conv => whnf
    refine CallP.inl T132 rfl ?_
    conv => whnf
    refine loop_rule (X := Nat × Nat × Int × Int) (fun x => [(0, .int .i64 (f1 - f0 + 1)), (1, .func (.func 130) [] [.ptr 5 0 0, .ptr 3 0 0]), (5, .int .i64 x.1), (6, .int .i64 x.2.1)]) (fun x => MS (SL p0 p1 g0 g1 s0 s1 x.2.2.1 x.2.2.2 q0 q1) v w c d f0 f1 129 131 6)
      (fun x => x.2.1 - x.1) (fun x => x.1 ≤ x.2.1 ∧ (x.2.1 : Int) ≤ f1 - f0 + 1 ∧ (∀ m, f0 ≤ m → m < f0 + x.1 → ¬ d < cl m) ∧ (∀ m, f0 + x.2.1 ≤ m → m ≤ f1 → d < cl m)) (0, (f1 - f0 + 1).toNat, u, u')
      ⟨Nat.zero_le _, by dsimp only; omega, fun m h h' => absurd h' (by dsimp only; omega), fun m h h' => absurd h' (by dsimp only at h; omega)⟩ ⟨rfl, rfl, rfl, congrArg (IV.int .i64) (by dsimp only; omega), trivial⟩ rfl (fun _ _ => rfl) (fun x hx => ?_)
    obtain ⟨k, j, u, u'⟩ := x
    obtain ⟨k1, k2, k3, k4⟩ := hx
    dsimp only at k1 k2 k3 k4 ⊢
    conv => whnf
    refine condP.dec (fun h => ?_) (fun h => ?_)
    · conv => whnf
      refine .i64 (by omega) (by omega) ?_
      conv => whnf
      refine .u64 (by omega) (by omega) ?_
      conv => whnf
      rw [fd1]
      obtain ⟨m, hmid⟩ : ∃ m : Nat, ((k : Int) + j) / 2 = m := ⟨(k + j) / 2, by omega⟩
      rw [hmid]
      refine .i64 (by omega) (by omega) ?_
      conv => whnf
      refine CallP.inl T130 rfl ?_
      conv => whnf
      refine CallP.inl T129 rfl ?_
      repeat' ((conv => whnf); first | (refine CallP.pure (hcur (f0 + m) (by omega) (by omega)) ?_) | (first | refine condP.dec (fun h => ?_) (fun h => ?_) | refine condP.eq (fun h => ?_) (fun h => ?_) | refine condP.ne (fun h => ?_) (fun h => ?_)) | (refine .i64 (by omega) (by omega) ?_) | (refine onSome.intro (idx_fs rfl rfl (by omega) (by omega) (fun _ => rfl)) ?_) | (refine onSome.intro (load_fs rfl (by omega) (by omega) rfl) ?_) | (refine And.intro rfl ?_))
      · rename_i hv
        conv => whnf
        refine .more (k, m, f0 + m, f0 + m) rfl ⟨by dsimp only; omega, by dsimp only; omega, k3, fun y y0 y1 => ?_⟩ (by dsimp only; omega) ⟨rfl, rfl, rfl, rfl, trivial⟩ rfl ⟨.int _ _, inn_fn (all_cons (.ptr _ _ _ (show (5 : Nat) < 7 by decide)) (all_one (.ptr _ _ _ (show (3 : Nat) < 7 by decide)))), .int _ _, .int _ _, trivial⟩ (MS_chk ..)
        have := (hm (f0 + m) y (by omega) (by dsimp only at y0; omega) y1).1
        omega
      · conv => whnf
        refine .more (m + 1, j, f0 + m, f0 + m) rfl ⟨by dsimp only; omega, k2, fun y y0 y1 => ?_, k4⟩ (by dsimp only; omega) ⟨rfl, rfl, rfl, rfl, trivial⟩ rfl ⟨.int _ _, inn_fn (all_cons (.ptr _ _ _ (show (5 : Nat) < 7 by decide)) (all_one (.ptr _ _ _ (show (3 : Nat) < 7 by decide)))), .int _ _, .int _ _, trivial⟩ (MS_chk ..)
        have := (hm y (f0 + m) y0 (by dsimp only at y1; omega) (by omega)).1
        omega
    obtain rfl : k = j := by omega
    conv => whnf
    refine .done (by simp) ?_
    have hC : Cutting f0 f1 (fun m => ch m < c) (fun m => d < cl m) (f0 + i) (f0 + ((k : Int) - 1)) := ⟨by omega, by omega, fun m a b => h3 m a b, fun m a b => h4 m a b, by omega, by omega, fun m a b => k4 m (by omega) b, fun m a b => k3 m a (by omega)⟩
    repeat' ((conv => whnf); first | (first | refine condP.dec (fun h => ?_) (fun h => ?_) | refine condP.eq (fun h => ?_) (fun h => ?_) | refine condP.ne (fun h => ?_) (fun h => ?_)) | (refine .i64 (by omega) (by omega) ?_) | (refine onSome.intro (idx_fs rfl rfl (by omega) (by omega) (fun _ => rfl)) ?_) | (refine onSome.intro (load_fs rfl (by omega) (by omega) rfl) ?_) | (refine And.intro rfl ?_))
    · rename_i hle
      conv => whnf
      exact .intro (.bool true) (SL p0 p1 g0 g1 s0 s1 (f0 + i) (f0 + ((k : Int) - 1)) q0 q1) ⟨_, _, hC, congrArg IV.bool (decide_eq_true (by omega)).symm, rfl⟩ (.bool _) (noS_row (by simp [nn_int])) (Go.Proofs.Ytbomgfbfnkfamaa.I.FinP.own (.inl rfl) rfl rfl (noS_row (by simp [nn_int])) (.refl _) (.bool _))
    · rename_i hle
      conv => whnf
      exact .intro (.bool false) (SL p0 p1 g0 g1 s0 s1 (f0 + i) (f0 + ((k : Int) - 1)) q0 q1) ⟨_, _, hC, congrArg IV.bool (decide_eq_false (by omega)).symm, rfl⟩ (.bool _) (noS_row (by simp [nn_int])) (Go.Proofs.Ytbomgfbfnkfamaa.I.FinP.own (.inl rfl) rfl rfl (noS_row (by simp [nn_int])) (.refl _) (.bool _)))
  obtain ⟨x, z, ⟨a, b, hC, rfl, rfl⟩, _, _, h⟩ := key
  exact ⟨a, b, hC, fun H n hn => h H n hn⟩
theorem narrow4_ok {p0 p1 g0 g1 s0 s1 f0 f1 q0 q1 v w c d : Int} {cl ch : Int → Int} (b0 : -1000000 ≤ q0) (b1 : q0 ≤ q1) (b2 : q1 ≤ 1000000)
    (hcur : ∀ m, q0 ≤ m → m ≤ q1 → ∀ H, Ev T (.call (.func (.func 80) [] []) [lawI p0 p1 g0 g1 s0 s1 f0 f1 m m, .int .i64 v, .int .i64 w] H) (.call (rgI (cl m) (ch m)) H))
    (hm : ∀ m m', q0 ≤ m → m ≤ m' → m' ≤ q1 → cl m ≤ cl m' ∧ ch m ≤ ch m') :
    ∃ a b, Cutting q0 q1 (fun m => ch m < c) (fun m => d < cl m) a b ∧ ∀ (H : Heap) (n : Nat), H n = SL p0 p1 g0 g1 s0 s1 f0 f1 q0 q1 →
      Ev T (.call (.func (.func 104) [] []) [.ptr n 0 0, .ptr n 0 8, .bool true, rdI v w c d] H) (.call (.bool (decide (a ≤ b))) (H.set n (SL p0 p1 g0 g1 s0 s1 f0 f1 a b))) := by
  have key := run_own_some T104 (args := [.ptr 0 0 0, .ptr 0 0 8, .bool true, rdI v w c d]) (s := SL p0 p1 g0 g1 s0 s1 f0 f1 q0 q1) (P := fun x z => ∃ a b, Cutting q0 q1 (fun m => ch m < c) (fun m => d < cl m) a b ∧ x = .bool (decide (a ≤ b)) ∧ z = SL p0 p1 g0 g1 s0 s1 f0 f1 a b)
    (by
      intro x hx
      simp only [List.mem_cons, List.not_mem_nil, or_false] at hx
      rcases hx with rfl | rfl | rfl | rfl
      · exact .ptr _ _ _ (by simp)
      · exact .ptr _ _ _ (by simp)
      · exact .bool _
      · exact (rdI_no ..).inn _) (noS_row (by simp [nn_int])) (by
    conv => whnf
    refine .i64 (by omega) (by omega) ?_
    conv => whnf
    refine .i64 (by omega) (by omega) ?_
    conv => whnf
    refine CallP.inl T132 rfl ?_
    conv => whnf
    refine loop_rule (X := Nat × Nat × Int × Int) (fun x => [(0, .int .i64 (q1 - q0 + 1)), (1, .func (.func 133) [] [.ptr 6 0 0]), (5, .int .i64 x.1), (6, .int .i64 x.2.1)]) (fun x => MS (SL p0 p1 g0 g1 s0 s1 f0 f1 x.2.2.1 x.2.2.2) v w c d q0 q1 129 131 8)
      (fun x => x.2.1 - x.1) (fun x => x.1 ≤ x.2.1 ∧ (x.2.1 : Int) ≤ q1 - q0 + 1 ∧ (∀ m, q0 ≤ m → m < q0 + x.1 → ch m < c) ∧ (∀ m, q0 + x.2.1 ≤ m → m ≤ q1 → ¬ ch m < c)) (0, (q1 - q0 + 1).toNat, q0, q1)
      ⟨Nat.zero_le _, by dsimp only; omega, fun m h h' => absurd h' (by dsimp only; omega), fun m h h' => absurd h' (by dsimp only at h; omega)⟩ ⟨rfl, rfl, rfl, congrArg (IV.int .i64) (by dsimp only; omega), trivial⟩ rfl (fun _ _ => rfl) (fun x hx => ?_)
    obtain ⟨i, j, u, u'⟩ := x
    obtain ⟨h1, h2, h3, h4⟩ := hx
    dsimp only at h1 h2 h3 h4 ⊢
    conv => whnf
    refine condP.dec (fun h => ?_) (fun h => ?_)
    · conv => whnf
      refine .i64 (by omega) (by omega) ?_
      conv => whnf
      refine .u64 (by omega) (by omega) ?_
      conv => whnf
      rw [fd1]
      obtain ⟨m, hmid⟩ : ∃ m : Nat, ((i : Int) + j) / 2 = m := ⟨(i + j) / 2, by omega⟩
      rw [hmid]
      refine .i64 (by omega) (by omega) ?_
      conv => whnf
      refine CallP.inl T133 rfl ?_
      conv => whnf
      refine CallP.inl T131 rfl ?_
      conv => whnf
      refine CallP.inl T129 rfl ?_
      conv => whnf
      repeat' ((conv => whnf); first | (refine CallP.pure (hcur (q0 + m) (by omega) (by omega)) ?_) | (first | refine condP.dec (fun h => ?_) (fun h => ?_) | refine condP.eq (fun h => ?_) (fun h => ?_) | refine condP.ne (fun h => ?_) (fun h => ?_)) | (refine .i64 (by omega) (by omega) ?_) | (refine onSome.intro (idx_fs rfl rfl (by omega) (by omega) (fun _ => rfl)) ?_) | (refine onSome.intro (load_fs rfl (by omega) (by omega) rfl) ?_) | (refine And.intro rfl ?_))
      · rename_i hv
        conv => whnf
        refine .more (m + 1, j, q0 + m, q0 + m) rfl ⟨by dsimp only; omega, h2, fun k k0 k1 => ?_, h4⟩ (by dsimp only; omega) ⟨rfl, rfl, rfl, rfl, trivial⟩ rfl ⟨.int _ _, inn_fn (all_one (.ptr _ _ _ (show (6 : Nat) < 7 by decide))), .int _ _, .int _ _, trivial⟩ (MS_chk ..)
        have := (hm k (q0 + m) k0 (by dsimp only at k1; omega) (by omega)).2
        omega
      · conv => whnf
        refine .more (i, m, q0 + m, q0 + m) rfl ⟨by dsimp only; omega, by dsimp only; omega, h3, fun k k0 k1 => ?_⟩ (by dsimp only; omega) ⟨rfl, rfl, rfl, rfl, trivial⟩ rfl ⟨.int _ _, inn_fn (all_one (.ptr _ _ _ (show (6 : Nat) < 7 by decide))), .int _ _, .int _ _, trivial⟩ (MS_chk ..)
        have := (hm (q0 + m) k (by omega) (by dsimp only at k0; omega) k1).2
        omega
    obtain rfl : i = j := by omega
    conv => whnf
    refine .done (by simp) ?_
    conv => whnf
    refine CallP.inl T132 rfl ?_
    conv => whnf
    refine loop_rule (X := Nat × Nat × Int × Int) (fun x => [(0, .int .i64 (q1 - q0 + 1)), (1, .func (.func 130) [] [.ptr 5 0 0, .ptr 3 0 0]), (5, .int .i64 x.1), (6, .int .i64 x.2.1)]) (fun x => MS (SL p0 p1 g0 g1 s0 s1 f0 f1 x.2.2.1 x.2.2.2) v w c d q0 q1 129 131 8)
      (fun x => x.2.1 - x.1) (fun x => x.1 ≤ x.2.1 ∧ (x.2.1 : Int) ≤ q1 - q0 + 1 ∧ (∀ m, q0 ≤ m → m < q0 + x.1 → ¬ d < cl m) ∧ (∀ m, q0 + x.2.1 ≤ m → m ≤ q1 → d < cl m)) (0, (q1 - q0 + 1).toNat, u, u')
      ⟨Nat.zero_le _, by dsimp only; omega, fun m h h' => absurd h' (by dsimp only; omega), fun m h h' => absurd h' (by dsimp only at h; omega)⟩ ⟨rfl, rfl, rfl, congrArg (IV.int .i64) (by dsimp only; omega), trivial⟩ rfl (fun _ _ => rfl) (fun x hx => ?_)
    obtain ⟨k, j, u, u'⟩ := x
    obtain ⟨k1, k2, k3, k4⟩ := hx
    dsimp only at k1 k2 k3 k4 ⊢
    conv => whnf
    refine condP.dec (fun h => ?_) (fun h => ?_)
    · conv => whnf
      refine .i64 (by omega) (by omega) ?_
      conv => whnf
      refine .u64 (by omega) (by omega) ?_
      conv => whnf
      rw [fd1]
      obtain ⟨m, hmid⟩ : ∃ m : Nat, ((k : Int) + j) / 2 = m := ⟨(k + j) / 2, by omega⟩
      rw [hmid]
      refine .i64 (by omega) (by omega) ?_
      conv => whnf
      refine CallP.inl T130 rfl ?_
      conv => whnf
      refine CallP.inl T129 rfl ?_
      repeat' ((conv => whnf); first | (refine CallP.pure (hcur (q0 + m) (by omega) (by omega)) ?_) | (first | refine condP.dec (fun h => ?_) (fun h => ?_) | refine condP.eq (fun h => ?_) (fun h => ?_) | refine condP.ne (fun h => ?_) (fun h => ?_)) | (refine .i64 (by omega) (by omega) ?_) | (refine onSome.intro (idx_fs rfl rfl (by omega) (by omega) (fun _ => rfl)) ?_) | (refine onSome.intro (load_fs rfl (by omega) (by omega) rfl) ?_) | (refine And.intro rfl ?_))
      · rename_i hv
        conv => whnf
        refine .more (k, m, q0 + m, q0 + m) rfl ⟨by dsimp only; omega, by dsimp only; omega, k3, fun y y0 y1 => ?_⟩ (by dsimp only; omega) ⟨rfl, rfl, rfl, rfl, trivial⟩ rfl ⟨.int _ _, inn_fn (all_cons (.ptr _ _ _ (show (5 : Nat) < 7 by decide)) (all_one (.ptr _ _ _ (show (3 : Nat) < 7 by decide)))), .int _ _, .int _ _, trivial⟩ (MS_chk ..)
        have := (hm (q0 + m) y (by omega) (by dsimp only at y0; omega) y1).1
        omega
      · conv => whnf
        refine .more (m + 1, j, q0 + m, q0 + m) rfl ⟨by dsimp only; omega, k2, fun y y0 y1 => ?_, k4⟩ (by dsimp only; omega) ⟨rfl, rfl, rfl, rfl, trivial⟩ rfl ⟨.int _ _, inn_fn (all_cons (.ptr _ _ _ (show (5 : Nat) < 7 by decide)) (all_one (.ptr _ _ _ (show (3 : Nat) < 7 by decide)))), .int _ _, .int _ _, trivial⟩ (MS_chk ..)
        have := (hm y (q0 + m) y0 (by dsimp only at y1; omega) (by omega)).1
        omega
    obtain rfl : k = j := by omega
    conv => whnf
    refine .done (by simp) ?_
    have hC : Cutting q0 q1 (fun m => ch m < c) (fun m => d < cl m) (q0 + i) (q0 + ((k : Int) - 1)) := ⟨by omega, by omega, fun m a b => h3 m a b, fun m a b => h4 m a b, by omega, by omega, fun m a b => k4 m (by omega) b, fun m a b => k3 m a (by omega)⟩
    repeat' ((conv => whnf); first | (first | refine condP.dec (fun h => ?_) (fun h => ?_) | refine condP.eq (fun h => ?_) (fun h => ?_) | refine condP.ne (fun h => ?_) (fun h => ?_)) | (refine .i64 (by omega) (by omega) ?_) | (refine onSome.intro (idx_fs rfl rfl (by omega) (by omega) (fun _ => rfl)) ?_) | (refine onSome.intro (load_fs rfl (by omega) (by omega) rfl) ?_) | (refine And.intro rfl ?_))
    · rename_i hle
      conv => whnf
      exact .intro (.bool true) (SL p0 p1 g0 g1 s0 s1 f0 f1 (q0 + i) (q0 + ((k : Int) - 1))) ⟨_, _, hC, congrArg IV.bool (decide_eq_true (by omega)).symm, rfl⟩ (.bool _) (noS_row (by simp [nn_int])) (Go.Proofs.Ytbomgfbfnkfamaa.I.FinP.own (.inl rfl) rfl rfl (noS_row (by simp [nn_int])) (.refl _) (.bool _))
    · rename_i hle
      conv => whnf
      exact .intro (.bool false) (SL p0 p1 g0 g1 s0 s1 f0 f1 (q0 + i) (q0 + ((k : Int) - 1))) ⟨_, _, hC, congrArg IV.bool (decide_eq_false (by omega)).symm, rfl⟩ (.bool _) (noS_row (by simp [nn_int])) (Go.Proofs.Ytbomgfbfnkfamaa.I.FinP.own (.inl rfl) rfl rfl (noS_row (by simp [nn_int])) (.refl _) (.bool _)))
  obtain ⟨x, z, ⟨a, b, hC, rfl, rfl⟩, _, _, h⟩ := key
  exact ⟨a, b, hC, fun H n hn => h H n hn⟩
end Go.Proofs.Ytbomgfbfnkfamaa.I
