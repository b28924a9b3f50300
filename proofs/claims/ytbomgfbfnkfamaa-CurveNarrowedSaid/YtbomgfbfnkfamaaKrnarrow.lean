/- The reference's narrowed, for each of the five ranges (printed by tools/mkrnar.py). -/
import Derived.Test.YtbomgfbfnkfamaaKnar
set_option linter.unusedVariables false
set_option maxHeartbeats 16000000
set_option linter.unusedSimpArgs false
namespace Go.Proofs.Ytbomgfbfnkfamaa.I
open Go.Ideal

theorem Alone_ok (n : Int) (H : Heap) : Ev T (.call (.func (.func 135) [] []) [.int .i64 n] H) (.call (rgI n n) H) := by
  refine run_pure T135 (rgI_no _ _) (nn_cons (nn_int _ _) nn_none) ?_ H
  conv => whnf
  exact .intro (rgI n n) (.inl rfl) rfl (.refl _)
theorem under_ok {p0 p1 g0 g1 s0 s1 f0 f1 q0 q1 v w c d a b : Int} (hc : ∀ H, Ev T (.call (.func (.func 85) [] []) [lawI p0 p1 g0 g1 s0 s1 f0 f1 q0 q1, .int .i64 v, .int .i64 w] H) (.call (rgI a b) H)) (H : Heap) :
    Ev T (.call (.func (.func 136) [] []) [lawI p0 p1 g0 g1 s0 s1 f0 f1 q0 q1, rdI v w c d] H) (.call (.bool (decide (b < c))) H) := by
  refine run_pure T136 (.bool _) (nn_cons (lawI_no ..) (nn_cons (rdI_no ..) nn_none)) ?_ H
  repeat' ((conv => whnf); first | (refine CallP.pure hc ?_) | (first | refine condP.dec (fun h => ?_) (fun h => ?_) | refine condP.eq (fun h => ?_) (fun h => ?_) | refine condP.ne (fun h => ?_) (fun h => ?_)) | (refine .i64 (by omega) (by omega) ?_) | (refine onSome.intro (idx_fs rfl rfl (by omega) (by omega) (fun _ => rfl)) ?_) | (refine onSome.intro (load_fs rfl (by omega) (by omega) rfl) ?_) | (refine And.intro rfl ?_))
  · conv => whnf
    exact .intro (.bool true) (.inl rfl) rfl (frz_bool (decide_eq_true h).symm)
  · conv => whnf
    exact .intro (.bool false) (.inl rfl) rfl (frz_bool (decide_eq_false h).symm)
theorem over_ok {p0 p1 g0 g1 s0 s1 f0 f1 q0 q1 v w c d a b : Int} (hc : ∀ H, Ev T (.call (.func (.func 85) [] []) [lawI p0 p1 g0 g1 s0 s1 f0 f1 q0 q1, .int .i64 v, .int .i64 w] H) (.call (rgI a b) H)) (H : Heap) :
    Ev T (.call (.func (.func 137) [] []) [lawI p0 p1 g0 g1 s0 s1 f0 f1 q0 q1, rdI v w c d] H) (.call (.bool (decide (d < a))) H) := by
  refine run_pure T137 (.bool _) (nn_cons (lawI_no ..) (nn_cons (rdI_no ..) nn_none)) ?_ H
  repeat' ((conv => whnf); first | (refine CallP.pure hc ?_) | (first | refine condP.dec (fun h => ?_) (fun h => ?_) | refine condP.eq (fun h => ?_) (fun h => ?_) | refine condP.ne (fun h => ?_) (fun h => ?_)) | (refine .i64 (by omega) (by omega) ?_) | (refine onSome.intro (idx_fs rfl rfl (by omega) (by omega) (fun _ => rfl)) ?_) | (refine onSome.intro (load_fs rfl (by omega) (by omega) rfl) ?_) | (refine And.intro rfl ?_))
  · conv => whnf
    exact .intro (.bool true) (.inl rfl) rfl (frz_bool (decide_eq_true h).symm)
  · conv => whnf
    exact .intro (.bool false) (.inl rfl) rfl (frz_bool (decide_eq_false h).symm)
def RS (L : Slot) (v w c d x0 x1 : Int) : List Slot := [L, .live 4 [[.int .i64 v, .int .i64 w, .int .i64 c, .int .i64 d]], .live 2 [[.int .i64 0, .int .i64 0]], .live 2 [[.int .i64 x0, .int .i64 x1]]]
theorem RS_chk (a0 a1 a2 a3 a4 a5 a6 a7 a8 a9 v w c d x0 x1 : Int) : chkS (fun b => b < 4) (RS (SL a0 a1 a2 a3 a4 a5 a6 a7 a8 a9) v w c d x0 x1) := by
  have row : ∀ {sz : Nat} {r : List IV} {l : List Slot}, (∀ x ∈ r, Noname x) → chkS (fun b => b < 4) l → chkS (fun b => b < 4) (.live sz [r] :: l) := fun {sz r l} h k => by
    refine ⟨fun j i hj hi => ?_, k⟩
    obtain rfl : j = 0 := by simpa using hj
    exact (h _ (List.getElem_mem hi)).inn _
  unfold RS SL
  exact row (by simp [nn_int]) (row (by simp [nn_int]) (row (by simp [nn_int]) (row (by simp [nn_int]) trivial)))
theorem rfield0_ok (p0 p1 g0 g1 s0 s1 f0 f1 q0 q1 : Int) (H : Heap) : Ev T (.call (.func (.func 134) [] []) [lawI p0 p1 g0 g1 s0 s1 f0 f1 q0 q1, .int .i64 0] H) (.call (rgI p0 p1) H) := by
  refine run_pure T134 (rgI_no _ _) (nn_cons (lawI_no ..) (nn_cons (nn_int _ _) nn_none)) ?_ H
  conv => whnf
  exact .intro (rgI p0 p1) (.inl rfl) rfl (.refl _)
theorem rput0_ok (p0 p1 g0 g1 s0 s1 f0 f1 q0 q1 a b : Int) (H : Heap) : Ev T (.call (.func (.func 106) [] []) [lawI p0 p1 g0 g1 s0 s1 f0 f1 q0 q1, .int .i64 0, rgI a b] H) (.call (lawI a b g0 g1 s0 s1 f0 f1 q0 q1) H) := by
  refine run_pure T106 (lawI_no ..) (nn_cons (lawI_no ..) (nn_cons (nn_int _ _) (nn_cons (rgI_no _ _) nn_none))) ?_ H
  conv => whnf
  exact .intro (lawI a b g0 g1 s0 s1 f0 f1 q0 q1) (.inl rfl) rfl (.refl _)
theorem rnarrowed0_ok {p0 p1 g0 g1 s0 s1 f0 f1 q0 q1 v w c d : Int} {cl ch : Int → Int} (b0 : -1000000 ≤ p0) (b1 : p0 ≤ p1) (b2 : p1 ≤ 1000000)
    (hcur : ∀ m, p0 ≤ m → m ≤ p1 → ∀ H, Ev T (.call (.func (.func 85) [] []) [lawI m m g0 g1 s0 s1 f0 f1 q0 q1, .int .i64 v, .int .i64 w] H) (.call (rgI (cl m) (ch m)) H))
    (hm : ∀ m m', p0 ≤ m → m ≤ m' → m' ≤ p1 → cl m ≤ cl m' ∧ ch m ≤ ch m') :
    ∃ a b, Cutting p0 p1 (fun m => ch m < c) (fun m => d < cl m) a b ∧ ∀ (H : Heap),
      Ev T (.call (.func (.func 105) [] []) [lawI p0 p1 g0 g1 s0 s1 f0 f1 q0 q1, .int .i64 0, rdI v w c d] H) (.call (.tuple [rgI a b, .bool (decide (a ≤ b))]) H) := by
  have kf := rfield0_ok p0 p1 g0 g1 s0 s1 f0 f1 q0 q1
  have kp := fun m => rput0_ok p0 p1 g0 g1 s0 s1 f0 f1 q0 q1 m m
  have key := run_some T105 (args := [lawI p0 p1 g0 g1 s0 s1 f0 f1 q0 q1, .int .i64 0, rdI v w c d]) (P := fun x => ∃ a b, Cutting p0 p1 (fun m => ch m < c) (fun m => d < cl m) a b ∧ x = .tuple [rgI a b, .bool (decide (a ≤ b))])
    (nn_cons (lawI_no ..) (nn_cons (nn_int _ _) (nn_cons (rdI_no ..) nn_none))) (by
    repeat' ((conv => whnf); first | (refine CallP.pure kf ?_) | (first | refine condP.dec (fun h => ?_) (fun h => ?_) | refine condP.eq (fun h => ?_) (fun h => ?_) | refine condP.ne (fun h => ?_) (fun h => ?_)) | (refine .i64 (by omega) (by omega) ?_) | (refine onSome.intro (idx_fs rfl rfl (by omega) (by omega) (fun _ => rfl)) ?_) | (refine onSome.intro (load_fs rfl (by omega) (by omega) rfl) ?_) | (refine And.intro rfl ?_))
    refine loop_rule (X := Int × Int) (fun x => [(1, .int .i64 0), (3, .ptr 0 0 0), (5, .ptr 1 0 0), (6, .ptr 2 0 0), (8, .ptr 3 0 0), (9, .bool false), (10, .int .i64 x.1), (11, .int .i64 x.2)]) (fun x => RS (SL p0 p1 g0 g1 s0 s1 f0 f1 q0 q1) v w c d p0 p1)
      (fun x => (x.2 - x.1).toNat) (fun x => p0 ≤ x.1 ∧ x.1 ≤ x.2 ∧ x.2 ≤ p1 + 1 ∧ (∀ m, p0 ≤ m → m < x.1 → ch m < c) ∧ (∀ m, x.2 ≤ m → m ≤ p1 → ¬ ch m < c)) (p0, p1 + 1)
      ⟨Int.le_refl _, by dsimp only; omega, Int.le_refl _, fun m h h' => absurd h' (by dsimp only; omega), fun m h h' => absurd h' (by dsimp only at h; omega)⟩ ⟨rfl, rfl, rfl, rfl, rfl, rfl, rfl, rfl, trivial⟩ rfl (fun _ _ => rfl) (fun x hx => ?_)
    obtain ⟨i, j⟩ := x
    obtain ⟨h0, h1, h2, h3, h4⟩ := hx
    dsimp only at h0 h1 h2 h3 h4 ⊢
    conv => whnf
    refine condP.dec (fun h => ?_) (fun h => ?_)
    · have kd := down_ok (n := i + j) (d := 2) (by omega) (by omega) (by omega) (by omega)
      obtain ⟨m, hmid⟩ : ∃ m, m = (i + j) / 2 := ⟨_, rfl⟩
      rw [← hmid] at kd
      have kc := hcur m (by omega) (by omega)
      have ku := under_ok (c := c) (d := d) kc
      repeat' ((conv => whnf); first | (refine CallP.pure kd ?_) | (refine CallP.pure (Alone_ok _) ?_) | (refine CallP.pure (kp _) ?_) | (refine CallP.dec ku (fun hv => ?_) (fun hv => ?_)) | (first | refine condP.dec (fun h => ?_) (fun h => ?_) | refine condP.eq (fun h => ?_) (fun h => ?_) | refine condP.ne (fun h => ?_) (fun h => ?_)) | (refine .i64 (by omega) (by omega) ?_) | (refine onSome.intro (idx_fs rfl rfl (by omega) (by omega) (fun _ => rfl)) ?_) | (refine onSome.intro (load_fs rfl (by omega) (by omega) rfl) ?_) | (refine And.intro rfl ?_))
      · conv => whnf
        refine .more (m + 1, j) rfl ⟨by dsimp only; omega, by dsimp only; omega, h2, fun y y0 y1 => ?_, h4⟩ (by dsimp only; omega) ⟨rfl, rfl, rfl, rfl, rfl, rfl, rfl, rfl, trivial⟩ rfl ⟨.int _ _, .ptr _ _ _ (show (0 : Nat) < 4 by decide), .ptr _ _ _ (show (1 : Nat) < 4 by decide), .ptr _ _ _ (show (2 : Nat) < 4 by decide), .ptr _ _ _ (show (3 : Nat) < 4 by decide), .bool _, .int _ _, .int _ _, trivial⟩ (RS_chk ..)
        have := (hm y m y0 (by dsimp only at y1; omega) (by omega)).2
        omega
      · conv => whnf
        refine .more (i, m) rfl ⟨h0, by dsimp only; omega, by dsimp only; omega, h3, fun y y0 y1 => ?_⟩ (by dsimp only; omega) ⟨rfl, rfl, rfl, rfl, rfl, rfl, rfl, rfl, trivial⟩ rfl ⟨.int _ _, .ptr _ _ _ (show (0 : Nat) < 4 by decide), .ptr _ _ _ (show (1 : Nat) < 4 by decide), .ptr _ _ _ (show (2 : Nat) < 4 by decide), .ptr _ _ _ (show (3 : Nat) < 4 by decide), .bool _, .int _ _, .int _ _, trivial⟩ (RS_chk ..)
        have := (hm m y (by omega) (by dsimp only at y0; omega) y1).2
        omega
    obtain rfl : i = j := by omega
    conv => whnf
    refine .done (by simp) ?_
    repeat' ((conv => whnf); first | (first | refine condP.dec (fun h => ?_) (fun h => ?_) | refine condP.eq (fun h => ?_) (fun h => ?_) | refine condP.ne (fun h => ?_) (fun h => ?_)) | (refine .i64 (by omega) (by omega) ?_) | (refine onSome.intro (idx_fs rfl rfl (by omega) (by omega) (fun _ => rfl)) ?_) | (refine onSome.intro (load_fs rfl (by omega) (by omega) rfl) ?_) | (refine And.intro rfl ?_))
    refine loop_rule (X := Int × Int) (fun x => [(1, .int .i64 0), (3, .ptr 0 0 0), (5, .ptr 1 0 0), (6, .ptr 2 0 0), (8, .ptr 3 0 0), (9, .bool false), (10, .int .i64 x.1), (11, .int .i64 x.2), (14, .int .i64 i)]) (fun x => RS (SL p0 p1 g0 g1 s0 s1 f0 f1 q0 q1) v w c d p0 p1)
      (fun x => (x.2 - x.1).toNat) (fun x => p0 - 1 ≤ x.1 ∧ x.1 ≤ x.2 ∧ x.2 ≤ p1 ∧ (∀ m, p0 ≤ m → m ≤ x.1 → ¬ d < cl m) ∧ (∀ m, x.2 < m → m ≤ p1 → d < cl m)) (p0 - 1, p1)
      ⟨Int.le_refl _, by dsimp only; omega, Int.le_refl _, fun m h h' => absurd h' (by dsimp only; omega), fun m h h' => absurd h' (by dsimp only at h; omega)⟩ ⟨rfl, rfl, rfl, rfl, rfl, rfl, rfl, rfl, rfl, trivial⟩ rfl (fun _ _ => rfl) (fun x hx => ?_)
    obtain ⟨k, j⟩ := x
    obtain ⟨k0, k1, k2, k3, k4⟩ := hx
    dsimp only at k0 k1 k2 k3 k4 ⊢
    conv => whnf
    refine condP.dec (fun h => ?_) (fun h => ?_)
    · have kd := up_ok (n := k + j) (d := 2) (by omega) (by omega) (by omega) (by omega)
      have e1 := up_ge (k + j) (d := 2) (by omega)
      have e2 := up_lt (k + j) (d := 2) (by omega)
      obtain ⟨m, hmid⟩ : ∃ m, m = up (k + j) 2 := ⟨_, rfl⟩
      rw [← hmid] at kd e1 e2
      have kc := hcur m (by omega) (by omega)
      have ku := over_ok (c := c) (d := d) kc
      repeat' ((conv => whnf); first | (refine CallP.pure kd ?_) | (refine CallP.pure (Alone_ok _) ?_) | (refine CallP.pure (kp _) ?_) | (refine CallP.dec ku (fun hv => ?_) (fun hv => ?_)) | (first | refine condP.dec (fun h => ?_) (fun h => ?_) | refine condP.eq (fun h => ?_) (fun h => ?_) | refine condP.ne (fun h => ?_) (fun h => ?_)) | (refine .i64 (by omega) (by omega) ?_) | (refine onSome.intro (idx_fs rfl rfl (by omega) (by omega) (fun _ => rfl)) ?_) | (refine onSome.intro (load_fs rfl (by omega) (by omega) rfl) ?_) | (refine And.intro rfl ?_))
      · conv => whnf
        refine .more (k, m - 1) rfl ⟨k0, by dsimp only; omega, by dsimp only; omega, k3, fun y y0 y1 => ?_⟩ (by dsimp only; omega) ⟨rfl, rfl, rfl, rfl, rfl, rfl, rfl, rfl, rfl, trivial⟩ rfl ⟨.int _ _, .ptr _ _ _ (show (0 : Nat) < 4 by decide), .ptr _ _ _ (show (1 : Nat) < 4 by decide), .ptr _ _ _ (show (2 : Nat) < 4 by decide), .ptr _ _ _ (show (3 : Nat) < 4 by decide), .bool _, .int _ _, .int _ _, .int _ _, trivial⟩ (RS_chk ..)
        have := (hm m y (by omega) (by dsimp only at y0; omega) y1).1
        omega
      · conv => whnf
        refine .more (m, j) rfl ⟨by dsimp only; omega, by dsimp only; omega, k2, fun y y0 y1 => ?_, k4⟩ (by dsimp only; omega) ⟨rfl, rfl, rfl, rfl, rfl, rfl, rfl, rfl, rfl, trivial⟩ rfl ⟨.int _ _, .ptr _ _ _ (show (0 : Nat) < 4 by decide), .ptr _ _ _ (show (1 : Nat) < 4 by decide), .ptr _ _ _ (show (2 : Nat) < 4 by decide), .ptr _ _ _ (show (3 : Nat) < 4 by decide), .bool _, .int _ _, .int _ _, .int _ _, trivial⟩ (RS_chk ..)
        have := (hm y m y0 (by dsimp only at y1; omega) (by omega)).1
        omega
    obtain rfl : k = j := by omega
    conv => whnf
    refine .done (by simp) ?_
    have hC : Cutting p0 p1 (fun m => ch m < c) (fun m => d < cl m) i k := ⟨h0, h2, h3, h4, k0, k2, k4, k3⟩
    repeat' ((conv => whnf); first | (first | refine condP.dec (fun h => ?_) (fun h => ?_) | refine condP.eq (fun h => ?_) (fun h => ?_) | refine condP.ne (fun h => ?_) (fun h => ?_)) | (refine .i64 (by omega) (by omega) ?_) | (refine onSome.intro (idx_fs rfl rfl (by omega) (by omega) (fun _ => rfl)) ?_) | (refine onSome.intro (load_fs rfl (by omega) (by omega) rfl) ?_) | (refine And.intro rfl ?_))
    · rename_i hle
      conv => whnf
      exact .intro (.tuple [rgI i k, .bool true]) (.tuple [rgI i k, .bool true]) ⟨_, _, hC, by rw [decide_eq_true (by omega)]⟩ (nn_tuple (nn_cons (rgI_no _ _) (nn_cons (.bool _) nn_none))) (.inl rfl) rfl (.refl _)
    · rename_i hle
      conv => whnf
      exact .intro (.tuple [rgI i k, .bool false]) (.tuple [rgI i k, .bool false]) ⟨_, _, hC, by rw [decide_eq_false (by omega)]⟩ (nn_tuple (nn_cons (rgI_no _ _) (nn_cons (.bool _) nn_none))) (.inl rfl) rfl (.refl _))
  obtain ⟨x, ⟨a, b, hC, rfl⟩, _, h⟩ := key
  exact ⟨a, b, hC, h⟩
theorem rfield1_ok (p0 p1 g0 g1 s0 s1 f0 f1 q0 q1 : Int) (H : Heap) : Ev T (.call (.func (.func 134) [] []) [lawI p0 p1 g0 g1 s0 s1 f0 f1 q0 q1, .int .i64 1] H) (.call (rgI g0 g1) H) := by
  refine run_pure T134 (rgI_no _ _) (nn_cons (lawI_no ..) (nn_cons (nn_int _ _) nn_none)) ?_ H
  conv => whnf
  exact .intro (rgI g0 g1) (.inl rfl) rfl (.refl _)
theorem rput1_ok (p0 p1 g0 g1 s0 s1 f0 f1 q0 q1 a b : Int) (H : Heap) : Ev T (.call (.func (.func 106) [] []) [lawI p0 p1 g0 g1 s0 s1 f0 f1 q0 q1, .int .i64 1, rgI a b] H) (.call (lawI p0 p1 a b s0 s1 f0 f1 q0 q1) H) := by
  refine run_pure T106 (lawI_no ..) (nn_cons (lawI_no ..) (nn_cons (nn_int _ _) (nn_cons (rgI_no _ _) nn_none))) ?_ H
  conv => whnf
  exact .intro (lawI p0 p1 a b s0 s1 f0 f1 q0 q1) (.inl rfl) rfl (.refl _)
theorem rnarrowed1_ok {p0 p1 g0 g1 s0 s1 f0 f1 q0 q1 v w c d : Int} {cl ch : Int → Int} (b0 : -1000000 ≤ g0) (b1 : g0 ≤ g1) (b2 : g1 ≤ 1000000)
    (hcur : ∀ m, g0 ≤ m → m ≤ g1 → ∀ H, Ev T (.call (.func (.func 85) [] []) [lawI p0 p1 m m s0 s1 f0 f1 q0 q1, .int .i64 v, .int .i64 w] H) (.call (rgI (cl m) (ch m)) H))
    (hm : ∀ m m', g0 ≤ m → m ≤ m' → m' ≤ g1 → cl m' ≤ cl m ∧ ch m' ≤ ch m) :
    ∃ a b, Cutting g0 g1 (fun m => d < cl m) (fun m => ch m < c) a b ∧ ∀ (H : Heap),
      Ev T (.call (.func (.func 105) [] []) [lawI p0 p1 g0 g1 s0 s1 f0 f1 q0 q1, .int .i64 1, rdI v w c d] H) (.call (.tuple [rgI a b, .bool (decide (a ≤ b))]) H) := by
  have kf := rfield1_ok p0 p1 g0 g1 s0 s1 f0 f1 q0 q1
  have kp := fun m => rput1_ok p0 p1 g0 g1 s0 s1 f0 f1 q0 q1 m m
  have key := run_some T105 (args := [lawI p0 p1 g0 g1 s0 s1 f0 f1 q0 q1, .int .i64 1, rdI v w c d]) (P := fun x => ∃ a b, Cutting g0 g1 (fun m => d < cl m) (fun m => ch m < c) a b ∧ x = .tuple [rgI a b, .bool (decide (a ≤ b))])
    (nn_cons (lawI_no ..) (nn_cons (nn_int _ _) (nn_cons (rdI_no ..) nn_none))) (by
    repeat' ((conv => whnf); first | (refine CallP.pure kf ?_) | (first | refine condP.dec (fun h => ?_) (fun h => ?_) | refine condP.eq (fun h => ?_) (fun h => ?_) | refine condP.ne (fun h => ?_) (fun h => ?_)) | (refine .i64 (by omega) (by omega) ?_) | (refine onSome.intro (idx_fs rfl rfl (by omega) (by omega) (fun _ => rfl)) ?_) | (refine onSome.intro (load_fs rfl (by omega) (by omega) rfl) ?_) | (refine And.intro rfl ?_))
    refine loop_rule (X := Int × Int) (fun x => [(1, .int .i64 1), (3, .ptr 0 0 0), (5, .ptr 1 0 0), (6, .ptr 2 0 0), (8, .ptr 3 0 0), (9, .bool true), (10, .int .i64 x.1), (11, .int .i64 x.2)]) (fun x => RS (SL p0 p1 g0 g1 s0 s1 f0 f1 q0 q1) v w c d g0 g1)
      (fun x => (x.2 - x.1).toNat) (fun x => g0 ≤ x.1 ∧ x.1 ≤ x.2 ∧ x.2 ≤ g1 + 1 ∧ (∀ m, g0 ≤ m → m < x.1 → d < cl m) ∧ (∀ m, x.2 ≤ m → m ≤ g1 → ¬ d < cl m)) (g0, g1 + 1)
      ⟨Int.le_refl _, by dsimp only; omega, Int.le_refl _, fun m h h' => absurd h' (by dsimp only; omega), fun m h h' => absurd h' (by dsimp only at h; omega)⟩ ⟨rfl, rfl, rfl, rfl, rfl, rfl, rfl, rfl, trivial⟩ rfl (fun _ _ => rfl) (fun x hx => ?_)
    obtain ⟨i, j⟩ := x
    obtain ⟨h0, h1, h2, h3, h4⟩ := hx
    dsimp only at h0 h1 h2 h3 h4 ⊢
    conv => whnf
    refine condP.dec (fun h => ?_) (fun h => ?_)
    · have kd := down_ok (n := i + j) (d := 2) (by omega) (by omega) (by omega) (by omega)
      obtain ⟨m, hmid⟩ : ∃ m, m = (i + j) / 2 := ⟨_, rfl⟩
      rw [← hmid] at kd
      have kc := hcur m (by omega) (by omega)
      have ku := over_ok (c := c) (d := d) kc
      repeat' ((conv => whnf); first | (refine CallP.pure kd ?_) | (refine CallP.pure (Alone_ok _) ?_) | (refine CallP.pure (kp _) ?_) | (refine CallP.dec ku (fun hv => ?_) (fun hv => ?_)) | (first | refine condP.dec (fun h => ?_) (fun h => ?_) | refine condP.eq (fun h => ?_) (fun h => ?_) | refine condP.ne (fun h => ?_) (fun h => ?_)) | (refine .i64 (by omega) (by omega) ?_) | (refine onSome.intro (idx_fs rfl rfl (by omega) (by omega) (fun _ => rfl)) ?_) | (refine onSome.intro (load_fs rfl (by omega) (by omega) rfl) ?_) | (refine And.intro rfl ?_))
      · conv => whnf
        refine .more (m + 1, j) rfl ⟨by dsimp only; omega, by dsimp only; omega, h2, fun y y0 y1 => ?_, h4⟩ (by dsimp only; omega) ⟨rfl, rfl, rfl, rfl, rfl, rfl, rfl, rfl, trivial⟩ rfl ⟨.int _ _, .ptr _ _ _ (show (0 : Nat) < 4 by decide), .ptr _ _ _ (show (1 : Nat) < 4 by decide), .ptr _ _ _ (show (2 : Nat) < 4 by decide), .ptr _ _ _ (show (3 : Nat) < 4 by decide), .bool _, .int _ _, .int _ _, trivial⟩ (RS_chk ..)
        have := (hm y m y0 (by dsimp only at y1; omega) (by omega)).1
        omega
      · conv => whnf
        refine .more (i, m) rfl ⟨h0, by dsimp only; omega, by dsimp only; omega, h3, fun y y0 y1 => ?_⟩ (by dsimp only; omega) ⟨rfl, rfl, rfl, rfl, rfl, rfl, rfl, rfl, trivial⟩ rfl ⟨.int _ _, .ptr _ _ _ (show (0 : Nat) < 4 by decide), .ptr _ _ _ (show (1 : Nat) < 4 by decide), .ptr _ _ _ (show (2 : Nat) < 4 by decide), .ptr _ _ _ (show (3 : Nat) < 4 by decide), .bool _, .int _ _, .int _ _, trivial⟩ (RS_chk ..)
        have := (hm m y (by omega) (by dsimp only at y0; omega) y1).1
        omega
    obtain rfl : i = j := by omega
    conv => whnf
    refine .done (by simp) ?_
    repeat' ((conv => whnf); first | (first | refine condP.dec (fun h => ?_) (fun h => ?_) | refine condP.eq (fun h => ?_) (fun h => ?_) | refine condP.ne (fun h => ?_) (fun h => ?_)) | (refine .i64 (by omega) (by omega) ?_) | (refine onSome.intro (idx_fs rfl rfl (by omega) (by omega) (fun _ => rfl)) ?_) | (refine onSome.intro (load_fs rfl (by omega) (by omega) rfl) ?_) | (refine And.intro rfl ?_))
    refine loop_rule (X := Int × Int) (fun x => [(1, .int .i64 1), (3, .ptr 0 0 0), (5, .ptr 1 0 0), (6, .ptr 2 0 0), (8, .ptr 3 0 0), (9, .bool true), (10, .int .i64 x.1), (11, .int .i64 x.2), (14, .int .i64 i)]) (fun x => RS (SL p0 p1 g0 g1 s0 s1 f0 f1 q0 q1) v w c d g0 g1)
      (fun x => (x.2 - x.1).toNat) (fun x => g0 - 1 ≤ x.1 ∧ x.1 ≤ x.2 ∧ x.2 ≤ g1 ∧ (∀ m, g0 ≤ m → m ≤ x.1 → ¬ ch m < c) ∧ (∀ m, x.2 < m → m ≤ g1 → ch m < c)) (g0 - 1, g1)
      ⟨Int.le_refl _, by dsimp only; omega, Int.le_refl _, fun m h h' => absurd h' (by dsimp only; omega), fun m h h' => absurd h' (by dsimp only at h; omega)⟩ ⟨rfl, rfl, rfl, rfl, rfl, rfl, rfl, rfl, rfl, trivial⟩ rfl (fun _ _ => rfl) (fun x hx => ?_)
    obtain ⟨k, j⟩ := x
    obtain ⟨k0, k1, k2, k3, k4⟩ := hx
    dsimp only at k0 k1 k2 k3 k4 ⊢
    conv => whnf
    refine condP.dec (fun h => ?_) (fun h => ?_)
    · have kd := up_ok (n := k + j) (d := 2) (by omega) (by omega) (by omega) (by omega)
      have e1 := up_ge (k + j) (d := 2) (by omega)
      have e2 := up_lt (k + j) (d := 2) (by omega)
      obtain ⟨m, hmid⟩ : ∃ m, m = up (k + j) 2 := ⟨_, rfl⟩
      rw [← hmid] at kd e1 e2
      have kc := hcur m (by omega) (by omega)
      have ku := under_ok (c := c) (d := d) kc
      repeat' ((conv => whnf); first | (refine CallP.pure kd ?_) | (refine CallP.pure (Alone_ok _) ?_) | (refine CallP.pure (kp _) ?_) | (refine CallP.dec ku (fun hv => ?_) (fun hv => ?_)) | (first | refine condP.dec (fun h => ?_) (fun h => ?_) | refine condP.eq (fun h => ?_) (fun h => ?_) | refine condP.ne (fun h => ?_) (fun h => ?_)) | (refine .i64 (by omega) (by omega) ?_) | (refine onSome.intro (idx_fs rfl rfl (by omega) (by omega) (fun _ => rfl)) ?_) | (refine onSome.intro (load_fs rfl (by omega) (by omega) rfl) ?_) | (refine And.intro rfl ?_))
      · conv => whnf
        refine .more (k, m - 1) rfl ⟨k0, by dsimp only; omega, by dsimp only; omega, k3, fun y y0 y1 => ?_⟩ (by dsimp only; omega) ⟨rfl, rfl, rfl, rfl, rfl, rfl, rfl, rfl, rfl, trivial⟩ rfl ⟨.int _ _, .ptr _ _ _ (show (0 : Nat) < 4 by decide), .ptr _ _ _ (show (1 : Nat) < 4 by decide), .ptr _ _ _ (show (2 : Nat) < 4 by decide), .ptr _ _ _ (show (3 : Nat) < 4 by decide), .bool _, .int _ _, .int _ _, .int _ _, trivial⟩ (RS_chk ..)
        have := (hm m y (by omega) (by dsimp only at y0; omega) y1).2
        omega
      · conv => whnf
        refine .more (m, j) rfl ⟨by dsimp only; omega, by dsimp only; omega, k2, fun y y0 y1 => ?_, k4⟩ (by dsimp only; omega) ⟨rfl, rfl, rfl, rfl, rfl, rfl, rfl, rfl, rfl, trivial⟩ rfl ⟨.int _ _, .ptr _ _ _ (show (0 : Nat) < 4 by decide), .ptr _ _ _ (show (1 : Nat) < 4 by decide), .ptr _ _ _ (show (2 : Nat) < 4 by decide), .ptr _ _ _ (show (3 : Nat) < 4 by decide), .bool _, .int _ _, .int _ _, .int _ _, trivial⟩ (RS_chk ..)
        have := (hm y m y0 (by dsimp only at y1; omega) (by omega)).2
        omega
    obtain rfl : k = j := by omega
    conv => whnf
    refine .done (by simp) ?_
    have hC : Cutting g0 g1 (fun m => d < cl m) (fun m => ch m < c) i k := ⟨h0, h2, h3, h4, k0, k2, k4, k3⟩
    repeat' ((conv => whnf); first | (first | refine condP.dec (fun h => ?_) (fun h => ?_) | refine condP.eq (fun h => ?_) (fun h => ?_) | refine condP.ne (fun h => ?_) (fun h => ?_)) | (refine .i64 (by omega) (by omega) ?_) | (refine onSome.intro (idx_fs rfl rfl (by omega) (by omega) (fun _ => rfl)) ?_) | (refine onSome.intro (load_fs rfl (by omega) (by omega) rfl) ?_) | (refine And.intro rfl ?_))
    · rename_i hle
      conv => whnf
      exact .intro (.tuple [rgI i k, .bool true]) (.tuple [rgI i k, .bool true]) ⟨_, _, hC, by rw [decide_eq_true (by omega)]⟩ (nn_tuple (nn_cons (rgI_no _ _) (nn_cons (.bool _) nn_none))) (.inl rfl) rfl (.refl _)
    · rename_i hle
      conv => whnf
      exact .intro (.tuple [rgI i k, .bool false]) (.tuple [rgI i k, .bool false]) ⟨_, _, hC, by rw [decide_eq_false (by omega)]⟩ (nn_tuple (nn_cons (rgI_no _ _) (nn_cons (.bool _) nn_none))) (.inl rfl) rfl (.refl _))
  obtain ⟨x, ⟨a, b, hC, rfl⟩, _, h⟩ := key
  exact ⟨a, b, hC, h⟩
theorem rfield2_ok (p0 p1 g0 g1 s0 s1 f0 f1 q0 q1 : Int) (H : Heap) : Ev T (.call (.func (.func 134) [] []) [lawI p0 p1 g0 g1 s0 s1 f0 f1 q0 q1, .int .i64 2] H) (.call (rgI s0 s1) H) := by
  refine run_pure T134 (rgI_no _ _) (nn_cons (lawI_no ..) (nn_cons (nn_int _ _) nn_none)) ?_ H
  conv => whnf
  exact .intro (rgI s0 s1) (.inl rfl) rfl (.refl _)
theorem rput2_ok (p0 p1 g0 g1 s0 s1 f0 f1 q0 q1 a b : Int) (H : Heap) : Ev T (.call (.func (.func 106) [] []) [lawI p0 p1 g0 g1 s0 s1 f0 f1 q0 q1, .int .i64 2, rgI a b] H) (.call (lawI p0 p1 g0 g1 a b f0 f1 q0 q1) H) := by
  refine run_pure T106 (lawI_no ..) (nn_cons (lawI_no ..) (nn_cons (nn_int _ _) (nn_cons (rgI_no _ _) nn_none))) ?_ H
  conv => whnf
  exact .intro (lawI p0 p1 g0 g1 a b f0 f1 q0 q1) (.inl rfl) rfl (.refl _)
theorem rnarrowed2_ok {p0 p1 g0 g1 s0 s1 f0 f1 q0 q1 v w c d : Int} {cl ch : Int → Int} (b0 : -1000000 ≤ s0) (b1 : s0 ≤ s1) (b2 : s1 ≤ 1000000)
    (hcur : ∀ m, s0 ≤ m → m ≤ s1 → ∀ H, Ev T (.call (.func (.func 85) [] []) [lawI p0 p1 g0 g1 m m f0 f1 q0 q1, .int .i64 v, .int .i64 w] H) (.call (rgI (cl m) (ch m)) H))
    (hm : ∀ m m', s0 ≤ m → m ≤ m' → m' ≤ s1 → cl m ≤ cl m' ∧ ch m ≤ ch m') :
    ∃ a b, Cutting s0 s1 (fun m => ch m < c) (fun m => d < cl m) a b ∧ ∀ (H : Heap),
      Ev T (.call (.func (.func 105) [] []) [lawI p0 p1 g0 g1 s0 s1 f0 f1 q0 q1, .int .i64 2, rdI v w c d] H) (.call (.tuple [rgI a b, .bool (decide (a ≤ b))]) H) := by
  have kf := rfield2_ok p0 p1 g0 g1 s0 s1 f0 f1 q0 q1
  have kp := fun m => rput2_ok p0 p1 g0 g1 s0 s1 f0 f1 q0 q1 m m
  have key := run_some T105 (args := [lawI p0 p1 g0 g1 s0 s1 f0 f1 q0 q1, .int .i64 2, rdI v w c d]) (P := fun x => ∃ a b, Cutting s0 s1 (fun m => ch m < c) (fun m => d < cl m) a b ∧ x = .tuple [rgI a b, .bool (decide (a ≤ b))])
    (nn_cons (lawI_no ..) (nn_cons (nn_int _ _) (nn_cons (rdI_no ..) nn_none))) (by
    repeat' ((conv => whnf); first | (refine CallP.pure kf ?_) | (first | refine condP.dec (fun h => ?_) (fun h => ?_) | refine condP.eq (fun h => ?_) (fun h => ?_) | refine condP.ne (fun h => ?_) (fun h => ?_)) | (refine .i64 (by omega) (by omega) ?_) | (refine onSome.intro (idx_fs rfl rfl (by omega) (by omega) (fun _ => rfl)) ?_) | (refine onSome.intro (load_fs rfl (by omega) (by omega) rfl) ?_) | (refine And.intro rfl ?_))
    refine loop_rule (X := Int × Int) (fun x => [(1, .int .i64 2), (3, .ptr 0 0 0), (5, .ptr 1 0 0), (6, .ptr 2 0 0), (8, .ptr 3 0 0), (9, .bool false), (10, .int .i64 x.1), (11, .int .i64 x.2)]) (fun x => RS (SL p0 p1 g0 g1 s0 s1 f0 f1 q0 q1) v w c d s0 s1)
      (fun x => (x.2 - x.1).toNat) (fun x => s0 ≤ x.1 ∧ x.1 ≤ x.2 ∧ x.2 ≤ s1 + 1 ∧ (∀ m, s0 ≤ m → m < x.1 → ch m < c) ∧ (∀ m, x.2 ≤ m → m ≤ s1 → ¬ ch m < c)) (s0, s1 + 1)
      ⟨Int.le_refl _, by dsimp only; omega, Int.le_refl _, fun m h h' => absurd h' (by dsimp only; omega), fun m h h' => absurd h' (by dsimp only at h; omega)⟩ ⟨rfl, rfl, rfl, rfl, rfl, rfl, rfl, rfl, trivial⟩ rfl (fun _ _ => rfl) (fun x hx => ?_)
    obtain ⟨i, j⟩ := x
    obtain ⟨h0, h1, h2, h3, h4⟩ := hx
    dsimp only at h0 h1 h2 h3 h4 ⊢
    conv => whnf
    refine condP.dec (fun h => ?_) (fun h => ?_)
    · have kd := down_ok (n := i + j) (d := 2) (by omega) (by omega) (by omega) (by omega)
      obtain ⟨m, hmid⟩ : ∃ m, m = (i + j) / 2 := ⟨_, rfl⟩
      rw [← hmid] at kd
      have kc := hcur m (by omega) (by omega)
      have ku := under_ok (c := c) (d := d) kc
      repeat' ((conv => whnf); first | (refine CallP.pure kd ?_) | (refine CallP.pure (Alone_ok _) ?_) | (refine CallP.pure (kp _) ?_) | (refine CallP.dec ku (fun hv => ?_) (fun hv => ?_)) | (first | refine condP.dec (fun h => ?_) (fun h => ?_) | refine condP.eq (fun h => ?_) (fun h => ?_) | refine condP.ne (fun h => ?_) (fun h => ?_)) | (refine .i64 (by omega) (by omega) ?_) | (refine onSome.intro (idx_fs rfl rfl (by omega) (by omega) (fun _ => rfl)) ?_) | (refine onSome.intro (load_fs rfl (by omega) (by omega) rfl) ?_) | (refine And.intro rfl ?_))
      · conv => whnf
        refine .more (m + 1, j) rfl ⟨by dsimp only; omega, by dsimp only; omega, h2, fun y y0 y1 => ?_, h4⟩ (by dsimp only; omega) ⟨rfl, rfl, rfl, rfl, rfl, rfl, rfl, rfl, trivial⟩ rfl ⟨.int _ _, .ptr _ _ _ (show (0 : Nat) < 4 by decide), .ptr _ _ _ (show (1 : Nat) < 4 by decide), .ptr _ _ _ (show (2 : Nat) < 4 by decide), .ptr _ _ _ (show (3 : Nat) < 4 by decide), .bool _, .int _ _, .int _ _, trivial⟩ (RS_chk ..)
        have := (hm y m y0 (by dsimp only at y1; omega) (by omega)).2
        omega
      · conv => whnf
        refine .more (i, m) rfl ⟨h0, by dsimp only; omega, by dsimp only; omega, h3, fun y y0 y1 => ?_⟩ (by dsimp only; omega) ⟨rfl, rfl, rfl, rfl, rfl, rfl, rfl, rfl, trivial⟩ rfl ⟨.int _ _, .ptr _ _ _ (show (0 : Nat) < 4 by decide), .ptr _ _ _ (show (1 : Nat) < 4 by decide), .ptr _ _ _ (show (2 : Nat) < 4 by decide), .ptr _ _ _ (show (3 : Nat) < 4 by decide), .bool _, .int _ _, .int _ _, trivial⟩ (RS_chk ..)
        have := (hm m y (by omega) (by dsimp only at y0; omega) y1).2
        omega
    obtain rfl : i = j := by omega
    conv => whnf
    refine .done (by simp) ?_
    repeat' ((conv => whnf); first | (first | refine condP.dec (fun h => ?_) (fun h => ?_) | refine condP.eq (fun h => ?_) (fun h => ?_) | refine condP.ne (fun h => ?_) (fun h => ?_)) | (refine .i64 (by omega) (by omega) ?_) | (refine onSome.intro (idx_fs rfl rfl (by omega) (by omega) (fun _ => rfl)) ?_) | (refine onSome.intro (load_fs rfl (by omega) (by omega) rfl) ?_) | (refine And.intro rfl ?_))
    refine loop_rule (X := Int × Int) (fun x => [(1, .int .i64 2), (3, .ptr 0 0 0), (5, .ptr 1 0 0), (6, .ptr 2 0 0), (8, .ptr 3 0 0), (9, .bool false), (10, .int .i64 x.1), (11, .int .i64 x.2), (14, .int .i64 i)]) (fun x => RS (SL p0 p1 g0 g1 s0 s1 f0 f1 q0 q1) v w c d s0 s1)
      (fun x => (x.2 - x.1).toNat) (fun x => s0 - 1 ≤ x.1 ∧ x.1 ≤ x.2 ∧ x.2 ≤ s1 ∧ (∀ m, s0 ≤ m → m ≤ x.1 → ¬ d < cl m) ∧ (∀ m, x.2 < m → m ≤ s1 → d < cl m)) (s0 - 1, s1)
      ⟨Int.le_refl _, by dsimp only; omega, Int.le_refl _, fun m h h' => absurd h' (by dsimp only; omega), fun m h h' => absurd h' (by dsimp only at h; omega)⟩ ⟨rfl, rfl, rfl, rfl, rfl, rfl, rfl, rfl, rfl, trivial⟩ rfl (fun _ _ => rfl) (fun x hx => ?_)
    obtain ⟨k, j⟩ := x
    obtain ⟨k0, k1, k2, k3, k4⟩ := hx
    dsimp only at k0 k1 k2 k3 k4 ⊢
    conv => whnf
    refine condP.dec (fun h => ?_) (fun h => ?_)
    · have kd := up_ok (n := k + j) (d := 2) (by omega) (by omega) (by omega) (by omega)
      have e1 := up_ge (k + j) (d := 2) (by omega)
      have e2 := up_lt (k + j) (d := 2) (by omega)
      obtain ⟨m, hmid⟩ : ∃ m, m = up (k + j) 2 := ⟨_, rfl⟩
      rw [← hmid] at kd e1 e2
      have kc := hcur m (by omega) (by omega)
      have ku := over_ok (c := c) (d := d) kc
      repeat' ((conv => whnf); first | (refine CallP.pure kd ?_) | (refine CallP.pure (Alone_ok _) ?_) | (refine CallP.pure (kp _) ?_) | (refine CallP.dec ku (fun hv => ?_) (fun hv => ?_)) | (first | refine condP.dec (fun h => ?_) (fun h => ?_) | refine condP.eq (fun h => ?_) (fun h => ?_) | refine condP.ne (fun h => ?_) (fun h => ?_)) | (refine .i64 (by omega) (by omega) ?_) | (refine onSome.intro (idx_fs rfl rfl (by omega) (by omega) (fun _ => rfl)) ?_) | (refine onSome.intro (load_fs rfl (by omega) (by omega) rfl) ?_) | (refine And.intro rfl ?_))
      · conv => whnf
        refine .more (k, m - 1) rfl ⟨k0, by dsimp only; omega, by dsimp only; omega, k3, fun y y0 y1 => ?_⟩ (by dsimp only; omega) ⟨rfl, rfl, rfl, rfl, rfl, rfl, rfl, rfl, rfl, trivial⟩ rfl ⟨.int _ _, .ptr _ _ _ (show (0 : Nat) < 4 by decide), .ptr _ _ _ (show (1 : Nat) < 4 by decide), .ptr _ _ _ (show (2 : Nat) < 4 by decide), .ptr _ _ _ (show (3 : Nat) < 4 by decide), .bool _, .int _ _, .int _ _, .int _ _, trivial⟩ (RS_chk ..)
        have := (hm m y (by omega) (by dsimp only at y0; omega) y1).1
        omega
      · conv => whnf
        refine .more (m, j) rfl ⟨by dsimp only; omega, by dsimp only; omega, k2, fun y y0 y1 => ?_, k4⟩ (by dsimp only; omega) ⟨rfl, rfl, rfl, rfl, rfl, rfl, rfl, rfl, rfl, trivial⟩ rfl ⟨.int _ _, .ptr _ _ _ (show (0 : Nat) < 4 by decide), .ptr _ _ _ (show (1 : Nat) < 4 by decide), .ptr _ _ _ (show (2 : Nat) < 4 by decide), .ptr _ _ _ (show (3 : Nat) < 4 by decide), .bool _, .int _ _, .int _ _, .int _ _, trivial⟩ (RS_chk ..)
        have := (hm y m y0 (by dsimp only at y1; omega) (by omega)).1
        omega
    obtain rfl : k = j := by omega
    conv => whnf
    refine .done (by simp) ?_
    have hC : Cutting s0 s1 (fun m => ch m < c) (fun m => d < cl m) i k := ⟨h0, h2, h3, h4, k0, k2, k4, k3⟩
    repeat' ((conv => whnf); first | (first | refine condP.dec (fun h => ?_) (fun h => ?_) | refine condP.eq (fun h => ?_) (fun h => ?_) | refine condP.ne (fun h => ?_) (fun h => ?_)) | (refine .i64 (by omega) (by omega) ?_) | (refine onSome.intro (idx_fs rfl rfl (by omega) (by omega) (fun _ => rfl)) ?_) | (refine onSome.intro (load_fs rfl (by omega) (by omega) rfl) ?_) | (refine And.intro rfl ?_))
    · rename_i hle
      conv => whnf
      exact .intro (.tuple [rgI i k, .bool true]) (.tuple [rgI i k, .bool true]) ⟨_, _, hC, by rw [decide_eq_true (by omega)]⟩ (nn_tuple (nn_cons (rgI_no _ _) (nn_cons (.bool _) nn_none))) (.inl rfl) rfl (.refl _)
    · rename_i hle
      conv => whnf
      exact .intro (.tuple [rgI i k, .bool false]) (.tuple [rgI i k, .bool false]) ⟨_, _, hC, by rw [decide_eq_false (by omega)]⟩ (nn_tuple (nn_cons (rgI_no _ _) (nn_cons (.bool _) nn_none))) (.inl rfl) rfl (.refl _))
  obtain ⟨x, ⟨a, b, hC, rfl⟩, _, h⟩ := key
  exact ⟨a, b, hC, h⟩
theorem rfield3_ok (p0 p1 g0 g1 s0 s1 f0 f1 q0 q1 : Int) (H : Heap) : Ev T (.call (.func (.func 134) [] []) [lawI p0 p1 g0 g1 s0 s1 f0 f1 q0 q1, .int .i64 3] H) (.call (rgI f0 f1) H) := by
  refine run_pure T134 (rgI_no _ _) (nn_cons (lawI_no ..) (nn_cons (nn_int _ _) nn_none)) ?_ H
  conv => whnf
  exact .intro (rgI f0 f1) (.inl rfl) rfl (.refl _)
theorem rput3_ok (p0 p1 g0 g1 s0 s1 f0 f1 q0 q1 a b : Int) (H : Heap) : Ev T (.call (.func (.func 106) [] []) [lawI p0 p1 g0 g1 s0 s1 f0 f1 q0 q1, .int .i64 3, rgI a b] H) (.call (lawI p0 p1 g0 g1 s0 s1 a b q0 q1) H) := by
  refine run_pure T106 (lawI_no ..) (nn_cons (lawI_no ..) (nn_cons (nn_int _ _) (nn_cons (rgI_no _ _) nn_none))) ?_ H
  conv => whnf
  exact .intro (lawI p0 p1 g0 g1 s0 s1 a b q0 q1) (.inl rfl) rfl (.refl _)
theorem rnarrowed3_ok {p0 p1 g0 g1 s0 s1 f0 f1 q0 q1 v w c d : Int} {cl ch : Int → Int} (b0 : -1000000 ≤ f0) (b1 : f0 ≤ f1) (b2 : f1 ≤ 1000000)
    (hcur : ∀ m, f0 ≤ m → m ≤ f1 → ∀ H, Ev T (.call (.func (.func 85) [] []) [lawI p0 p1 g0 g1 s0 s1 m m q0 q1, .int .i64 v, .int .i64 w] H) (.call (rgI (cl m) (ch m)) H))
    (hm : ∀ m m', f0 ≤ m → m ≤ m' → m' ≤ f1 → cl m ≤ cl m' ∧ ch m ≤ ch m') :
    ∃ a b, Cutting f0 f1 (fun m => ch m < c) (fun m => d < cl m) a b ∧ ∀ (H : Heap),
      Ev T (.call (.func (.func 105) [] []) [lawI p0 p1 g0 g1 s0 s1 f0 f1 q0 q1, .int .i64 3, rdI v w c d] H) (.call (.tuple [rgI a b, .bool (decide (a ≤ b))]) H) := by
  have kf := rfield3_ok p0 p1 g0 g1 s0 s1 f0 f1 q0 q1
  have kp := fun m => rput3_ok p0 p1 g0 g1 s0 s1 f0 f1 q0 q1 m m
  have key := run_some T105 (args := [lawI p0 p1 g0 g1 s0 s1 f0 f1 q0 q1, .int .i64 3, rdI v w c d]) (P := fun x => ∃ a b, Cutting f0 f1 (fun m => ch m < c) (fun m => d < cl m) a b ∧ x = .tuple [rgI a b, .bool (decide (a ≤ b))])
    (nn_cons (lawI_no ..) (nn_cons (nn_int _ _) (nn_cons (rdI_no ..) nn_none))) (by
    repeat' ((conv => whnf); first | (refine CallP.pure kf ?_) | (first | refine condP.dec (fun h => ?_) (fun h => ?_) | refine condP.eq (fun h => ?_) (fun h => ?_) | refine condP.ne (fun h => ?_) (fun h => ?_)) | (refine .i64 (by omega) (by omega) ?_) | (refine onSome.intro (idx_fs rfl rfl (by omega) (by omega) (fun _ => rfl)) ?_) | (refine onSome.intro (load_fs rfl (by omega) (by omega) rfl) ?_) | (refine And.intro rfl ?_))
    refine loop_rule (X := Int × Int) (fun x => [(1, .int .i64 3), (3, .ptr 0 0 0), (5, .ptr 1 0 0), (6, .ptr 2 0 0), (8, .ptr 3 0 0), (9, .bool false), (10, .int .i64 x.1), (11, .int .i64 x.2)]) (fun x => RS (SL p0 p1 g0 g1 s0 s1 f0 f1 q0 q1) v w c d f0 f1)
      (fun x => (x.2 - x.1).toNat) (fun x => f0 ≤ x.1 ∧ x.1 ≤ x.2 ∧ x.2 ≤ f1 + 1 ∧ (∀ m, f0 ≤ m → m < x.1 → ch m < c) ∧ (∀ m, x.2 ≤ m → m ≤ f1 → ¬ ch m < c)) (f0, f1 + 1)
      ⟨Int.le_refl _, by dsimp only; omega, Int.le_refl _, fun m h h' => absurd h' (by dsimp only; omega), fun m h h' => absurd h' (by dsimp only at h; omega)⟩ ⟨rfl, rfl, rfl, rfl, rfl, rfl, rfl, rfl, trivial⟩ rfl (fun _ _ => rfl) (fun x hx => ?_)
    obtain ⟨i, j⟩ := x
    obtain ⟨h0, h1, h2, h3, h4⟩ := hx
    dsimp only at h0 h1 h2 h3 h4 ⊢
    conv => whnf
    refine condP.dec (fun h => ?_) (fun h => ?_)
    · have kd := down_ok (n := i + j) (d := 2) (by omega) (by omega) (by omega) (by omega)
      obtain ⟨m, hmid⟩ : ∃ m, m = (i + j) / 2 := ⟨_, rfl⟩
      rw [← hmid] at kd
      have kc := hcur m (by omega) (by omega)
      have ku := under_ok (c := c) (d := d) kc
      repeat' ((conv => whnf); first | (refine CallP.pure kd ?_) | (refine CallP.pure (Alone_ok _) ?_) | (refine CallP.pure (kp _) ?_) | (refine CallP.dec ku (fun hv => ?_) (fun hv => ?_)) | (first | refine condP.dec (fun h => ?_) (fun h => ?_) | refine condP.eq (fun h => ?_) (fun h => ?_) | refine condP.ne (fun h => ?_) (fun h => ?_)) | (refine .i64 (by omega) (by omega) ?_) | (refine onSome.intro (idx_fs rfl rfl (by omega) (by omega) (fun _ => rfl)) ?_) | (refine onSome.intro (load_fs rfl (by omega) (by omega) rfl) ?_) | (refine And.intro rfl ?_))
      · conv => whnf
        refine .more (m + 1, j) rfl ⟨by dsimp only; omega, by dsimp only; omega, h2, fun y y0 y1 => ?_, h4⟩ (by dsimp only; omega) ⟨rfl, rfl, rfl, rfl, rfl, rfl, rfl, rfl, trivial⟩ rfl ⟨.int _ _, .ptr _ _ _ (show (0 : Nat) < 4 by decide), .ptr _ _ _ (show (1 : Nat) < 4 by decide), .ptr _ _ _ (show (2 : Nat) < 4 by decide), .ptr _ _ _ (show (3 : Nat) < 4 by decide), .bool _, .int _ _, .int _ _, trivial⟩ (RS_chk ..)
        have := (hm y m y0 (by dsimp only at y1; omega) (by omega)).2
        omega
      · conv => whnf
        refine .more (i, m) rfl ⟨h0, by dsimp only; omega, by dsimp only; omega, h3, fun y y0 y1 => ?_⟩ (by dsimp only; omega) ⟨rfl, rfl, rfl, rfl, rfl, rfl, rfl, rfl, trivial⟩ rfl ⟨.int _ _, .ptr _ _ _ (show (0 : Nat) < 4 by decide), .ptr _ _ _ (show (1 : Nat) < 4 by decide), .ptr _ _ _ (show (2 : Nat) < 4 by decide), .ptr _ _ _ (show (3 : Nat) < 4 by decide), .bool _, .int _ _, .int _ _, trivial⟩ (RS_chk ..)
        have := (hm m y (by omega) (by dsimp only at y0; omega) y1).2
        omega
    obtain rfl : i = j := by omega
    conv => whnf
    refine .done (by simp) ?_
    repeat' ((conv => whnf); first | (first | refine condP.dec (fun h => ?_) (fun h => ?_) | refine condP.eq (fun h => ?_) (fun h => ?_) | refine condP.ne (fun h => ?_) (fun h => ?_)) | (refine .i64 (by omega) (by omega) ?_) | (refine onSome.intro (idx_fs rfl rfl (by omega) (by omega) (fun _ => rfl)) ?_) | (refine onSome.intro (load_fs rfl (by omega) (by omega) rfl) ?_) | (refine And.intro rfl ?_))
    refine loop_rule (X := Int × Int) (fun x => [(1, .int .i64 3), (3, .ptr 0 0 0), (5, .ptr 1 0 0), (6, .ptr 2 0 0), (8, .ptr 3 0 0), (9, .bool false), (10, .int .i64 x.1), (11, .int .i64 x.2), (14, .int .i64 i)]) (fun x => RS (SL p0 p1 g0 g1 s0 s1 f0 f1 q0 q1) v w c d f0 f1)
      (fun x => (x.2 - x.1).toNat) (fun x => f0 - 1 ≤ x.1 ∧ x.1 ≤ x.2 ∧ x.2 ≤ f1 ∧ (∀ m, f0 ≤ m → m ≤ x.1 → ¬ d < cl m) ∧ (∀ m, x.2 < m → m ≤ f1 → d < cl m)) (f0 - 1, f1)
      ⟨Int.le_refl _, by dsimp only; omega, Int.le_refl _, fun m h h' => absurd h' (by dsimp only; omega), fun m h h' => absurd h' (by dsimp only at h; omega)⟩ ⟨rfl, rfl, rfl, rfl, rfl, rfl, rfl, rfl, rfl, trivial⟩ rfl (fun _ _ => rfl) (fun x hx => ?_)
    obtain ⟨k, j⟩ := x
    obtain ⟨k0, k1, k2, k3, k4⟩ := hx
    dsimp only at k0 k1 k2 k3 k4 ⊢
    conv => whnf
    refine condP.dec (fun h => ?_) (fun h => ?_)
    · have kd := up_ok (n := k + j) (d := 2) (by omega) (by omega) (by omega) (by omega)
      have e1 := up_ge (k + j) (d := 2) (by omega)
      have e2 := up_lt (k + j) (d := 2) (by omega)
      obtain ⟨m, hmid⟩ : ∃ m, m = up (k + j) 2 := ⟨_, rfl⟩
      rw [← hmid] at kd e1 e2
      have kc := hcur m (by omega) (by omega)
      have ku := over_ok (c := c) (d := d) kc
      repeat' ((conv => whnf); first | (refine CallP.pure kd ?_) | (refine CallP.pure (Alone_ok _) ?_) | (refine CallP.pure (kp _) ?_) | (refine CallP.dec ku (fun hv => ?_) (fun hv => ?_)) | (first | refine condP.dec (fun h => ?_) (fun h => ?_) | refine condP.eq (fun h => ?_) (fun h => ?_) | refine condP.ne (fun h => ?_) (fun h => ?_)) | (refine .i64 (by omega) (by omega) ?_) | (refine onSome.intro (idx_fs rfl rfl (by omega) (by omega) (fun _ => rfl)) ?_) | (refine onSome.intro (load_fs rfl (by omega) (by omega) rfl) ?_) | (refine And.intro rfl ?_))
      · conv => whnf
        refine .more (k, m - 1) rfl ⟨k0, by dsimp only; omega, by dsimp only; omega, k3, fun y y0 y1 => ?_⟩ (by dsimp only; omega) ⟨rfl, rfl, rfl, rfl, rfl, rfl, rfl, rfl, rfl, trivial⟩ rfl ⟨.int _ _, .ptr _ _ _ (show (0 : Nat) < 4 by decide), .ptr _ _ _ (show (1 : Nat) < 4 by decide), .ptr _ _ _ (show (2 : Nat) < 4 by decide), .ptr _ _ _ (show (3 : Nat) < 4 by decide), .bool _, .int _ _, .int _ _, .int _ _, trivial⟩ (RS_chk ..)
        have := (hm m y (by omega) (by dsimp only at y0; omega) y1).1
        omega
      · conv => whnf
        refine .more (m, j) rfl ⟨by dsimp only; omega, by dsimp only; omega, k2, fun y y0 y1 => ?_, k4⟩ (by dsimp only; omega) ⟨rfl, rfl, rfl, rfl, rfl, rfl, rfl, rfl, rfl, trivial⟩ rfl ⟨.int _ _, .ptr _ _ _ (show (0 : Nat) < 4 by decide), .ptr _ _ _ (show (1 : Nat) < 4 by decide), .ptr _ _ _ (show (2 : Nat) < 4 by decide), .ptr _ _ _ (show (3 : Nat) < 4 by decide), .bool _, .int _ _, .int _ _, .int _ _, trivial⟩ (RS_chk ..)
        have := (hm y m y0 (by dsimp only at y1; omega) (by omega)).1
        omega
    obtain rfl : k = j := by omega
    conv => whnf
    refine .done (by simp) ?_
    have hC : Cutting f0 f1 (fun m => ch m < c) (fun m => d < cl m) i k := ⟨h0, h2, h3, h4, k0, k2, k4, k3⟩
    repeat' ((conv => whnf); first | (first | refine condP.dec (fun h => ?_) (fun h => ?_) | refine condP.eq (fun h => ?_) (fun h => ?_) | refine condP.ne (fun h => ?_) (fun h => ?_)) | (refine .i64 (by omega) (by omega) ?_) | (refine onSome.intro (idx_fs rfl rfl (by omega) (by omega) (fun _ => rfl)) ?_) | (refine onSome.intro (load_fs rfl (by omega) (by omega) rfl) ?_) | (refine And.intro rfl ?_))
    · rename_i hle
      conv => whnf
      exact .intro (.tuple [rgI i k, .bool true]) (.tuple [rgI i k, .bool true]) ⟨_, _, hC, by rw [decide_eq_true (by omega)]⟩ (nn_tuple (nn_cons (rgI_no _ _) (nn_cons (.bool _) nn_none))) (.inl rfl) rfl (.refl _)
    · rename_i hle
      conv => whnf
      exact .intro (.tuple [rgI i k, .bool false]) (.tuple [rgI i k, .bool false]) ⟨_, _, hC, by rw [decide_eq_false (by omega)]⟩ (nn_tuple (nn_cons (rgI_no _ _) (nn_cons (.bool _) nn_none))) (.inl rfl) rfl (.refl _))
  obtain ⟨x, ⟨a, b, hC, rfl⟩, _, h⟩ := key
  exact ⟨a, b, hC, h⟩
theorem rfield4_ok (p0 p1 g0 g1 s0 s1 f0 f1 q0 q1 : Int) (H : Heap) : Ev T (.call (.func (.func 134) [] []) [lawI p0 p1 g0 g1 s0 s1 f0 f1 q0 q1, .int .i64 4] H) (.call (rgI q0 q1) H) := by
  refine run_pure T134 (rgI_no _ _) (nn_cons (lawI_no ..) (nn_cons (nn_int _ _) nn_none)) ?_ H
  conv => whnf
  exact .intro (rgI q0 q1) (.inl rfl) rfl (.refl _)
theorem rput4_ok (p0 p1 g0 g1 s0 s1 f0 f1 q0 q1 a b : Int) (H : Heap) : Ev T (.call (.func (.func 106) [] []) [lawI p0 p1 g0 g1 s0 s1 f0 f1 q0 q1, .int .i64 4, rgI a b] H) (.call (lawI p0 p1 g0 g1 s0 s1 f0 f1 a b) H) := by
  refine run_pure T106 (lawI_no ..) (nn_cons (lawI_no ..) (nn_cons (nn_int _ _) (nn_cons (rgI_no _ _) nn_none))) ?_ H
  conv => whnf
  exact .intro (lawI p0 p1 g0 g1 s0 s1 f0 f1 a b) (.inl rfl) rfl (.refl _)
theorem rnarrowed4_ok {p0 p1 g0 g1 s0 s1 f0 f1 q0 q1 v w c d : Int} {cl ch : Int → Int} (b0 : -1000000 ≤ q0) (b1 : q0 ≤ q1) (b2 : q1 ≤ 1000000)
    (hcur : ∀ m, q0 ≤ m → m ≤ q1 → ∀ H, Ev T (.call (.func (.func 85) [] []) [lawI p0 p1 g0 g1 s0 s1 f0 f1 m m, .int .i64 v, .int .i64 w] H) (.call (rgI (cl m) (ch m)) H))
    (hm : ∀ m m', q0 ≤ m → m ≤ m' → m' ≤ q1 → cl m ≤ cl m' ∧ ch m ≤ ch m') :
    ∃ a b, Cutting q0 q1 (fun m => ch m < c) (fun m => d < cl m) a b ∧ ∀ (H : Heap),
      Ev T (.call (.func (.func 105) [] []) [lawI p0 p1 g0 g1 s0 s1 f0 f1 q0 q1, .int .i64 4, rdI v w c d] H) (.call (.tuple [rgI a b, .bool (decide (a ≤ b))]) H) := by
  have kf := rfield4_ok p0 p1 g0 g1 s0 s1 f0 f1 q0 q1
  have kp := fun m => rput4_ok p0 p1 g0 g1 s0 s1 f0 f1 q0 q1 m m
  have key := run_some T105 (args := [lawI p0 p1 g0 g1 s0 s1 f0 f1 q0 q1, .int .i64 4, rdI v w c d]) (P := fun x => ∃ a b, Cutting q0 q1 (fun m => ch m < c) (fun m => d < cl m) a b ∧ x = .tuple [rgI a b, .bool (decide (a ≤ b))])
    (nn_cons (lawI_no ..) (nn_cons (nn_int _ _) (nn_cons (rdI_no ..) nn_none))) (by
    repeat' ((conv => whnf); first | (refine CallP.pure kf ?_) | (first | refine condP.dec (fun h => ?_) (fun h => ?_) | refine condP.eq (fun h => ?_) (fun h => ?_) | refine condP.ne (fun h => ?_) (fun h => ?_)) | (refine .i64 (by omega) (by omega) ?_) | (refine onSome.intro (idx_fs rfl rfl (by omega) (by omega) (fun _ => rfl)) ?_) | (refine onSome.intro (load_fs rfl (by omega) (by omega) rfl) ?_) | (refine And.intro rfl ?_))
    refine loop_rule (X := Int × Int) (fun x => [(1, .int .i64 4), (3, .ptr 0 0 0), (5, .ptr 1 0 0), (6, .ptr 2 0 0), (8, .ptr 3 0 0), (9, .bool false), (10, .int .i64 x.1), (11, .int .i64 x.2)]) (fun x => RS (SL p0 p1 g0 g1 s0 s1 f0 f1 q0 q1) v w c d q0 q1)
      (fun x => (x.2 - x.1).toNat) (fun x => q0 ≤ x.1 ∧ x.1 ≤ x.2 ∧ x.2 ≤ q1 + 1 ∧ (∀ m, q0 ≤ m → m < x.1 → ch m < c) ∧ (∀ m, x.2 ≤ m → m ≤ q1 → ¬ ch m < c)) (q0, q1 + 1)
      ⟨Int.le_refl _, by dsimp only; omega, Int.le_refl _, fun m h h' => absurd h' (by dsimp only; omega), fun m h h' => absurd h' (by dsimp only at h; omega)⟩ ⟨rfl, rfl, rfl, rfl, rfl, rfl, rfl, rfl, trivial⟩ rfl (fun _ _ => rfl) (fun x hx => ?_)
    obtain ⟨i, j⟩ := x
    obtain ⟨h0, h1, h2, h3, h4⟩ := hx
    dsimp only at h0 h1 h2 h3 h4 ⊢
    conv => whnf
    refine condP.dec (fun h => ?_) (fun h => ?_)
    · have kd := down_ok (n := i + j) (d := 2) (by omega) (by omega) (by omega) (by omega)
      obtain ⟨m, hmid⟩ : ∃ m, m = (i + j) / 2 := ⟨_, rfl⟩
      rw [← hmid] at kd
      have kc := hcur m (by omega) (by omega)
      have ku := under_ok (c := c) (d := d) kc
      repeat' ((conv => whnf); first | (refine CallP.pure kd ?_) | (refine CallP.pure (Alone_ok _) ?_) | (refine CallP.pure (kp _) ?_) | (refine CallP.dec ku (fun hv => ?_) (fun hv => ?_)) | (first | refine condP.dec (fun h => ?_) (fun h => ?_) | refine condP.eq (fun h => ?_) (fun h => ?_) | refine condP.ne (fun h => ?_) (fun h => ?_)) | (refine .i64 (by omega) (by omega) ?_) | (refine onSome.intro (idx_fs rfl rfl (by omega) (by omega) (fun _ => rfl)) ?_) | (refine onSome.intro (load_fs rfl (by omega) (by omega) rfl) ?_) | (refine And.intro rfl ?_))
      · conv => whnf
        refine .more (m + 1, j) rfl ⟨by dsimp only; omega, by dsimp only; omega, h2, fun y y0 y1 => ?_, h4⟩ (by dsimp only; omega) ⟨rfl, rfl, rfl, rfl, rfl, rfl, rfl, rfl, trivial⟩ rfl ⟨.int _ _, .ptr _ _ _ (show (0 : Nat) < 4 by decide), .ptr _ _ _ (show (1 : Nat) < 4 by decide), .ptr _ _ _ (show (2 : Nat) < 4 by decide), .ptr _ _ _ (show (3 : Nat) < 4 by decide), .bool _, .int _ _, .int _ _, trivial⟩ (RS_chk ..)
        have := (hm y m y0 (by dsimp only at y1; omega) (by omega)).2
        omega
      · conv => whnf
        refine .more (i, m) rfl ⟨h0, by dsimp only; omega, by dsimp only; omega, h3, fun y y0 y1 => ?_⟩ (by dsimp only; omega) ⟨rfl, rfl, rfl, rfl, rfl, rfl, rfl, rfl, trivial⟩ rfl ⟨.int _ _, .ptr _ _ _ (show (0 : Nat) < 4 by decide), .ptr _ _ _ (show (1 : Nat) < 4 by decide), .ptr _ _ _ (show (2 : Nat) < 4 by decide), .ptr _ _ _ (show (3 : Nat) < 4 by decide), .bool _, .int _ _, .int _ _, trivial⟩ (RS_chk ..)
        have := (hm m y (by omega) (by dsimp only at y0; omega) y1).2
        omega
    obtain rfl : i = j := by omega
    conv => whnf
    refine .done (by simp) ?_
    repeat' ((conv => whnf); first | (first | refine condP.dec (fun h => ?_) (fun h => ?_) | refine condP.eq (fun h => ?_) (fun h => ?_) | refine condP.ne (fun h => ?_) (fun h => ?_)) | (refine .i64 (by omega) (by omega) ?_) | (refine onSome.intro (idx_fs rfl rfl (by omega) (by omega) (fun _ => rfl)) ?_) | (refine onSome.intro (load_fs rfl (by omega) (by omega) rfl) ?_) | (refine And.intro rfl ?_))
    refine loop_rule (X := Int × Int) (fun x => [(1, .int .i64 4), (3, .ptr 0 0 0), (5, .ptr 1 0 0), (6, .ptr 2 0 0), (8, .ptr 3 0 0), (9, .bool false), (10, .int .i64 x.1), (11, .int .i64 x.2), (14, .int .i64 i)]) (fun x => RS (SL p0 p1 g0 g1 s0 s1 f0 f1 q0 q1) v w c d q0 q1)
      (fun x => (x.2 - x.1).toNat) (fun x => q0 - 1 ≤ x.1 ∧ x.1 ≤ x.2 ∧ x.2 ≤ q1 ∧ (∀ m, q0 ≤ m → m ≤ x.1 → ¬ d < cl m) ∧ (∀ m, x.2 < m → m ≤ q1 → d < cl m)) (q0 - 1, q1)
      ⟨Int.le_refl _, by dsimp only; omega, Int.le_refl _, fun m h h' => absurd h' (by dsimp only; omega), fun m h h' => absurd h' (by dsimp only at h; omega)⟩ ⟨rfl, rfl, rfl, rfl, rfl, rfl, rfl, rfl, rfl, trivial⟩ rfl (fun _ _ => rfl) (fun x hx => ?_)
    obtain ⟨k, j⟩ := x
    obtain ⟨k0, k1, k2, k3, k4⟩ := hx
    dsimp only at k0 k1 k2 k3 k4 ⊢
    conv => whnf
    refine condP.dec (fun h => ?_) (fun h => ?_)
    · have kd := up_ok (n := k + j) (d := 2) (by omega) (by omega) (by omega) (by omega)
      have e1 := up_ge (k + j) (d := 2) (by omega)
      have e2 := up_lt (k + j) (d := 2) (by omega)
      obtain ⟨m, hmid⟩ : ∃ m, m = up (k + j) 2 := ⟨_, rfl⟩
      rw [← hmid] at kd e1 e2
      have kc := hcur m (by omega) (by omega)
      have ku := over_ok (c := c) (d := d) kc
      repeat' ((conv => whnf); first | (refine CallP.pure kd ?_) | (refine CallP.pure (Alone_ok _) ?_) | (refine CallP.pure (kp _) ?_) | (refine CallP.dec ku (fun hv => ?_) (fun hv => ?_)) | (first | refine condP.dec (fun h => ?_) (fun h => ?_) | refine condP.eq (fun h => ?_) (fun h => ?_) | refine condP.ne (fun h => ?_) (fun h => ?_)) | (refine .i64 (by omega) (by omega) ?_) | (refine onSome.intro (idx_fs rfl rfl (by omega) (by omega) (fun _ => rfl)) ?_) | (refine onSome.intro (load_fs rfl (by omega) (by omega) rfl) ?_) | (refine And.intro rfl ?_))
      · conv => whnf
        refine .more (k, m - 1) rfl ⟨k0, by dsimp only; omega, by dsimp only; omega, k3, fun y y0 y1 => ?_⟩ (by dsimp only; omega) ⟨rfl, rfl, rfl, rfl, rfl, rfl, rfl, rfl, rfl, trivial⟩ rfl ⟨.int _ _, .ptr _ _ _ (show (0 : Nat) < 4 by decide), .ptr _ _ _ (show (1 : Nat) < 4 by decide), .ptr _ _ _ (show (2 : Nat) < 4 by decide), .ptr _ _ _ (show (3 : Nat) < 4 by decide), .bool _, .int _ _, .int _ _, .int _ _, trivial⟩ (RS_chk ..)
        have := (hm m y (by omega) (by dsimp only at y0; omega) y1).1
        omega
      · conv => whnf
        refine .more (m, j) rfl ⟨by dsimp only; omega, by dsimp only; omega, k2, fun y y0 y1 => ?_, k4⟩ (by dsimp only; omega) ⟨rfl, rfl, rfl, rfl, rfl, rfl, rfl, rfl, rfl, trivial⟩ rfl ⟨.int _ _, .ptr _ _ _ (show (0 : Nat) < 4 by decide), .ptr _ _ _ (show (1 : Nat) < 4 by decide), .ptr _ _ _ (show (2 : Nat) < 4 by decide), .ptr _ _ _ (show (3 : Nat) < 4 by decide), .bool _, .int _ _, .int _ _, .int _ _, trivial⟩ (RS_chk ..)
        have := (hm y m y0 (by dsimp only at y1; omega) (by omega)).1
        omega
    obtain rfl : k = j := by omega
    conv => whnf
    refine .done (by simp) ?_
    have hC : Cutting q0 q1 (fun m => ch m < c) (fun m => d < cl m) i k := ⟨h0, h2, h3, h4, k0, k2, k4, k3⟩
    repeat' ((conv => whnf); first | (first | refine condP.dec (fun h => ?_) (fun h => ?_) | refine condP.eq (fun h => ?_) (fun h => ?_) | refine condP.ne (fun h => ?_) (fun h => ?_)) | (refine .i64 (by omega) (by omega) ?_) | (refine onSome.intro (idx_fs rfl rfl (by omega) (by omega) (fun _ => rfl)) ?_) | (refine onSome.intro (load_fs rfl (by omega) (by omega) rfl) ?_) | (refine And.intro rfl ?_))
    · rename_i hle
      conv => whnf
      exact .intro (.tuple [rgI i k, .bool true]) (.tuple [rgI i k, .bool true]) ⟨_, _, hC, by rw [decide_eq_true (by omega)]⟩ (nn_tuple (nn_cons (rgI_no _ _) (nn_cons (.bool _) nn_none))) (.inl rfl) rfl (.refl _)
    · rename_i hle
      conv => whnf
      exact .intro (.tuple [rgI i k, .bool false]) (.tuple [rgI i k, .bool false]) ⟨_, _, hC, by rw [decide_eq_false (by omega)]⟩ (nn_tuple (nn_cons (rgI_no _ _) (nn_cons (.bool _) nn_none))) (.inl rfl) rfl (.refl _))
  obtain ⟨x, ⟨a, b, hC, rfl⟩, _, h⟩ := key
  exact ⟨a, b, hC, h⟩
end Go.Proofs.Ytbomgfbfnkfamaa.I
