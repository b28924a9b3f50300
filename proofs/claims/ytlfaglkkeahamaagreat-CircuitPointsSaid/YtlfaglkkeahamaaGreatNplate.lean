/- Nets: plates. -/
import Derived.Test.YtlfaglkkeahamaaGreatNgrid
set_option linter.unusedVariables false
set_option maxHeartbeats 16000000
set_option linter.unusedSimpArgs false
namespace Go.Proofs.YtlfaglkkeahamaaGreat.I
open Go.Ideal

theorem Fam.Ok.noErr {F : Fam} (h : F.Ok) {v w : Int} (v0 : -1000000 ≤ v) (v1 : v ≤ 1000000) (w0 : 0 ≤ w) (w1 : w ≤ 1000000) : atErr F.g F.p F.lo F.hi v w = 0 := by
  unfold atErr
  rw [FamOk.err h, if_neg (by simp), if_pos ⟨v0, v1, w0, w1⟩]
theorem c9at_ok {F : Fam} (h : F.Ok) {v w : Int} (v0 : -1000000 ≤ v) (v1 : v ≤ 1000000) (w0 : 0 ≤ w) (w1 : w ≤ 1000000) (H : Heap) :
    Ev T (.call (.func (.func 141) [] []) [F.I, .int .i64 v, .int .i64 w] H) (.call (.tuple [rgI (F.cLo v w) (F.cHi v w), .int .i64 0]) H) := by
  have a := h.g1
  have b := h.p1
  have c := h.tl.len
  have d := h.th.len
  have k := At_ok F.g F.p F.lo F.hi (by omega) (by omega) (by omega) (by omega) v w H
  rw [h.noErr v0 v1 w0 w1] at k
  exact k
theorem r9at_ok {F : Fam} (h : F.Ok) {v w : Int} (v0 : -1000000 ≤ v) (v1 : v ≤ 1000000) (w0 : 0 ≤ w) (w1 : w ≤ 1000000) (H : Heap) :
    Ev T (.call (.func (.func 160) [] []) [F.I, .int .i64 v, .int .i64 w] H) (.call (.tuple [rgI (F.cLo v w) (F.cHi v w), .int .i64 0]) H) := by
  have a := h.g1
  have b := h.p1
  have c := h.tl.len
  have d := h.th.len
  have k := rAt_ok F.g F.p F.lo F.hi (by omega) (by omega) (by omega) (by omega) v w H
  rw [h.noErr v0 v1 w0 w1] at k
  exact k
theorem Fam.Ok.overUp {F : Fam} (h : F.Ok) {s : Stg} (h0 : 0 ≤ s.ld.hi) (g : Int) {j k : Nat} (hjk : j ≤ k) (hj : overP F s g j) : overP F s g k := by
  unfold overP at *
  have h1 := (h.byPlate g (show (j : Int) ≤ (k : Int) by omega)).2
  have := Int.mul_le_mul_of_nonneg_left h1 h0
  omega
theorem Fam.Ok.enUp {F : Fam} (h : F.Ok) {s : Stg} (h0 : 0 ≤ s.ld.lo) (g : Int) {j k : Nat} (hjk : j ≤ k) (hj : enP F s g j) : enP F s g k := by
  unfold enP at *
  have h1 := (h.byPlate g (show (j : Int) ≤ (k : Int) by omega)).1
  have := Int.mul_le_mul_of_nonneg_left h1 h0
  omega
theorem ld_bound {F : Fam} (h : F.Ok) {l : Int} (l0 : 0 ≤ l) (l1 : l ≤ 1000000) (v w : Int) : (0 ≤ l * F.cHi v w ∧ l * F.cHi v w ≤ 1000000000000) ∧ (0 ≤ l * F.cLo v w ∧ l * F.cLo v w ≤ 1000000000000) := by
  have c := h.cur v w
  have a1 := Int.mul_le_mul l1 (show F.cHi v w ≤ 1000000 by omega) (by omega) (by omega)
  have a2 := Int.mul_le_mul l1 (show F.cLo v w ≤ 1000000 by omega) (by omega) (by omega)
  exact ⟨⟨Int.mul_nonneg l0 (by omega), by omega⟩, ⟨Int.mul_nonneg l0 (by omega), by omega⟩⟩

def PS (n : Net) (s : Stg) (F : Fam) (g : Rg) : List Slot := [.live 3 [n.R], .live 2 [g.R], .live 2 [[.int .i64 0, .int .i64 0]], .live 8 [s.R], .live 4 [F.R]]
theorem PS_chk {S : Nat → Prop} (n : Net) (s : Stg) (F : Fam) (g : Rg) : chkS S (PS n s F g) := ⟨row_inn n.R_no, row_inn g.R_no, row_inn (by simp [nn_int]), row_inn s.R_no, row_inn F.R_no, trivial⟩
theorem inn_fn3 {S : Nat → Prop} {f : FuncId} {a b c : Nat} (ha : S a) (hb : S b) (hc : S c) : Inn S (.func (.func f) [] [.ptr a 0 0, .ptr b 0 0, .ptr c 0 0]) := .func _ _ _ (fun i h => by simp at h) (fun i hi => by
  match i, hi with
  | 0, _ => exact .ptr _ _ _ ha
  | 1, _ => exact .ptr _ _ _ hb
  | 2, _ => exact .ptr _ _ _ hc)
theorem c9plate_ok {n : Net} (hn : n.Ok) {i : Nat} (hi : i < n.stages.length) {g : Rg} (hg : g.Ok (-1000000) 1000000) (H : Heap) :
    Ev T (.call (.func (.func 87) [] []) [n.I, .int .i64 i, g.I] H) (.call ((at' n.stages (i : Int)).plate (at' n.tubes (at' n.stages (i : Int)).tube) g).I H) := by
  refine run_pure T87 (Rg.I_no _) (nn_cons n.I_no (nn_cons (nn_int _ _) (nn_cons g.I_no nn_none))) ?_ H
  have hs := hn.st i hi
  have hF := hn.tube hi
  have e2 : (n.stages.map Stg.R).length = n.stages.length := List.length_map ..
  have e3 : (n.tubes.map Fam.R).length = n.tubes.length := List.length_map ..
  generalize hf : at' n.stages (i : Int) = s at *
  generalize hf2 : at' n.tubes s.tube = F at *
  obtain ⟨tb0, tb1, su, ld, bi, tp⟩ := hs
  have s0 := su.a
  have s1 := su.b
  have s2 := su.c
  have l0 := ld.a
  have l1 := ld.b
  have l2 := ld.c
  have g0 := hg.a
  have g1 := hg.b
  have g2 := hg.c
  have cut : ∀ m : Nat, (m : Int) ≤ 1000000 → (∀ H, Ev T (.call (.func (.func 141) [] []) [F.I, .int .i64 g.hi, .int .i64 m] H) (.call (.tuple [rgI (F.cLo g.hi m) (F.cHi g.hi m), .int .i64 0]) H)) ∧ (∀ H, Ev T (.call (.func (.func 141) [] []) [F.I, .int .i64 g.lo, .int .i64 m] H) (.call (.tuple [rgI (F.cLo g.lo m) (F.cHi g.lo m), .int .i64 0]) H)) :=
    fun m hm => ⟨c9at_ok hF (by omega) (by omega) (by omega) (by omega), c9at_ok hF (by omega) (by omega) (by omega) (by omega)⟩
  repeat' ((conv => whnf); first | (refine onSome.intro (load_fs (l := n.stages) (enc := Stg.R) (i := (i : Int)) (v := s.I) rfl (by omega) (by omega) (by rw [hf]; rfl)) ?_) | (refine onSome.intro (load_fs (l := n.tubes) (enc := Fam.R) (i := s.tube) (v := F.I) rfl (by omega) (by omega) (by rw [hf2]; rfl)) ?_) | (refine CallP.inl T139 rfl ?_) | (first | refine condP.dec (fun h => ?_) (fun h => ?_) | refine condP.eq (fun h => ?_) (fun h => ?_) | refine condP.ne (fun h => ?_) (fun h => ?_)) | (refine .i64 (by omega) (by omega) ?_) | (refine onSome.intro (idx_fs rfl rfl (by omega) (by omega) (fun _ => rfl)) ?_) | (refine onSome.intro (load_fs rfl (by omega) (by omega) rfl) ?_) | (refine And.intro rfl ?_))
  refine loop_rule (X := Nat × Nat) (fun x => [(0, .int .i64 (s.su.lo + 1)), (1, .func (.func 140) [] [.ptr 4 0 0, .ptr 1 0 0, .ptr 3 0 0]), (5, .int .i64 x.1), (6, .int .i64 x.2)]) (fun x => PS n s F g)
    (fun x => x.2 - x.1) (fun x => x.1 ≤ x.2 ∧ x.2 ≤ (s.su.lo + 1).toNat ∧ (∀ m, m < x.1 → ¬ overP F s g.hi m) ∧ (∀ m, x.2 ≤ m → m < (s.su.lo + 1).toNat → overP F s g.hi m)) (0, (s.su.lo + 1).toNat)
    ⟨Nat.zero_le _, Nat.le_refl _, fun m h => absurd h (Nat.not_lt_zero _), fun m h h' => absurd h' (by dsimp only at h; omega)⟩ ⟨rfl, rfl, rfl, congrArg (IV.int .i64) (by dsimp only; omega), trivial⟩ rfl (fun _ _ => rfl) (fun x hx => ?_)
  obtain ⟨a, b⟩ := x
  obtain ⟨h1, h2, h3, h4⟩ := hx
  dsimp only at h1 h2 h3 h4 ⊢
  conv => whnf
  refine condP.dec (fun h => ?_) (fun h => ?_)
  · obtain ⟨m, hmid⟩ : ∃ m : Nat, ((a : Int) + b) / 2 = m := ⟨(a + b) / 2, by omega⟩
    have hc := ld_bound hF (l := s.ld.hi) (by omega) l2 g.hi m
    have kA := (cut m (by omega)).1
    conv => whnf
    refine .i64 (by omega) (by omega) ?_
    conv => whnf
    refine .u64 (by omega) (by omega) ?_
    conv => whnf
    rw [fd1, hmid]
    refine .i64 (by omega) (by omega) ?_
    repeat' ((conv => whnf); first | (refine CallP.inl T140 rfl ?_) | (refine CallP.pure kA ?_) | (first | refine condP.dec (fun h => ?_) (fun h => ?_) | refine condP.eq (fun h => ?_) (fun h => ?_) | refine condP.ne (fun h => ?_) (fun h => ?_)) | (refine .i64 (by omega) (by omega) ?_) | (refine onSome.intro (idx_fs rfl rfl (by omega) (by omega) (fun _ => rfl)) ?_) | (refine onSome.intro (load_fs rfl (by omega) (by omega) rfl) ?_) | (refine And.intro rfl ?_))
    all_goals conv => whnf
    · exact .more (a, m) rfl ⟨by dsimp only; omega, by dsimp only; omega, h3, fun k k0 k1 => hF.overUp (by omega) g.hi k0 (by unfold overP; omega)⟩ (by dsimp only; omega) ⟨rfl, rfl, rfl, rfl, trivial⟩ rfl ⟨.int _ _, inn_fn3 (show (4 : Nat) < 5 by decide) (show (1 : Nat) < 5 by decide) (show (3 : Nat) < 5 by decide), .int _ _, .int _ _, trivial⟩ (PS_chk ..)
    · exact .more (m + 1, b) rfl ⟨by dsimp only; omega, h2, fun k k0 hk => (show ¬ overP F s g.hi m by unfold overP; omega) (hF.overUp (by omega) g.hi (by dsimp only at k0; omega) hk), h4⟩ (by dsimp only; omega) ⟨rfl, rfl, rfl, rfl, trivial⟩ rfl ⟨.int _ _, inn_fn3 (show (4 : Nat) < 5 by decide) (show (1 : Nat) < 5 by decide) (show (3 : Nat) < 5 by decide), .int _ _, .int _ _, trivial⟩ (PS_chk ..)
  obtain rfl : a = b := by omega
  have eO : overN F s g.hi = a := least_eq h2 h3 (fun q => h4 a (Nat.le_refl _) q)
  conv => whnf
  refine .done (by simp) ?_
  repeat' ((conv => whnf); first | (refine CallP.inl T139 rfl ?_) | (first | refine condP.dec (fun h => ?_) (fun h => ?_) | refine condP.eq (fun h => ?_) (fun h => ?_) | refine condP.ne (fun h => ?_) (fun h => ?_)) | (refine .i64 (by omega) (by omega) ?_) | (refine onSome.intro (idx_fs rfl rfl (by omega) (by omega) (fun _ => rfl)) ?_) | (refine onSome.intro (load_fs rfl (by omega) (by omega) rfl) ?_) | (refine And.intro rfl ?_))
  refine loop_rule (X := Nat × Nat) (fun x => [(0, .int .i64 s.su.hi), (1, .func (.func 142) [] [.ptr 4 0 0, .ptr 1 0 0, .ptr 3 0 0]), (5, .int .i64 x.1), (6, .int .i64 x.2)]) (fun x => PS n s F g)
    (fun x => x.2 - x.1) (fun x => x.1 ≤ x.2 ∧ x.2 ≤ s.su.hi.toNat ∧ (∀ m, m < x.1 → ¬ enP F s g.lo m) ∧ (∀ m, x.2 ≤ m → m < s.su.hi.toNat → enP F s g.lo m)) (0, s.su.hi.toNat)
    ⟨Nat.zero_le _, Nat.le_refl _, fun m h => absurd h (Nat.not_lt_zero _), fun m h h' => absurd h' (by dsimp only at h; omega)⟩ ⟨rfl, rfl, rfl, congrArg (IV.int .i64) (by dsimp only; omega), trivial⟩ rfl (fun _ _ => rfl) (fun x hx => ?_)
  obtain ⟨c, b⟩ := x
  obtain ⟨i1, i2, i3, i4⟩ := hx
  dsimp only at i1 i2 i3 i4 ⊢
  conv => whnf
  refine condP.dec (fun h => ?_) (fun h => ?_)
  · obtain ⟨m, hmid⟩ : ∃ m : Nat, ((c : Int) + b) / 2 = m := ⟨(c + b) / 2, by omega⟩
    have hc := ld_bound hF (l := s.ld.lo) (by omega) (by omega) g.lo m
    have kA := (cut m (by omega)).2
    conv => whnf
    refine .i64 (by omega) (by omega) ?_
    conv => whnf
    refine .u64 (by omega) (by omega) ?_
    conv => whnf
    rw [fd1, hmid]
    refine .i64 (by omega) (by omega) ?_
    repeat' ((conv => whnf); first | (refine CallP.inl T142 rfl ?_) | (refine CallP.pure kA ?_) | (first | refine condP.dec (fun h => ?_) (fun h => ?_) | refine condP.eq (fun h => ?_) (fun h => ?_) | refine condP.ne (fun h => ?_) (fun h => ?_)) | (refine .i64 (by omega) (by omega) ?_) | (refine onSome.intro (idx_fs rfl rfl (by omega) (by omega) (fun _ => rfl)) ?_) | (refine onSome.intro (load_fs rfl (by omega) (by omega) rfl) ?_) | (refine And.intro rfl ?_))
    all_goals conv => whnf
    · exact .more (c, m) rfl ⟨by dsimp only; omega, by dsimp only; omega, i3, fun k k0 k1 => hF.enUp (by omega) g.lo k0 (by unfold enP; omega)⟩ (by dsimp only; omega) ⟨rfl, rfl, rfl, rfl, trivial⟩ rfl ⟨.int _ _, inn_fn3 (show (4 : Nat) < 5 by decide) (show (1 : Nat) < 5 by decide) (show (3 : Nat) < 5 by decide), .int _ _, .int _ _, trivial⟩ (PS_chk ..)
    · exact .more (m + 1, b) rfl ⟨by dsimp only; omega, i2, fun k k0 hk => (show ¬ enP F s g.lo m by unfold enP; omega) (hF.enUp (by omega) g.lo (by dsimp only at k0; omega) hk), i4⟩ (by dsimp only; omega) ⟨rfl, rfl, rfl, rfl, trivial⟩ rfl ⟨.int _ _, inn_fn3 (show (4 : Nat) < 5 by decide) (show (1 : Nat) < 5 by decide) (show (3 : Nat) < 5 by decide), .int _ _, .int _ _, trivial⟩ (PS_chk ..)
  obtain rfl : c = b := by omega
  have eN : enN F s g.lo = c := least_eq i2 i3 (fun q => i4 c (Nat.le_refl _) q)
  conv => whnf
  refine .done (by simp) ?_
  repeat' ((conv => whnf); first | (refine .i64 (by omega) (by omega) ?_) | (first | refine condP.dec (fun h => ?_) (fun h => ?_) | refine condP.eq (fun h => ?_) (fun h => ?_) | refine condP.ne (fun h => ?_) (fun h => ?_)) | (refine .i64 (by omega) (by omega) ?_) | (refine onSome.intro (idx_fs rfl rfl (by omega) (by omega) (fun _ => rfl)) ?_) | (refine onSome.intro (load_fs rfl (by omega) (by omega) rfl) ?_) | (refine And.intro rfl ?_))
  all_goals conv => whnf
  exact .intro (.agg [.int .i64 (max 0 ((a : Int) - 1)), .int .i64 c]) (.inl rfl) rfl (frz_eq (by unfold Stg.plate Rg.I rgI; rw [eO, eN]))

theorem r9plate_ok {F : Fam} (hF : F.Ok) {s : Stg} {nt m : Int} (hs : s.Ok nt m) {g : Rg} (hg : g.Ok (-1000000) 1000000) (H : Heap) :
    Ev T (.call (.func (.func 105) [] []) [F.I, s.I, g.I] H) (.call (s.plate F g).I H) := by
  refine run_pure T105 (Rg.I_no _) (nn_cons F.I_no (nn_cons s.I_no (nn_cons g.I_no nn_none))) ?_ H
  obtain ⟨tb0, tb1, su, ld, bi, tp⟩ := hs
  have s0 := su.a
  have s1 := su.b
  have s2 := su.c
  have l0 := ld.a
  have l1 := ld.b
  have l2 := ld.c
  have g0 := hg.a
  have g1 := hg.b
  have g2 := hg.c
  have cut : ∀ m : Nat, (m : Int) ≤ 1000000 → (∀ H, Ev T (.call (.func (.func 160) [] []) [F.I, .int .i64 g.hi, .int .i64 m] H) (.call (.tuple [rgI (F.cLo g.hi m) (F.cHi g.hi m), .int .i64 0]) H)) ∧ (∀ H, Ev T (.call (.func (.func 160) [] []) [F.I, .int .i64 g.lo, .int .i64 m] H) (.call (.tuple [rgI (F.cLo g.lo m) (F.cHi g.lo m), .int .i64 0]) H)) :=
    fun m hm => ⟨r9at_ok hF (by omega) (by omega) (by omega) (by omega), r9at_ok hF (by omega) (by omega) (by omega) (by omega)⟩
  have no : ∀ {S : Nat → Prop}, chkS S [.live 4 [F.R], .live 8 [s.R], .live 2 [g.R], .live 2 [[.int .i64 0, .int .i64 0]]] := ⟨row_inn F.R_no, row_inn s.R_no, row_inn g.R_no, row_inn (by simp [nn_int]), trivial⟩
  repeat' ((conv => whnf); first | (refine And.intro rfl ?_) | (first | refine condP.dec (fun h => ?_) (fun h => ?_) | refine condP.eq (fun h => ?_) (fun h => ?_) | refine condP.ne (fun h => ?_) (fun h => ?_)) | (refine .i64 (by omega) (by omega) ?_) | (refine onSome.intro (idx_fs rfl rfl (by omega) (by omega) (fun _ => rfl)) ?_) | (refine onSome.intro (load_fs rfl (by omega) (by omega) rfl) ?_) | (refine And.intro rfl ?_))
  refine loop_rule (X := Nat × Nat) (fun x => [(3, .ptr 0 0 0), (4, .ptr 1 0 0), (5, .ptr 2 0 0), (6, .ptr 3 0 0), (7, .int .i64 x.1), (8, .int .i64 x.2)]) (fun x => [.live 4 [F.R], .live 8 [s.R], .live 2 [g.R], .live 2 [[.int .i64 0, .int .i64 0]]])
    (fun x => x.2 - x.1) (fun x => x.1 ≤ x.2 ∧ x.2 ≤ s.su.lo.toNat ∧ (x.1 = 0 ∨ ¬ overP F s g.hi x.1) ∧ (∀ m, x.2 < m → m ≤ s.su.lo.toNat → overP F s g.hi m)) (0, s.su.lo.toNat)
    ⟨Nat.zero_le _, Nat.le_refl _, .inl rfl, fun m h h' => absurd h' (by dsimp only at h; omega)⟩ ⟨rfl, rfl, rfl, rfl, rfl, congrArg (IV.int .i64) (by dsimp only; omega), trivial⟩ rfl (fun _ _ => rfl) (fun x hx => ?_)
  obtain ⟨a, b⟩ := x
  obtain ⟨h1, h2, h3, h4⟩ := hx
  dsimp only at h1 h2 h3 h4 ⊢
  conv => whnf
  refine condP.dec (fun h => ?_) (fun h => ?_)
  · obtain ⟨m, hmid⟩ : ∃ m : Nat, ((a : Int) + b + 1).tdiv 2 = m := ⟨(a + b + 1) / 2, by rw [Int.tdiv_eq_ediv_of_nonneg (by omega)]; omega⟩
    have hmb : (a : Int) < m ∧ (m : Int) ≤ b := by rw [Int.tdiv_eq_ediv_of_nonneg (by omega)] at hmid; omega
    have hc := ld_bound hF (l := s.ld.hi) (by omega) l2 g.hi m
    have kA := (cut m (by omega)).1
    conv => whnf
    refine .i64 (by omega) (by omega) ?_
    conv => whnf
    refine .i64 (by omega) (by omega) ?_
    conv => whnf
    rw [hmid]
    refine .i64 (by omega) (by omega) ?_
    repeat' ((conv => whnf); first | (refine CallP.pure kA ?_) | (first | refine condP.dec (fun h => ?_) (fun h => ?_) | refine condP.eq (fun h => ?_) (fun h => ?_) | refine condP.ne (fun h => ?_) (fun h => ?_)) | (refine .i64 (by omega) (by omega) ?_) | (refine onSome.intro (idx_fs rfl rfl (by omega) (by omega) (fun _ => rfl)) ?_) | (refine onSome.intro (load_fs rfl (by omega) (by omega) rfl) ?_) | (refine And.intro rfl ?_))
    all_goals conv => whnf
    · exact .more (m, b) rfl ⟨by dsimp only; omega, by dsimp only; omega, .inr (by show ¬ overP F s g.hi m; unfold overP; omega), h4⟩ (by dsimp only; omega) ⟨rfl, rfl, rfl, rfl, rfl, rfl, trivial⟩ rfl ⟨.ptr _ _ _ (by simp), .ptr _ _ _ (by simp), .ptr _ _ _ (by simp), .ptr _ _ _ (by simp), .int _ _, .int _ _, trivial⟩ no
    · exact .more (a, m - 1) rfl ⟨by dsimp only; omega, by dsimp only; omega, h3, fun k k0 k1 => hF.overUp (by omega) g.hi (show m ≤ k by dsimp only at k0; omega) (by unfold overP; omega)⟩ (by dsimp only; omega) ⟨rfl, rfl, rfl, rfl, rfl, congrArg (IV.int .i64) (by dsimp only; omega), trivial⟩ rfl ⟨.ptr _ _ _ (by simp), .ptr _ _ _ (by simp), .ptr _ _ _ (by simp), .ptr _ _ _ (by simp), .int _ _, .int _ _, trivial⟩ no
  obtain rfl : a = b := by omega
  have eO : max 0 ((overN F s g.hi : Int) - 1) = a := by
    have sp := least_spec (overP F s g.hi) (s.su.lo + 1).toNat
    change max 0 ((least (overP F s g.hi) (s.su.lo + 1).toNat : Int) - 1) = a
    generalize least (overP F s g.hi) (s.su.lo + 1).toNat = o at *
    have q1 : o ≤ a + 1 := by
      rcases Nat.lt_or_ge (a + 1) o with q | q
      · exact absurd (h4 (a + 1) (by omega) (by omega)) (sp.2.1 _ q)
      · exact q
    have q2 : a = 0 ∨ a < o := by
      rcases h3 with q | q
      · exact .inl q
      · right
        rcases Nat.lt_or_ge a o with c | c
        · exact c
        · exact absurd (hF.overUp (by omega) g.hi c (sp.2.2 (by omega))) q
    omega
  conv => whnf
  refine .done (by simp) ?_
  repeat' ((conv => whnf); first | (refine And.intro rfl ?_) | (first | refine condP.dec (fun h => ?_) (fun h => ?_) | refine condP.eq (fun h => ?_) (fun h => ?_) | refine condP.ne (fun h => ?_) (fun h => ?_)) | (refine .i64 (by omega) (by omega) ?_) | (refine onSome.intro (idx_fs rfl rfl (by omega) (by omega) (fun _ => rfl)) ?_) | (refine onSome.intro (load_fs rfl (by omega) (by omega) rfl) ?_) | (refine And.intro rfl ?_))
  refine loop_rule (X := Nat × Nat) (fun x => [(3, .ptr 0 0 0), (4, .ptr 1 0 0), (5, .ptr 2 0 0), (6, .ptr 3 0 0), (7, .int .i64 a), (12, .int .i64 x.1), (13, .int .i64 x.2)]) (fun x => [.live 4 [F.R], .live 8 [s.R], .live 2 [g.R], .live 2 [[.int .i64 0, .int .i64 0]]])
    (fun x => x.2 - x.1) (fun x => x.1 ≤ x.2 ∧ x.2 ≤ s.su.hi.toNat ∧ (∀ m, m < x.1 → ¬ enP F s g.lo m) ∧ (∀ m, x.2 ≤ m → m < s.su.hi.toNat → enP F s g.lo m)) (0, s.su.hi.toNat)
    ⟨Nat.zero_le _, Nat.le_refl _, fun m h => absurd h (Nat.not_lt_zero _), fun m h h' => absurd h' (by dsimp only at h; omega)⟩ ⟨rfl, rfl, rfl, rfl, rfl, rfl, congrArg (IV.int .i64) (by dsimp only; omega), trivial⟩ rfl (fun _ _ => rfl) (fun x hx => ?_)
  obtain ⟨c, b⟩ := x
  obtain ⟨i1, i2, i3, i4⟩ := hx
  dsimp only at i1 i2 i3 i4 ⊢
  conv => whnf
  refine condP.dec (fun h => ?_) (fun h => ?_)
  · obtain ⟨m, hmid⟩ : ∃ m : Nat, ((c : Int) + b).tdiv 2 = m := ⟨(c + b) / 2, by rw [Int.tdiv_eq_ediv_of_nonneg (by omega)]; omega⟩
    have hmb : (c : Int) ≤ m ∧ (m : Int) < b := by rw [Int.tdiv_eq_ediv_of_nonneg (by omega)] at hmid; omega
    have hc := ld_bound hF (l := s.ld.lo) (by omega) (by omega) g.lo m
    have kA := (cut m (by omega)).2
    conv => whnf
    refine .i64 (by omega) (by omega) ?_
    conv => whnf
    rw [hmid]
    refine .i64 (by omega) (by omega) ?_
    repeat' ((conv => whnf); first | (refine CallP.pure kA ?_) | (first | refine condP.dec (fun h => ?_) (fun h => ?_) | refine condP.eq (fun h => ?_) (fun h => ?_) | refine condP.ne (fun h => ?_) (fun h => ?_)) | (refine .i64 (by omega) (by omega) ?_) | (refine onSome.intro (idx_fs rfl rfl (by omega) (by omega) (fun _ => rfl)) ?_) | (refine onSome.intro (load_fs rfl (by omega) (by omega) rfl) ?_) | (refine And.intro rfl ?_))
    all_goals conv => whnf
    · exact .more (c, m) rfl ⟨by dsimp only; omega, by dsimp only; omega, i3, fun k k0 k1 => hF.enUp (by omega) g.lo k0 (by unfold enP; omega)⟩ (by dsimp only; omega) ⟨rfl, rfl, rfl, rfl, rfl, rfl, rfl, trivial⟩ rfl ⟨.ptr _ _ _ (by simp), .ptr _ _ _ (by simp), .ptr _ _ _ (by simp), .ptr _ _ _ (by simp), .int _ _, .int _ _, .int _ _, trivial⟩ no
    · exact .more (m + 1, b) rfl ⟨by dsimp only; omega, i2, fun k k0 hk => (show ¬ enP F s g.lo m by unfold enP; omega) (hF.enUp (by omega) g.lo (by dsimp only at k0; omega) hk), i4⟩ (by dsimp only; omega) ⟨rfl, rfl, rfl, rfl, rfl, rfl, rfl, trivial⟩ rfl ⟨.ptr _ _ _ (by simp), .ptr _ _ _ (by simp), .ptr _ _ _ (by simp), .ptr _ _ _ (by simp), .int _ _, .int _ _, .int _ _, trivial⟩ no
  obtain rfl : c = b := by omega
  have eN : enN F s g.lo = c := least_eq i2 i3 (fun q => i4 c (Nat.le_refl _) q)
  conv => whnf
  refine .done (by simp) ?_
  conv => whnf
  exact .intro (.agg [.int .i64 a, .int .i64 c]) (.inl rfl) rfl (frz_eq (by unfold Stg.plate Rg.I rgI; rw [eO, eN]))

end Go.Proofs.YtlfaglkkeahamaaGreat.I
