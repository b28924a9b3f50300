/- How long a strain takes to come down. -/
import Derived.Test.YtpbadgghhiommaaGref
set_option linter.unusedVariables false
set_option maxHeartbeats 16000000
set_option linter.unusedSimpArgs false
namespace Go.Proofs.Ytpbadgghhiommaa.I
open Go.Ideal

def sLo (z : Zone) (lo : Int) : Nat → Int
  | 0 => lo
  | n + 1 => stepLo z 1 (sLo z lo n) 0
def sHi (z : Zone) (hi : Int) : Nat → Int
  | 0 => hi
  | n + 1 => stepHi z 1 (sHi z hi n) 0
def fstN (f : Nat → Int) (lim : Int) : Nat → Nat → Nat
  | 0, n => n
  | k + 1, n => if f n ≤ lim then n else fstN f lim k (n + 1)
def fst (f : Nat → Int) (lim : Int) : Nat := fstN f lim 5001 0
theorem fstN_facts (f : Nat → Int) (lim : Int) : ∀ k n, n ≤ fstN f lim k n ∧ fstN f lim k n ≤ n + k ∧ (∀ m, n ≤ m → m < fstN f lim k n → lim < f m) ∧ (fstN f lim k n < n + k → f (fstN f lim k n) ≤ lim)
  | 0, n => ⟨Nat.le_refl _, Nat.le_refl _, fun m h1 h2 => by simp only [fstN] at h2; omega, fun h => by simp only [fstN] at h; omega⟩
  | k + 1, n => by
    have ih := fstN_facts f lim k (n + 1)
    simp only [fstN]
    split
    · rename_i h
      exact ⟨Nat.le_refl _, by omega, fun m h1 h2 => by omega, fun _ => h⟩
    · rename_i h
      refine ⟨by omega, by omega, fun m h1 h2 => ?_, fun q => ih.2.2.2 (by omega)⟩
      by_cases c : m = n
      · subst c; omega
      · exact ih.2.2.1 m (by omega) h2
theorem fst_le (f : Nat → Int) (lim : Int) : fst f lim ≤ 5001 := by have := (fstN_facts f lim 5001 0).2.1; unfold fst; omega
theorem fst_lt (f : Nat → Int) (lim : Int) {m : Nat} (h : m < fst f lim) : lim < f m := (fstN_facts f lim 5001 0).2.2.1 m (Nat.zero_le _) h
theorem fst_at (f : Nat → Int) (lim : Int) (h : fst f lim ≤ 5000) : f (fst f lim) ≤ lim := (fstN_facts f lim 5001 0).2.2.2 (by unfold fst at h; omega)
theorem fst_min {f : Nat → Int} {lim : Int} {m : Nat} (h : f m ≤ lim) : fst f lim ≤ m := by
  apply Classical.byContradiction
  intro q
  have := fst_lt f lim (m := m) (by omega)
  omega
theorem fst_iff {f : Nat → Int} {lim : Int} {m : Nat} (h : m ≤ fst f lim) (h1 : m ≤ 5000) : f m ≤ lim ↔ fst f lim = m := by
  constructor
  · intro q; have := fst_min q; omega
  · intro q; rw [← q]; exact fst_at f lim (by omega)

theorem step0_in {z : Zone} (hg : 0 ≤ z.gl ∧ z.gl ≤ z.gh ∧ z.gh ≤ 100000) (hr : 0 ≤ z.rl ∧ z.rl ≤ z.rh ∧ z.rh ≤ 1000000) {lo hi : Int} (hl : 0 ≤ lo) (hl1 : lo ≤ 1099511627776) (hh : 0 ≤ hi) (hh1 : hi ≤ 1099511627776) :
    stepLo z 1 lo 0 = lo - up (lo * z.rh) 1000000 ∧ stepHi z 1 hi 0 = hi - hi * z.rl / 1000000 ∧ 0 ≤ up (lo * z.rh) 1000000 ∧ up (lo * z.rh) 1000000 ≤ lo ∧ 0 ≤ hi * z.rl / 1000000 ∧ hi * z.rl / 1000000 ≤ hi := by
  have sf := step_facts hg hr (k := 1) (by omega) (by omega) hl hl1 hh hh1 (y := 0) (by omega) (by omega)
  obtain ⟨f1, f2, f3, f4, f5, f6, f7, f8, f9⟩ := sf
  have e1 : (0 : Int) * 1 * z.gl / 100 = 0 := by simp
  have e2 : up ((0 : Int) * 1 * z.gh) 100 = 0 := by simp [up]
  unfold stepLo stepHi
  rw [e1, e2]
  refine ⟨?_, ?_, f8.1, f8.2, f9.1, f9.2⟩ <;> omega
theorem s_in {z : Zone} (hg : 0 ≤ z.gl ∧ z.gl ≤ z.gh ∧ z.gh ≤ 100000) (hr : 0 ≤ z.rl ∧ z.rl ≤ z.rh ∧ z.rh ≤ 1000000) {lo hi : Int} (hl : 0 ≤ lo) (hl1 : lo ≤ 1099511627776) (hh : 0 ≤ hi) (hh1 : hi ≤ 1099511627776) : ∀ n, 0 ≤ sLo z lo n ∧ sLo z lo n ≤ 1099511627776 ∧ 0 ≤ sHi z hi n ∧ sHi z hi n ≤ 1099511627776
  | 0 => ⟨hl, hl1, hh, hh1⟩
  | n + 1 => by
    have ih := s_in hg hr hl hl1 hh hh1 n
    have := step0_in hg hr ih.1 ih.2.1 ih.2.2.1 ih.2.2.2
    rw [sLo, sHi, this.1, this.2.1]
    omega
/-- What is left by a rate is not less of more. -/
theorem left_lo {a b r : Int} (hab : a ≤ b) (hr : 0 ≤ r) (hr1 : r ≤ 1000000) : a - up (a * r) 1000000 ≤ b - up (b * r) 1000000 := by
  have h1 := up_ge (a * r) (d := 1000000) (by omega)
  have h2 := up_lt (b * r) (d := 1000000) (by omega)
  have h3 : b * r - a * r ≤ (b - a) * 1000000 := by
    rw [← Int.sub_mul]; exact Int.mul_le_mul_of_nonneg_left hr1 (by omega)
  omega
theorem left_hi {a b r : Int} (hab : a ≤ b) (hr : 0 ≤ r) (hr1 : r ≤ 1000000) : a - a * r / 1000000 ≤ b - b * r / 1000000 := by
  have h3 : b * r - a * r ≤ (b - a) * 1000000 := by
    rw [← Int.sub_mul]; exact Int.mul_le_mul_of_nonneg_left hr1 (by omega)
  omega
theorem loss_le {a r q : Int} (ha : 0 ≤ a) (hrq : r ≤ q) : a * r / 1000000 ≤ up (a * q) 1000000 := by
  have h1 := up_ge (a * q) (d := 1000000) (by omega)
  have : a * r ≤ a * q := Int.mul_le_mul_of_nonneg_left hrq ha
  omega
theorem s_le {z : Zone} (hg : 0 ≤ z.gl ∧ z.gl ≤ z.gh ∧ z.gh ≤ 100000) (hr : 0 ≤ z.rl ∧ z.rl ≤ z.rh ∧ z.rh ≤ 1000000) {lo hi : Int} (hl : 0 ≤ lo) (hlh : lo ≤ hi) (hh1 : hi ≤ 1099511627776) : ∀ n, sLo z lo n ≤ sHi z hi n
  | 0 => hlh
  | n + 1 => by
    have ih := s_le hg hr hl hlh hh1 n
    have b := s_in hg hr hl (by omega) (show 0 ≤ hi by omega) hh1 n
    have := step0_in hg hr b.1 b.2.1 b.2.2.1 b.2.2.2
    rw [sLo, sHi, this.1, this.2.1]
    have h1 := loss_le (a := sLo z lo n) b.1 (show z.rl ≤ z.rh by omega)
    have h2 := left_hi ih hr.1 (show z.rl ≤ 1000000 by omega)
    omega
theorem fst_lohi {z : Zone} (hg : 0 ≤ z.gl ∧ z.gl ≤ z.gh ∧ z.gh ≤ 100000) (hr : 0 ≤ z.rl ∧ z.rl ≤ z.rh ∧ z.rh ≤ 1000000) {lo hi : Int} (hl : 0 ≤ lo) (hlh : lo ≤ hi) (hh1 : hi ≤ 1099511627776) (lim : Int) : fst (sLo z lo) lim ≤ fst (sHi z hi) lim := by
  by_cases q : fst (sHi z hi) lim ≤ 5000
  · have h1 := fst_at _ _ q
    exact fst_min (by have := s_le hg hr hl hlh hh1 (fst (sHi z hi) lim); omega)
  · have h1 := fst_le (sLo z lo) lim
    have h2 := fst_le (sHi z hi) lim
    omega

def soakE (b : Int) (zs : List Zone) (lo hi t lim : Int) : Int := if checkE b zs ≠ 0 then checkE b zs else if rangeE lo hi 1099511627776 ≠ 0 then rangeE lo hi 1099511627776 else if Outs t 2000 ∨ Outs lim 1099511627776 then 2 else 0
def soakLo (zs : List Zone) (lo t lim : Int) : Int := fst (sLo (zoneOf zs t) lo) lim
def soakHi (zs : List Zone) (hi t lim : Int) : Int := fst (sHi (zoneOf zs t) hi) lim

theorem Soak_ok (b : Int) (zs : List Zone) (hz : zs.length ≤ 9000000000000000000) (lo hi t lim : Int) (H : Heap) : Ev T (.call (.func (.func 54) [] []) [stuffI b zs, rgI lo hi, .int .i64 t, .int .i64 lim] H)
    (.call (errRg (soakE b zs lo hi t lim) (zif (soakE b zs lo hi t lim) (soakLo zs lo t lim)) (zif (soakE b zs lo hi t lim) (soakHi zs hi t lim))) H) := by
  refine run_pure T54 (errRg_no _ _ _) (nn_cons (stuffI_no _ _) (nn_cons (rgI_no _ _) (nn_cons (nn_int _ _) (nn_cons (nn_int _ _) nn_none)))) ?_ H
  have k1 := Check_ok b zs hz
  have kz : checkE b zs = 0 → ZOk zs := fun q => (check_zero q).2
  have k2 := checkRange_ok lo hi 1099511627776
  have kr : rangeE lo hi 1099511627776 = 0 → 0 ≤ lo ∧ lo ≤ hi ∧ hi ≤ 1099511627776 := rangeE_zero
  have hx : ∃ e, e = soakE b zs lo hi t lim := ⟨_, rfl⟩
  obtain ⟨e, he⟩ := hx
  rw [← he]
  unfold soakE Outs at he
  generalize checkE b zs = c at *
  generalize rangeE lo hi 1099511627776 = d at *
  have z1 : e ≠ 0 → ∀ n, zif e n = 0 := fun h n => if_neg h
  repeat' ((conv => whnf); first | (refine CallP.pure k1 ?_) | (refine CallP.pure k2 ?_) | (refine CallP.dec (outside_ok _ _) (fun h => ?_) (fun h => ?_)) | (first | refine condP.dec (fun h => ?_) (fun h => ?_) | refine condP.eq (fun h => ?_) (fun h => ?_) | refine condP.ne (fun h => ?_) (fun h => ?_)) | (refine .i64 (by omega) (by omega) ?_) | (refine onSome.intro (idx_fs rfl rfl (by omega) (by omega) (fun _ => rfl)) ?_) | (refine onSome.intro (load_fs rfl (by omega) (by omega) rfl) ?_) | (refine And.intro rfl ?_))
  all_goals unfold Outs at *
  all_goals first | (exfalso; omega) | skip
  all_goals conv => whnf
  all_goals first
    | (rw [if_pos (by omega)] at he
       exact .intro (errRg e 0 0) (.inl rfl) (by rw [he]; rfl) (frz_eq (by rw [z1 (by omega), z1 (by omega)])))
    | (rw [if_neg (by omega), if_pos (by omega)] at he
       exact .intro (errRg e 0 0) (.inl rfl) (by rw [he]; rfl) (frz_eq (by rw [z1 (by omega), z1 (by omega)])))
    | (rw [if_neg (by omega), if_neg (by omega), if_pos (by omega)] at he
       exact .intro (errRg e 0 0) (.inl rfl) (by rw [he]; rfl) (frz_eq (by rw [z1 (by omega), z1 (by omega)])))
    | skip
  have kz := kz (by omega)
  have kr := kr (by omega)
  rw [if_neg (by omega), if_neg (by omega), if_neg (by omega)] at he
  subst he
  have hg := zoneOf_gr kz t
  have hr := zoneOf_re kz t
  have kst := fun lo hi h1 h2 h3 h4 => step_ok b zs kz 1 lo hi t 0 (by omega) (by omega) h1 h2 h3 h4 (by omega) (by omega)
  have fl := fst_le (sLo (zoneOf zs t) lo) lim
  have fh := fst_le (sHi (zoneOf zs t) hi) lim
  have flh := fst_lohi hg hr kr.1 kr.2.1 kr.2.2 lim
  have il : ∀ n, n ≤ fst (sLo (zoneOf zs t) lo) lim → n ≤ 5000 → (sLo (zoneOf zs t) lo n ≤ lim ↔ fst (sLo (zoneOf zs t) lo) lim = n) := fun n h h1 => fst_iff h h1
  have ih : ∀ n, n ≤ fst (sHi (zoneOf zs t) hi) lim → n ≤ 5000 → (sHi (zoneOf zs t) hi n ≤ lim ↔ fst (sHi (zoneOf zs t) hi) lim = n) := fun n h h1 => fst_iff h h1
  have ill : ∀ n, fst (sLo (zoneOf zs t) lo) lim < n → n ≤ 5000 → True := fun _ _ _ => trivial
  have sn := s_in hg hr kr.1 (show lo ≤ 1099511627776 by omega) (show 0 ≤ hi by omega) kr.2.2
  have sl : ∀ n, sLo (zoneOf zs t) lo (n + 1) = stepLo (zoneOf zs t) 1 (sLo (zoneOf zs t) lo n) 0 := fun _ => rfl
  have sh : ∀ n, sHi (zoneOf zs t) hi (n + 1) = stepHi (zoneOf zs t) 1 (sHi (zoneOf zs t) hi n) 0 := fun _ => rfl
  have z0 : sLo (zoneOf zs t) lo 0 = lo := rfl
  have z1 : sHi (zoneOf zs t) hi 0 = hi := rfl
  unfold soakLo soakHi
  generalize sLo (zoneOf zs t) lo = S at *
  generalize sHi (zoneOf zs t) hi = U at *
  generalize fst S lim = FL at *
  generalize fst U lim = FH at *
  generalize zoneOf zs t = z at *
  refine loop_rule (X := Nat × Int × Int) (fun q => [(2, .int .i64 t), (3, .int .i64 lim), (4, .ptr 0 0 0), (5, .ptr 1 0 0), (8, .ptr 2 0 0), (12, .ptr 3 0 0), (13, .int .i64 q.1)])
    (fun q => [.live 2 [[.int .i64 b, zsl zs]], .live 2 [[.int .i64 (S q.1), .int .i64 (U q.1)]], .live 2 [[.int .i64 0, .int .i64 0]], .live 2 [[.int .i64 q.2.1, .int .i64 q.2.2]]])
    (fun q => 5001 - q.1) (fun q => q.1 ≤ 5001 ∧ q.1 ≤ FH + 1 ∧ (q.2.1 = if FL < q.1 then (FL : Int) else 5001) ∧ (q.2.2 = if FH < q.1 then (FH : Int) else 5001)) (0, 5001, 5001) ⟨by decide, by dsimp only; omega, by dsimp only; rw [if_neg (by omega)], by dsimp only; rw [if_neg (by omega)]⟩
    ⟨rfl, rfl, rfl, rfl, rfl, rfl, rfl, trivial⟩ (by dsimp only; rw [z0, z1]; rfl) (fun _ _ => rfl) (fun q hq => ?_)
  obtain ⟨n, x, y⟩ := q
  have h1 := hq.1
  have h2 := hq.2.1
  have h3 := hq.2.2.1
  have h4 := hq.2.2.2
  dsimp only at h1 h2 h3 h4 ⊢
  have sn := sn n
  have kst := kst (S n) (U n) sn.1 sn.2.1 sn.2.2.1 sn.2.2.2
  rw [← sl, ← sh] at kst
  have il := il n
  have ih := ih n
  have chk : ∀ n' x' y', chkI (fun b => b < 4) [(2, .int .i64 t), (3, .int .i64 lim), (4, .ptr 0 0 0), (5, .ptr 1 0 0), (8, .ptr 2 0 0), (12, .ptr 3 0 0), (13, .int .i64 n')] ∧ chkS (fun b => b < 4) [.live 2 [[.int .i64 b, zsl zs]], .live 2 [[.int .i64 (S (n + 1)), .int .i64 (U (n + 1))]], .live 2 [[.int .i64 0, .int .i64 0]], .live 2 [[.int .i64 x', .int .i64 y']]] :=
    fun n' x' y' => ⟨⟨.int _ _, .int _ _, .ptr _ _ _ (by omega), .ptr _ _ _ (by omega), .ptr _ _ _ (by omega), .ptr _ _ _ (by omega), .int _ _, trivial⟩, row_inn (stuff_row _ _), row_inn (rg_row _ _), row_inn (rg_row _ _), row_inn (rg_row _ _), trivial⟩
  by_cases hgo : n ≤ 5000 ∧ 5000 < y
  · have hn : ¬ FH < n := fun q => by rw [if_pos q] at h4; omega
    rw [if_neg hn] at h4
    have a1 : FL < n → x = FL := fun q => by rw [if_pos q] at h3; exact h3
    have a2 : ¬ FL < n → x = 5001 := fun q => by rw [if_neg q] at h3; exact h3
    have mk : ∀ x' y' : Int, (FL < n + 1 → x' = FL) → (¬ FL < n + 1 → x' = 5001) → (FH < n + 1 → y' = FH) → (¬ FH < n + 1 → y' = 5001) → n + 1 ≤ 5001 ∧ n + 1 ≤ FH + 1 ∧ (x' = if FL < n + 1 then (FL : Int) else 5001) ∧ (y' = if FH < n + 1 then (FH : Int) else 5001) := by
      intro x' y' q1 q2 q3 q4
      refine ⟨by omega, by omega, ?_, ?_⟩
      · split
        · exact q1 (by assumption)
        · exact q2 (by assumption)
      · split
        · exact q3 (by assumption)
        · exact q4 (by assumption)
    by_cases c1 : S n ≤ lim
    · by_cases c2 : U n ≤ lim
      · have := mk (min x n) n (by omega) (by omega) (by omega) (by omega)
        repeat' ((conv => whnf); first | (refine CallP.pure kst ?_) | (first | refine condP.dec (fun h => ?_) (fun h => ?_) | refine condP.eq (fun h => ?_) (fun h => ?_) | refine condP.ne (fun h => ?_) (fun h => ?_)) | (refine .i64 (by omega) (by omega) ?_) | (refine onSome.intro (idx_fs rfl rfl (by omega) (by omega) (fun _ => rfl)) ?_) | (refine onSome.intro (load_fs rfl (by omega) (by omega) rfl) ?_) | (refine And.intro rfl ?_))
        all_goals first | (exfalso; omega) | skip
        all_goals conv => whnf
        exact .more (n + 1, min x n, (n : Int)) rfl this (by dsimp only; omega) ⟨rfl, rfl, rfl, rfl, rfl, rfl, rfl, trivial⟩ rfl (chk _ 0 0).1 (chk 0 _ _).2
      · have := mk (min x n) y (by omega) (by omega) (by omega) (by omega)
        repeat' ((conv => whnf); first | (refine CallP.pure kst ?_) | (first | refine condP.dec (fun h => ?_) (fun h => ?_) | refine condP.eq (fun h => ?_) (fun h => ?_) | refine condP.ne (fun h => ?_) (fun h => ?_)) | (refine .i64 (by omega) (by omega) ?_) | (refine onSome.intro (idx_fs rfl rfl (by omega) (by omega) (fun _ => rfl)) ?_) | (refine onSome.intro (load_fs rfl (by omega) (by omega) rfl) ?_) | (refine And.intro rfl ?_))
        all_goals first | (exfalso; omega) | skip
        all_goals conv => whnf
        exact .more (n + 1, min x n, y) rfl this (by dsimp only; omega) ⟨rfl, rfl, rfl, rfl, rfl, rfl, rfl, trivial⟩ rfl (chk _ 0 0).1 (chk 0 _ _).2
    · by_cases c2 : U n ≤ lim
      · have := mk x n (by omega) (by omega) (by omega) (by omega)
        repeat' ((conv => whnf); first | (refine CallP.pure kst ?_) | (first | refine condP.dec (fun h => ?_) (fun h => ?_) | refine condP.eq (fun h => ?_) (fun h => ?_) | refine condP.ne (fun h => ?_) (fun h => ?_)) | (refine .i64 (by omega) (by omega) ?_) | (refine onSome.intro (idx_fs rfl rfl (by omega) (by omega) (fun _ => rfl)) ?_) | (refine onSome.intro (load_fs rfl (by omega) (by omega) rfl) ?_) | (refine And.intro rfl ?_))
        all_goals first | (exfalso; omega) | skip
        all_goals conv => whnf
        exact .more (n + 1, x, (n : Int)) rfl this (by dsimp only; omega) ⟨rfl, rfl, rfl, rfl, rfl, rfl, rfl, trivial⟩ rfl (chk _ 0 0).1 (chk 0 _ _).2
      · have := mk x y (by omega) (by omega) (by omega) (by omega)
        repeat' ((conv => whnf); first | (refine CallP.pure kst ?_) | (first | refine condP.dec (fun h => ?_) (fun h => ?_) | refine condP.eq (fun h => ?_) (fun h => ?_) | refine condP.ne (fun h => ?_) (fun h => ?_)) | (refine .i64 (by omega) (by omega) ?_) | (refine onSome.intro (idx_fs rfl rfl (by omega) (by omega) (fun _ => rfl)) ?_) | (refine onSome.intro (load_fs rfl (by omega) (by omega) rfl) ?_) | (refine And.intro rfl ?_))
        all_goals first | (exfalso; omega) | skip
        all_goals conv => whnf
        exact .more (n + 1, x, y) rfl this (by dsimp only; omega) ⟨rfl, rfl, rfl, rfl, rfl, rfl, rfl, trivial⟩ rfl (chk _ 0 0).1 (chk 0 _ _).2
  · have e1 : y = FH := by
      rw [h4]
      split
      · rfl
      · rename_i q; rw [if_neg q] at h4; omega
    have e2 : x = FL := by
      rw [h3]
      split
      · rfl
      · rename_i q
        have : ¬ FH < n := by omega
        rw [if_neg this] at h4
        omega
    subst e1
    subst e2
    repeat' ((conv => whnf); first | (refine CallP.pure kst ?_) | (first | refine condP.dec (fun h => ?_) (fun h => ?_) | refine condP.eq (fun h => ?_) (fun h => ?_) | refine condP.ne (fun h => ?_) (fun h => ?_)) | (refine .i64 (by omega) (by omega) ?_) | (refine onSome.intro (idx_fs rfl rfl (by omega) (by omega) (fun _ => rfl)) ?_) | (refine onSome.intro (load_fs rfl (by omega) (by omega) rfl) ?_) | (refine And.intro rfl ?_))
    all_goals first | (exfalso; omega) | skip
    all_goals refine .done (by simp) ?_
    all_goals conv => whnf
    all_goals exact .intro (errRg 0 FL FH) (.inl rfl) rfl (.refl _)

end Go.Proofs.Ytpbadgghhiommaa.I
