/- What the functions of the claim compute, and that it is as the claim says: part 6 of 6. -/
import Derived.Test.YtbomgfbfnkfamaaCCurveLines4
import Derived.Test.YtbomgfbfnkfamaaCCurveLinesWWords
import Derived.Test.YtbomgfbfnkfamaaCCurveLinesWMore
import Derived.OpenShut
import Derived.Test.YtbomgfbfnkfamaaRows
import Derived.WalkKit
import Derived.ProofKit
import Derived.ShutString
import Derived.ChangeOld
import Derived.Below
import Derived.SizedLaws
import Derived.Test.YtbomgfbfnkfamaaCCurveLinesWSized
section
set_option linter.unusedVariables false
namespace Go.Proofs.Ytbomgfbfnkfamaa.Mp
open Go.RowKit Go.Proofs.YtbomgfbfnkfamaaW.PrintWords Go.Proofs.YtbomgfbfnkfamaaW.PrintMore Go.Proofs.Ytbomgfbfnkfamaa.PAll

theorem floor_f {n d : Int} (hd : 0 < d) (h0 : -9000000000000000000 ≤ n) (h1 : n ≤ 9000000000000000000) : curve_floor.f n d = some (n / d) := by
  have a := tdiv_bounds hd h0 h1
  have b := tdiv_mul_bounds hd h0 h1
  unfold curve_floor.f
  rw [if_neg (by omega), wrap64_id (x := Int.tdiv n d) (by omega) (by omega), wrap64_id (x := Int.tdiv n d * d) (by omega) (by omega), tdiv_floor hd, wrap64_id (by omega) (by omega)]
  split <;> rfl
theorem ceil_f {n d : Int} (hd : 0 < d) (h0 : -9000000000000000000 ≤ n) (h1 : n ≤ 9000000000000000000) : curve_ceil.f n d = some (up n d) := by
  have a := tdiv_bounds hd h0 h1
  have b := tdiv_mul_bounds hd h0 h1
  have e := tdiv_floor (n := -n) hd
  rw [Int.neg_tdiv, Int.neg_mul] at e
  unfold curve_ceil.f up
  rw [if_neg (by omega), wrap64_id (x := Int.tdiv n d) (by omega) (by omega), wrap64_id (x := Int.tdiv n d * d) (by omega) (by omega), e, wrap64_id (by omega) (by omega)]
  by_cases h : Int.tdiv n d * d < n
  · rw [if_pos h, if_pos (by omega)]; congr 1; omega
  · rw [if_neg h, if_neg (by omega)]; congr 1; omega
/-- A drive within its bounds. -/
def clamp (n : Int) : Int := if n < 0 then 0 else if 1000000 < n then 1000000 else n
theorem clamp_bounds (n : Int) : 0 ≤ clamp n ∧ clamp n ≤ 1000000 := by unfold clamp; split <;> (try split) <;> omega
theorem clamp_mono {a b : Int} (h : a ≤ b) : clamp a ≤ clamp b := by unfold clamp; split <;> split <;> (try split) <;> (try split) <;> omega
theorem brought_f (n : Int) : curve_brought.f n = some (clamp n) := by
  unfold curve_brought.f mx mn clamp; congr 1
  split <;> split <;> (try split) <;> (try split) <;> omega

/-- A law of right numbers. -/
structure LawOk (p0 p1 g0 g1 s0 s1 f0 f1 q0 q1 : Int) : Prop where
  p : 0 ≤ p0 ∧ p0 ≤ p1 ∧ p1 ≤ 1000000
  g : 1 ≤ g0 ∧ g0 ≤ g1 ∧ g1 ≤ 1000000
  s : -1000000 ≤ s0 ∧ s0 ≤ s1 ∧ s1 ≤ 1000000
  f : 0 ≤ f0 ∧ f0 ≤ f1 ∧ f1 ≤ 1000000
  q : 0 ≤ q0 ∧ q0 ≤ q1 ∧ q1 ≤ 1000000
def Volts (grid plate : Int) : Prop := -1000000 ≤ grid ∧ grid ≤ 1000000 ∧ 0 ≤ plate ∧ plate ≤ 1000000
def dLo (g1 s0 grid plate : Int) : Int := clamp (grid + s0 + 1000 * plate / g1)
def dHi (g0 s1 grid plate : Int) : Int := clamp (grid + s1 + up (1000 * plate) g0)
theorem quot_bounds {plate g : Int} (hg : 1 ≤ g) (h0 : 0 ≤ plate) (h1 : plate ≤ 1000000) : 0 ≤ 1000 * plate / g ∧ 1000 * plate / g ≤ 1000000000 ∧ 0 ≤ up (1000 * plate) g ∧ up (1000 * plate) g ≤ 1000000000 := by
  have a := Int.ediv_nonneg (show 0 ≤ 1000 * plate by omega) (show 0 ≤ g by omega)
  have b := Int.ediv_le_self (a := 1000 * plate) g (by omega)
  have c := down_le_up (1000 * plate) (show 0 < g by omega)
  have d : up (1000 * plate) g ≤ 1000 * plate := (up_le (show 0 < g by omega)).2 (by
    have := Int.mul_le_mul_of_nonneg_left hg (show 0 ≤ 1000 * plate by omega); omega)
  omega
theorem drive_f {p0 p1 g0 g1 s0 s1 f0 f1 q0 q1 grid plate : Int} (h : LawOk p0 p1 g0 g1 s0 s1 f0 f1 q0 q1) (hv : Volts grid plate) :
    curve_drive.f p0 p1 g0 g1 s0 s1 f0 f1 q0 q1 grid plate = some (dLo g1 s0 grid plate, dHi g0 s1 grid plate) := by
  obtain ⟨h1, h2, h3, h4⟩ := hv
  obtain ⟨_, hg, hs, _, _⟩ := h
  have b1 := quot_bounds (g := g1) (by omega) h3 h4
  have b0 := quot_bounds (g := g0) (by omega) h3 h4
  unfold curve_drive.f
  rw [wrap64_id (x := 1000 * plate) (by omega) (by omega), floor_f (by omega) (by omega) (by omega), ceil_f (by omega) (by omega) (by omega)]
  simp only [Option.bind_some, brought_f]
  rw [wrap64_id (x := grid + s0) (by omega) (by omega), wrap64_id (x := grid + s1) (by omega) (by omega), wrap64_id (by omega) (by omega), wrap64_id (by omega) (by omega)]
  rfl

/-! ### roots -/
theorem cube_bounds {n : Int} (h0 : 0 ≤ n) (h1 : n ≤ 1000000) : 0 ≤ n * n ∧ n * n ≤ 1000000000000 ∧ 0 ≤ n * n * n ∧ n * n * n ≤ 1000000000000000000 := by
  have a := Int.mul_nonneg h0 h0
  have b : n * n ≤ 1000000 * 1000000 := Int.mul_le_mul h1 h1 h0 (by omega)
  have c := Int.mul_nonneg a h0
  have d : n * n * n ≤ 1000000000000 * 1000000 := Int.mul_le_mul (by omega) h1 h0 (by omega)
  omega
theorem cube_mono {a b : Int} (h0 : 0 ≤ a) (h : a ≤ b) : a * a * a ≤ b * b * b :=
  Int.mul_le_mul (sq_le h0 h) h h0 (Int.mul_nonneg (by omega) (by omega))
theorem newton_loop (x : Int) (hx : 0 < x) (hx1 : x ≤ 1000000000000000000) (d : Nat) : ∀ (r : Int), 0 < r → r ≤ 4294967296 → r.toNat ≤ d → x < (r + 1) * (r + 1) →
    ∃ s, IsRoot s x ∧ ∀ k, d < k → curve_cubed.l0 k x r = some (s, decide (s * s = x)) := by
  induction d with
  | zero => intro r h0 _ h; omega
  | succ d ih =>
    intro r h0 h1 hd hr
    have hq := Int.ediv_nonneg (show 0 ≤ x by omega) (show 0 ≤ r by omega)
    have hq1 := Int.ediv_le_self (a := x) r (by omega)
    have e1 : Int.tdiv x r = x / r := Int.tdiv_eq_ediv_of_nonneg (by omega)
    have e2 : wrap64 (x / r) = x / r := wrap64_id (by omega) (by omega)
    have e3 : wrap64 (r + x / r) = r + x / r := wrap64_id (by omega) (by omega)
    have e4 : Int.tdiv (r + x / r) 2 = (r + x / r) / 2 := Int.tdiv_eq_ediv_of_nonneg (by omega)
    have e5 : wrap64 ((r + x / r) / 2) = (r + x / r) / 2 := wrap64_id (by omega) (by omega)
    have hn := newton_above h0 (show 0 ≤ x by omega)
    by_cases hge : r ≤ (r + x / r) / 2
    · have hrr := newton_ends h0 hge
      refine ⟨r, ⟨by omega, hrr, hr⟩, fun k hk => ?_⟩
      obtain ⟨k, rfl⟩ : ∃ m, k = m + 1 := ⟨k - 1, by omega⟩
      simp only [curve_cubed.l0]
      rw [if_neg (by omega), e1, e2, e3, e4, e5, if_pos hge, wrap64_id (x := r * r) (by have := Int.mul_nonneg (show 0 ≤ r by omega) (show 0 ≤ r by omega); omega) (by omega)]
      congr 2
    · have hpos : 0 < (r + x / r) / 2 := by
        by_cases hz : 0 < (r + x / r) / 2
        · exact hz
        · have hz' : (r + x / r) / 2 = 0 := by omega
          rw [hz'] at hn; omega
      obtain ⟨s, hs, hk⟩ := ih ((r + x / r) / 2) hpos (by omega) (by omega) hn
      refine ⟨s, hs, fun k hk' => ?_⟩
      obtain ⟨k, rfl⟩ : ∃ m, k = m + 1 := ⟨k - 1, by omega⟩
      simp only [curve_cubed.l0]
      rw [if_neg (by omega), e1, e2, e3, e4, e5, if_neg (by omega)]
      exact hk k (by omega)

/-! ### how many binary digits a number has -/
theorem pow_shift (a : Nat) (t : Int) (h : 0 ≤ t) : (2 : Int) ^ (t + (a : Int)).toNat = 2 ^ a * 2 ^ t.toNat := by
  rw [show (t + (a : Int)).toNat = a + t.toNat by omega, Int.pow_add]
theorem len32_ok {x n : Int} (h0 : 0 ≤ x) (h1 : x < 4294967296) : ∃ r, len32 x n = n + r ∧ 0 ≤ r ∧ r ≤ 32 ∧ x < 2 ^ r.toNat := by
  unfold len32
  by_cases c1 : 65536 ≤ x
  · rw [if_pos c1]
    by_cases c2 : 256 ≤ x / 65536
    · obtain ⟨b1, b2, b3⟩ := lt8_at (v := x / 65536 / 256) (by omega) (by omega)
      rw [if_pos c2]
      generalize lt8 (x / 65536 / 256) = t at *
      refine ⟨t + 24, by omega, by omega, by omega, ?_⟩
      rw [show t + 24 = t + ((24 : Nat) : Int) by omega, pow_shift 24 t b2]
      generalize (2 : Int) ^ t.toNat = P at *; omega
    · obtain ⟨b1, b2, b3⟩ := lt8_at (v := x / 65536) (by omega) (by omega)
      rw [if_neg c2]
      generalize lt8 (x / 65536) = t at *
      refine ⟨t + 16, by omega, by omega, by omega, ?_⟩
      rw [show t + 16 = t + ((16 : Nat) : Int) by omega, pow_shift 16 t b2]
      generalize (2 : Int) ^ t.toNat = P at *; omega
  · rw [if_neg c1]
    by_cases c2 : 256 ≤ x
    · obtain ⟨b1, b2, b3⟩ := lt8_at (v := x / 256) (by omega) (by omega)
      rw [if_pos c2]
      generalize lt8 (x / 256) = t at *
      refine ⟨t + 8, by omega, by omega, by omega, ?_⟩
      rw [show t + 8 = t + ((8 : Nat) : Int) by omega, pow_shift 8 t b2]
      generalize (2 : Int) ^ t.toNat = P at *; omega
    · obtain ⟨b1, b2, b3⟩ := lt8_at (v := x) (by omega) (by omega)
      rw [if_neg c2]
      exact ⟨lt8 x, rfl, by omega, by omega, b3⟩
theorem len_f {x : Int} (h0 : 0 ≤ x) (h1 : x < 18446744073709551616) : ∃ r, bits_Len.f x = some r ∧ 0 ≤ r ∧ r ≤ 64 ∧ x < 2 ^ r.toNat := by
  unfold bits_Len.f bits_Len64.f
  rw [if_pos ⟨h0, h1⟩]
  by_cases c : 4294967296 ≤ x
  · obtain ⟨r, e, b0, b1, b2⟩ := len32_ok (x := x / 4294967296) (n := 32) (by omega) (by omega)
    rw [if_pos c, e]
    refine ⟨32 + r, rfl, by omega, by omega, ?_⟩
    rw [show 32 + r = r + ((32 : Nat) : Int) by omega, pow_shift 32 r b0]
    generalize (2 : Int) ^ r.toNat = P at *; omega
  · obtain ⟨r, e, b0, b1, b2⟩ := len32_ok (x := x) (n := 0) h0 (by omega)
    rw [if_neg c, e]
    exact ⟨0 + r, rfl, by omega, by omega, by rw [Int.zero_add]; exact b2⟩
/-- The root of a cube, rounded down, and whether it is exact. -/
theorem cubed_f {n : Int} (h0 : 0 ≤ n) (h1 : n ≤ 1000000) : ∃ r, IsRoot r (n * n * n) ∧ ∃ K, ∀ k, K ≤ k → curve_cubed.f k n = some (r, decide (r * r = n * n * n)) := by
  obtain ⟨b1, b2, b3, b4⟩ := cube_bounds h0 h1
  have e1 : wrap64 (n * n) = n * n := wrap64_id (by omega) (by omega)
  have e2 : wrap64 (n * n * n) = n * n * n := wrap64_id (by omega) (by omega)
  by_cases hz : n * n * n = 0
  · exact ⟨0, ⟨by omega, by omega, by omega⟩, 0, fun k _ => by unfold curve_cubed.f; rw [e1, e2, if_pos hz, hz]; rfl⟩
  · have hu : IntKind.u64.wrap (n * n * n) = n * n * n := by rw [IntKind.wrap_u64]; omega
    obtain ⟨t, ht, t0, t1, t2⟩ := len_f (x := n * n * n) b3 (by omega)
    have m1 : wrap64 (Int.tdiv (wrap64 (t + 1)) 2) = (t + 1) / 2 := by
      rw [wrap64_id (x := t + 1) (by omega) (by omega), Int.tdiv_eq_ediv_of_nonneg (by omega), wrap64_id (by omega) (by omega)]
    obtain ⟨m, hm⟩ : ∃ m : Nat, ((m : Nat) : Int) = (t + 1) / 2 := ⟨((t + 1) / 2).toNat, by omega⟩
    have hm32 : m ≤ 32 := by omega
    have hP : (2 : Int) ^ m ≤ 4294967296 := by
      have := Nat.pow_le_pow_right (show 0 < 2 by omega) hm32
      have h2 : ((2 ^ m : Nat) : Int) ≤ ((2 ^ 32 : Nat) : Int) := Int.ofNat_le.2 this
      simpa using h2
    have hP0 : 0 < (2 : Int) ^ m := Int.pow_pos (by omega)
    have hs : shl .i64 1 ((t + 1) / 2) = 2 ^ m := by
      unfold shl
      rw [← hm, Int.one_mul, show min (((m : Nat) : Int)).toNat (IntKind.i64).bits = m by simp [IntKind.bits]; omega, IntKind.wrap_i64]
      omega
    have hx : n * n * n < ((2 : Int) ^ m + 1) * (2 ^ m + 1) := by
      have h1 : (2 : Int) ^ t.toNat ≤ 2 ^ (m + m) := by
        have := Nat.pow_le_pow_right (show 0 < 2 by omega) (show t.toNat ≤ m + m by omega)
        have h2 : ((2 ^ t.toNat : Nat) : Int) ≤ ((2 ^ (m + m) : Nat) : Int) := Int.ofNat_le.2 this
        simpa using h2
      rw [Int.pow_add] at h1
      generalize (2 : Int) ^ m = P at *
      have h3 : (P + 1) * (P + 1) = P * P + 2 * P + 1 := by grind
      omega
    obtain ⟨s, hs1, hs2⟩ := newton_loop (n * n * n) (by omega) b4 (2 ^ m : Int).toNat (2 ^ m) hP0 hP (Nat.le_refl _) hx
    refine ⟨s, hs1, (2 ^ m : Int).toNat + 1, fun k hk => ?_⟩
    obtain ⟨k, rfl⟩ : ∃ j, k = j + 1 := ⟨k - 1, by omega⟩
    unfold curve_cubed.f
    rw [e1, e2, if_neg hz, hu, ht]
    simp only [Option.bind_some]
    rw [m1, if_pos (by omega), hs]
    exact hs2 (k + 1) (by omega)

open Classical in
/-- The root, rounded down (of a number that has one). -/
noncomputable def rt (x : Int) : Int := if h : ∃ r, IsRoot r x then Classical.choose h else 0
theorem rt_eq {r x : Int} (h : IsRoot r x) : rt x = r := by
  have hx : ∃ r, IsRoot r x := ⟨r, h⟩
  unfold rt
  rw [dif_pos hx]
  exact root_unique (Classical.choose_spec hx) h
theorem rt_is {n : Int} (h0 : 0 ≤ n) (h1 : n ≤ 1000000) : IsRoot (rt (n * n * n)) (n * n * n) := by
  obtain ⟨r, hr, _⟩ := cubed_f h0 h1
  rw [rt_eq hr]; exact hr
/-- .. rounded up. -/
noncomputable def rtUp (x : Int) : Int := if rt x * rt x = x then rt x else rt x + 1
theorem rt_le {n : Int} (h0 : 0 ≤ n) (h1 : n ≤ 1000000) : 0 ≤ rt (n * n * n) ∧ rt (n * n * n) ≤ 1000000000 := by
  obtain ⟨a, b, c⟩ := rt_is h0 h1
  have hc := (cube_bounds h0 h1).2.2.2
  refine ⟨a, ?_⟩
  have := lt_of_sq (a := rt (n * n * n)) (b := 1000000001) (by omega) (by omega)
  omega
theorem rtUp_bounds {n : Int} (h0 : 0 ≤ n) (h1 : n ≤ 1000000) : rt (n * n * n) ≤ rtUp (n * n * n) ∧ rtUp (n * n * n) ≤ rt (n * n * n) + 1 ∧ n * n * n ≤ rtUp (n * n * n) * rtUp (n * n * n) ∧ rtUp (n * n * n) ≤ 1000000000 := by
  obtain ⟨a, b, c⟩ := rt_is h0 h1
  have hl := rt_le h0 h1
  have hc := (cube_bounds h0 h1).2.2.2
  unfold rtUp
  split
  · rename_i h; exact ⟨by omega, by omega, by omega, hl.2⟩
  · rename_i h
    refine ⟨by omega, by omega, by omega, ?_⟩
    generalize rt (n * n * n) = r at *
    have : r * r < 1000000000 * 1000000000 := by omega
    have := lt_of_sq (a := r) (b := 1000000000) (by omega) this
    omega
theorem rt_mono {a b : Int} (h0 : 0 ≤ a) (h : a ≤ b) (h1 : b ≤ 1000000) : rt (a * a * a) ≤ rt (b * b * b) :=
  root_mono (rt_is h0 (by omega)) (rt_is (by omega) h1) (cube_mono h0 h)
theorem rtUp_mono {a b : Int} (h0 : 0 ≤ a) (h : a ≤ b) (h1 : b ≤ 1000000) : rtUp (a * a * a) ≤ rtUp (b * b * b) := by
  have hm := rt_mono h0 h h1
  have hc := cube_mono h0 h
  obtain ⟨a1, a2, a3⟩ := rt_is h0 (show a ≤ 1000000 by omega)
  obtain ⟨b1, b2, b3⟩ := rt_is (show 0 ≤ b by omega) h1
  unfold rtUp
  generalize rt (a * a * a) = r at *
  generalize rt (b * b * b) = s at *
  split
  · split <;> omega
  · rename_i hne
    split
    · rename_i he
      by_cases hrs : r = s
      · subst hrs; omega
      · omega
    · omega
theorem cubedUp_f {n : Int} (h0 : 0 ≤ n) (h1 : n ≤ 1000000) : ∃ K, ∀ k, K ≤ k → curve_cubed.f k n = some (rt (n * n * n), decide (rt (n * n * n) * rt (n * n * n) = n * n * n)) := by
  obtain ⟨r, hr, hk⟩ := cubed_f h0 h1
  rw [rt_eq hr]; exact hk
/-- The ends of a current, of the roots. -/
def endLo (p f q r : Int) : Int := q * mn (p * r / 1000000) f / 1000000
def endHi (p f q s : Int) : Int := up (q * mn (up (p * s) 1000000) f) 1000000
noncomputable def cLo (p0 g1 s0 f0 q0 grid plate : Int) : Int := endLo p0 f0 q0 (rt (dLo g1 s0 grid plate * dLo g1 s0 grid plate * dLo g1 s0 grid plate))
noncomputable def cHi (p1 g0 s1 f1 q1 grid plate : Int) : Int := endHi p1 f1 q1 (rtUp (dHi g0 s1 grid plate * dHi g0 s1 grid plate * dHi g0 s1 grid plate))
theorem mul_bounds {a b m n : Int} (ha0 : 0 ≤ a) (ha : a ≤ m) (hb0 : 0 ≤ b) (hb : b ≤ n) : 0 ≤ a * b ∧ a * b ≤ m * n :=
  ⟨Int.mul_nonneg ha0 hb0, Int.mul_le_mul ha hb hb0 (by omega)⟩
theorem mn_bounds {a b n : Int} (ha : 0 ≤ a) (hb : 0 ≤ b) (hn : b ≤ n) : 0 ≤ mn a b ∧ mn a b ≤ n := by unfold mn; split <;> omega
theorem mn_mono {a b c d : Int} (h : a ≤ c) (k : b ≤ d) : mn a b ≤ mn c d := by unfold mn; split <;> split <;> omega
theorem endLo_bounds {p f q r : Int} (hp0 : 0 ≤ p) (hp : p ≤ 1000000) (hf0 : 0 ≤ f) (hf : f ≤ 1000000) (hq0 : 0 ≤ q) (hq : q ≤ 1000000) (hr0 : 0 ≤ r) (hr : r ≤ 1000000000) :
    0 ≤ p * r ∧ p * r ≤ 1000000000000000 ∧ 0 ≤ mn (p * r / 1000000) f ∧ mn (p * r / 1000000) f ≤ 1000000 ∧ 0 ≤ q * mn (p * r / 1000000) f ∧ q * mn (p * r / 1000000) f ≤ 1000000000000 ∧ 0 ≤ endLo p f q r ∧ endLo p f q r ≤ 1000000 := by
  have a := mul_bounds hp0 hp hr0 hr
  have b := mn_bounds (a := p * r / 1000000) (b := f) (n := 1000000) (Int.ediv_nonneg a.1 (by omega)) hf0 hf
  have c := mul_bounds hq0 hq b.1 b.2
  unfold endLo
  refine ⟨a.1, by omega, b.1, b.2, c.1, by omega, by omega, by omega⟩
theorem endHi_bounds {p f q r : Int} (hp0 : 0 ≤ p) (hp : p ≤ 1000000) (hf0 : 0 ≤ f) (hf : f ≤ 1000000) (hq0 : 0 ≤ q) (hq : q ≤ 1000000) (hr0 : 0 ≤ r) (hr : r ≤ 1000000000) :
    0 ≤ p * r ∧ p * r ≤ 1000000000000000 ∧ 0 ≤ mn (up (p * r) 1000000) f ∧ mn (up (p * r) 1000000) f ≤ 1000000 ∧ 0 ≤ q * mn (up (p * r) 1000000) f ∧ q * mn (up (p * r) 1000000) f ≤ 1000000000000 ∧ 0 ≤ endHi p f q r ∧ endHi p f q r ≤ 1000000 := by
  have a := mul_bounds hp0 hp hr0 hr
  have hu := down_le_up (p * r) (show (0 : Int) < 1000000 by omega)
  have b := mn_bounds (a := up (p * r) 1000000) (b := f) (n := 1000000) (by omega) hf0 hf
  have c := mul_bounds hq0 hq b.1 b.2
  have d := down_le_up (q * mn (up (p * r) 1000000) f) (show (0 : Int) < 1000000 by omega)
  have e := (up_le (a := 1000000) (n := q * mn (up (p * r) 1000000) f) (show (0 : Int) < 1000000 by omega)).2 (by omega)
  unfold endHi
  refine ⟨a.1, by omega, b.1, b.2, c.1, by omega, by omega, by omega⟩
theorem current_f {p0 p1 g0 g1 s0 s1 f0 f1 q0 q1 grid plate : Int} (h : LawOk p0 p1 g0 g1 s0 s1 f0 f1 q0 q1) (hv : Volts grid plate) :
    ∃ K, ∀ k, K ≤ k → curve_current.f k p0 p1 g0 g1 s0 s1 f0 f1 q0 q1 grid plate = some (cLo p0 g1 s0 f0 q0 grid plate, cHi p1 g0 s1 f1 q1 grid plate) := by
  obtain ⟨hp, hg, hs, hf, hq⟩ := h
  have bl := clamp_bounds (grid + s0 + 1000 * plate / g1)
  have bh := clamp_bounds (grid + s1 + up (1000 * plate) g0)
  obtain ⟨K1, hK1⟩ := cubedUp_f bl.1 bl.2
  obtain ⟨K2, hK2⟩ := cubedUp_f bh.1 bh.2
  have r1 := rt_le bl.1 bl.2
  have r2 := rtUp_bounds bh.1 bh.2
  have r3 := rt_le bh.1 bh.2
  refine ⟨K1 + K2 + 1, fun k hk => ?_⟩
  obtain ⟨k, rfl⟩ : ∃ j, k = j + 1 := ⟨k - 1, by omega⟩
  unfold curve_current.f
  rw [drive_f ⟨hp, hg, hs, hf, hq⟩ hv]
  simp only [Option.bind_some]
  unfold dLo dHi
  rw [hK1 (k + 1) (by omega), hK2 (k + 1) (by omega)]
  simp only [Option.bind_some]
  unfold cLo cHi dLo dHi
  generalize clamp (grid + s0 + 1000 * plate / g1) = a at *
  generalize clamp (grid + s1 + up (1000 * plate) g0) = b at *
  have L := endLo_bounds (p := p0) (f := f0) (q := q0) (by omega) (by omega) (by omega) (by omega) (by omega) (by omega) r1.1 r1.2
  have H := endHi_bounds (p := p1) (f := f1) (q := q1) (r := rtUp (b * b * b)) (by omega) (by omega) (by omega) (by omega) (by omega) (by omega) (by omega) (by omega)
  have key : ∀ s, s = rtUp (b * b * b) → curve_current.j0 (k + 1) (rt (a * a * a)) s p0 p1 g0 g1 s0 s1 f0 f1 q0 q1 = some (endLo p0 f0 q0 (rt (a * a * a)), endHi p1 f1 q1 (rtUp (b * b * b))) := by
    rintro s rfl
    simp only [curve_current.j0]
    rw [wrap64_id (x := p0 * rt (a * a * a)) (by omega) (by omega), wrap64_id (x := p1 * rtUp (b * b * b)) (by omega) (by omega), floor_f (by omega) (by omega) (by omega), ceil_f (by omega) (by omega) (by omega)]
    simp only [Option.bind_some]
    rw [wrap64_id (x := q0 * mn (p0 * rt (a * a * a) / 1000000) f0) (by omega) (by omega), wrap64_id (x := q1 * mn (up (p1 * rtUp (b * b * b)) 1000000) f1) (by omega) (by omega), floor_f (by omega) (by omega) (by omega), ceil_f (by omega) (by omega) (by omega)]
    rfl
  by_cases he : rt (b * b * b) * rt (b * b * b) = b * b * b
  · rw [if_pos (by simp [he])]
    exact key _ (by unfold rtUp; rw [if_pos he])
  · rw [if_neg (by simp [he])]
    exact key _ (by unfold rtUp; rw [if_neg he, wrap64_id (by omega) (by omega)])
end Go.Proofs.Ytbomgfbfnkfamaa.Mp
end
section
set_option linter.unusedVariables false
namespace Go.Proofs.Ytbomgfbfnkfamaa.Mp
open Go.RowKit Go.Proofs.YtbomgfbfnkfamaaW.PrintWords Go.Proofs.YtbomgfbfnkfamaaW.PrintMore Go.Proofs.Ytbomgfbfnkfamaa.PAll

theorem lawOf_j1 {p0 p1 g0 g1 s0 s1 : Int} (hp : 0 ≤ p0 ∧ p0 ≤ p1 ∧ p1 ≤ 1000000) (hg : 1 ≤ g0 ∧ g0 ≤ g1 ∧ g1 ≤ 1000000) (hs : -1000000 ≤ s0 ∧ s0 ≤ s1 ∧ s1 ≤ 1000000) (t f0 f1 q0 q1 : Int) (hf : 0 ≤ f0 ∧ f0 ≤ f1 ∧ f1 ≤ 1000000) (hq : 0 ≤ q0 ∧ q0 ≤ q1 ∧ q1 ≤ 1000000) :
    ∃ g0' g1' s', LawOk p0 p1 g0' g1' s0 s1 f0 f1 q0 q1 ∧ ∀ k, thermionkit_LawOf.j1 (k + 1) t p0 p1 g0 g1 s0 s1 f0 f1 q0 q1 = some (p0, p1, g0', g1', s0, s1, f0, f1, q0, q1, s') := by
  obtain ⟨b, t7, e7⟩ := one_f t (n := 8) (by omega) (by omega)
  cases b with
  | true =>
    obtain ⟨v, t8, e8, v1, v2⟩ := between_f t7 (lo := 1) (hi := 400) (by omega) (by omega) (by omega)
    exact ⟨1, v, t8, ⟨hp, ⟨by omega, v1, by omega⟩, hs, hf, hq⟩, fun k => by simp only [thermionkit_LawOf.j1, e7, Option.bind_some, if_true, e8]⟩
  | false => exact ⟨g0, g1, t7, ⟨hp, hg, hs, hf, hq⟩, fun k => by simp only [thermionkit_LawOf.j1, e7, Option.bind_some, Bool.false_eq_true, if_false]⟩
theorem j0_eq (k : Nat) (t p0 p1 g0 g1 s0 s1 f0 f1 q0 q1 : Int) : thermionkit_LawOf.j0 (k + 1) t p0 p1 g0 g1 s0 s1 f0 f1 q0 q1 = (thermionkit_Dice_One.f t 2).bind fun b => if b.1 = true then thermionkit_LawOf.j1 k b.2 p0 p1 g0 g1 s0 s1 f0 f1 1000000 1000000 else thermionkit_LawOf.j1 k b.2 p0 p1 g0 g1 s0 s1 f0 f1 q0 q1 := by
  rw [thermionkit_LawOf.j0]
theorem lawOf_j0 {p0 p1 g0 g1 s0 s1 : Int} (hp : 0 ≤ p0 ∧ p0 ≤ p1 ∧ p1 ≤ 1000000) (hg : 1 ≤ g0 ∧ g0 ≤ g1 ∧ g1 ≤ 1000000) (hs : -1000000 ≤ s0 ∧ s0 ≤ s1 ∧ s1 ≤ 1000000) (t f0 f1 q0 q1 : Int) (hf : 0 ≤ f0 ∧ f0 ≤ f1 ∧ f1 ≤ 1000000) (hq : 0 ≤ q0 ∧ q0 ≤ q1 ∧ q1 ≤ 1000000) :
    ∃ g0' g1' q0' q1' s', LawOk p0 p1 g0' g1' s0 s1 f0 f1 q0' q1' ∧ ∀ k, thermionkit_LawOf.j0 (k + 1 + 1) t p0 p1 g0 g1 s0 s1 f0 f1 q0 q1 = some (p0, p1, g0', g1', s0, s1, f0, f1, q0', q1', s') := by
  obtain ⟨b, t7, e7⟩ := one_f t (n := 2) (by omega) (by omega)
  cases b with
  | true =>
    obtain ⟨g0', g1', s', hl, hk⟩ := lawOf_j1 hp hg hs t7 f0 f1 1000000 1000000 hf ⟨by decide, by decide, by decide⟩
    exact ⟨g0', g1', 1000000, 1000000, s', hl, fun k => by rw [j0_eq, e7, Option.bind_some, if_pos rfl]; exact hk k⟩
  | false =>
    obtain ⟨g0', g1', s', hl, hk⟩ := lawOf_j1 hp hg hs t7 f0 f1 q0 q1 hf hq
    exact ⟨g0', g1', _, _, s', hl, fun k => by rw [j0_eq, e7, Option.bind_some, if_neg (by simp)]; exact hk k⟩
/-- A law with the next dice, of which all is as it should be. -/
theorem lawOf_f (s : Int) : ∃ p0 p1 g0 g1 s0 s1 f0 f1 q0 q1 s', LawOk p0 p1 g0 g1 s0 s1 f0 f1 q0 q1 ∧ ∀ k, 2 ≤ k → thermionkit_LawOf.f k s = some (p0, p1, g0, g1, s0, s1, f0, f1, q0, q1, s') := by
  obtain ⟨p0, p1, t1, e1, a⟩ := range_f s (lo := 1000) (hi := 90000) (by omega) (by omega) (by omega)
  obtain ⟨g0, g1, t2, e2, b⟩ := range_f t1 (lo := 5000) (hi := 60000) (by omega) (by omega) (by omega)
  obtain ⟨s0, s1, t3, e3, c⟩ := range_f t2 (lo := -800) (hi := 800) (by omega) (by omega) (by omega)
  obtain ⟨f0, f1, t4, e4, d⟩ := range_f t3 (lo := 2000) (hi := 60000) (by omega) (by omega) (by omega)
  obtain ⟨q0, q1, t5, e5, h⟩ := range_f t4 (lo := 500000) (hi := 1000000) (by omega) (by omega) (by omega)
  obtain ⟨o, t6, e6⟩ := one_f t5 (n := 3) (by omega) (by omega)
  have hp : 0 ≤ p0 ∧ p0 ≤ p1 ∧ p1 ≤ 1000000 := by omega
  have hg : 1 ≤ g0 ∧ g0 ≤ g1 ∧ g1 ≤ 1000000 := by omega
  have hs : -1000000 ≤ s0 ∧ s0 ≤ s1 ∧ s1 ≤ 1000000 := by omega
  have hf : 0 ≤ f0 ∧ f0 ≤ f1 ∧ f1 ≤ 1000000 := by omega
  have hq : 0 ≤ q0 ∧ q0 ≤ q1 ∧ q1 ≤ 1000000 := by omega
  cases o with
  | true =>
    obtain ⟨g0', g1', q0', q1', s', hl, hk⟩ := lawOf_j0 hp hg hs t6 1000000 1000000 q0 q1 ⟨by decide, by decide, by decide⟩ hq
    refine ⟨_, _, _, _, _, _, _, _, _, _, s', hl, fun k h => ?_⟩
    obtain ⟨k, rfl⟩ : ∃ j, k = j + 1 + 1 := ⟨k - 2, by omega⟩
    unfold thermionkit_LawOf.f
    rw [e1, Option.bind_some]
    dsimp only
    rw [e2, Option.bind_some]
    dsimp only
    rw [e3, Option.bind_some]
    dsimp only
    rw [e4, Option.bind_some]
    dsimp only
    rw [e5, Option.bind_some]
    dsimp only
    rw [e6, Option.bind_some, if_pos rfl]
    dsimp only
    exact hk k
  | false =>
    obtain ⟨g0', g1', q0', q1', s', hl, hk⟩ := lawOf_j0 hp hg hs t6 f0 f1 q0 q1 hf hq
    refine ⟨_, _, _, _, _, _, _, _, _, _, s', hl, fun k h => ?_⟩
    obtain ⟨k, rfl⟩ : ∃ j, k = j + 1 + 1 := ⟨k - 2, by omega⟩
    unfold thermionkit_LawOf.f
    rw [e1, Option.bind_some]
    dsimp only
    rw [e2, Option.bind_some]
    dsimp only
    rw [e3, Option.bind_some]
    dsimp only
    rw [e4, Option.bind_some]
    dsimp only
    rw [e5, Option.bind_some]
    dsimp only
    rw [e6, Option.bind_some, if_neg (by simp)]
    dsimp only
    exact hk k
theorem within_ok {a b lo hi : Int} (h1 : lo ≤ a) (h2 : a ≤ b) (h3 : b ≤ hi) : curve_within.f a b lo hi = some 0 := by
  unfold curve_within.f
  repeat (first | rw [if_neg (by omega)] | rw [if_pos (by omega)] | rfl)
theorem checkLaw_ok {p0 p1 g0 g1 s0 s1 f0 f1 q0 q1 : Int} (h : LawOk p0 p1 g0 g1 s0 s1 f0 f1 q0 q1) : curve_CheckLaw.f p0 p1 g0 g1 s0 s1 f0 f1 q0 q1 = some 0 := by
  obtain ⟨hp, hg, hs, hf, hq⟩ := h
  unfold curve_CheckLaw.f
  rw [within_ok (by omega) (by omega) (by omega), within_ok (by omega) (by omega) (by omega), within_ok (by omega) (by omega) (by omega), within_ok (by omega) (by omega) (by omega), within_ok (by omega) (by omega) (by omega)]
  rfl
theorem volts_ok {grid plate : Int} (h : Volts grid plate) : curve_voltages.f grid plate = some true := by
  obtain ⟨a, b, c, d⟩ := h
  unfold curve_voltages.f
  repeat (first | rw [if_pos (by omega)] | rw [if_neg (by omega)])
  simp; omega
/-- The current of a right law at right voltages. -/
theorem Current_f {p0 p1 g0 g1 s0 s1 f0 f1 q0 q1 grid plate : Int} (h : LawOk p0 p1 g0 g1 s0 s1 f0 f1 q0 q1) (hv : Volts grid plate) :
    ∃ K, ∀ k, K ≤ k → curve_Current.f k p0 p1 g0 g1 s0 s1 f0 f1 q0 q1 grid plate = some (cLo p0 g1 s0 f0 q0 grid plate, cHi p1 g0 s1 f1 q1 grid plate, 0) := by
  obtain ⟨K, hK⟩ := current_f h hv
  refine ⟨K, fun k hk => ?_⟩
  unfold curve_Current.f curve_asked.f
  rw [checkLaw_ok h]
  simp only [Option.bind_some, if_true]
  rw [volts_ok hv]
  simp only [Option.bind_some, if_true]
  rw [hK k hk]
  rfl
theorem mod_f (n : Int) {m : Int} (h0 : 1 ≤ m) (h1 : m ≤ 4000000000000000000) : ∃ r, thermionkit_Mod.f n m = some r ∧ 0 ≤ r ∧ r < m := by
  have c := Int.tmod_lt_of_pos n (show 0 < m by omega)
  have d : -m < Int.tmod n m := by
    have := Int.tmod_lt_of_pos (-n) (show 0 < m by omega)
    rw [Int.neg_tmod] at this; omega
  unfold thermionkit_Mod.f
  rw [if_neg (by omega), if_neg (by omega)]
  split
  · exact ⟨_, rfl, by rw [wrap64_id (by omega) (by omega)]; omega⟩
  · exact ⟨_, rfl, by omega⟩

/-! ### narrower laws, greater voltages -/
theorem dLo_mono {g1 s0 grid plate g1' s0' grid' plate' : Int} (hg : 1 ≤ g1') (hg' : g1' ≤ g1) (hs : s0 ≤ s0') (hgr : grid ≤ grid') (hp0 : 0 ≤ plate) (hp : plate ≤ plate') : dLo g1 s0 grid plate ≤ dLo g1' s0' grid' plate' := by
  unfold dLo
  apply clamp_mono
  have h : 1000 * plate / g1 ≤ 1000 * plate' / g1' := down_frac (by omega) (by omega) (by
    have a : 1000 * plate * g1' ≤ 1000 * plate * g1 := Int.mul_le_mul_of_nonneg_left hg' (by omega)
    have b : 1000 * plate * g1 ≤ 1000 * plate' * g1 := Int.mul_le_mul_of_nonneg_right (by omega) (by omega)
    omega)
  omega
theorem dHi_mono {g0 s1 grid plate g0' s1' grid' plate' : Int} (hg : 1 ≤ g0') (hg' : g0' ≤ g0) (hs : s1 ≤ s1') (hgr : grid ≤ grid') (hp0 : 0 ≤ plate) (hp : plate ≤ plate') : dHi g0 s1 grid plate ≤ dHi g0' s1' grid' plate' := by
  unfold dHi
  apply clamp_mono
  have h : up (1000 * plate) g0 ≤ up (1000 * plate') g0' := up_frac (by omega) (by omega) (by
    have a : 1000 * plate * g0' ≤ 1000 * plate * g0 := Int.mul_le_mul_of_nonneg_left hg' (by omega)
    have b : 1000 * plate * g0 ≤ 1000 * plate' * g0 := Int.mul_le_mul_of_nonneg_right (by omega) (by omega)
    omega)
  omega
theorem dLo_le_dHi {g0 g1 s0 s1 grid plate : Int} (hg : 1 ≤ g0) (hg' : g0 ≤ g1) (hs : s0 ≤ s1) (hp0 : 0 ≤ plate) : dLo g1 s0 grid plate ≤ dHi g0 s1 grid plate := by
  unfold dLo dHi
  apply clamp_mono
  have h : 1000 * plate / g1 ≤ 1000 * plate / g0 := down_frac (by omega) (by omega) (Int.mul_le_mul_of_nonneg_left hg' (by omega))
  have h2 := down_le_up (1000 * plate) (show 0 < g0 by omega)
  omega
theorem endLo_mono {p f q r p' f' q' r' : Int} (hp0 : 0 ≤ p) (hp : p ≤ p') (hf0 : 0 ≤ f) (hf : f ≤ f') (hq0 : 0 ≤ q) (hq : q ≤ q') (hr0 : 0 ≤ r) (hr : r ≤ r') : endLo p f q r ≤ endLo p' f' q' r' := by
  unfold endLo
  have a : p * r / 1000000 ≤ p' * r' / 1000000 := Int.ediv_le_ediv (by omega) (Int.mul_le_mul hp hr hr0 (by omega))
  have a0 := Int.ediv_nonneg (Int.mul_nonneg hp0 hr0) (show (0 : Int) ≤ 1000000 by omega)
  have b := mn_mono a hf
  have b0 := (mn_bounds (n := f) a0 hf0 (Int.le_refl _)).1
  exact Int.ediv_le_ediv (by omega) (Int.mul_le_mul hq b b0 (by omega))
theorem endHi_mono {p f q r p' f' q' r' : Int} (hp0 : 0 ≤ p) (hp : p ≤ p') (hf0 : 0 ≤ f) (hf : f ≤ f') (hq0 : 0 ≤ q) (hq : q ≤ q') (hr0 : 0 ≤ r) (hr : r ≤ r') : endHi p f q r ≤ endHi p' f' q' r' := by
  unfold endHi
  have a : up (p * r) 1000000 ≤ up (p' * r') 1000000 := up_mono (by omega) (Int.mul_le_mul hp hr hr0 (by omega))
  have h1 := down_le_up (p * r) (show (0 : Int) < 1000000 by omega)
  have a0 := Int.ediv_nonneg (Int.mul_nonneg hp0 hr0) (show (0 : Int) ≤ 1000000 by omega)
  have b := mn_mono a hf
  have b0 := (mn_bounds (a := up (p * r) 1000000) (n := f) (by omega) hf0 (Int.le_refl _)).1
  exact up_mono (by omega) (Int.mul_le_mul hq b b0 (by omega))
/-- The lower end rises with all numbers but the gain. -/
theorem cLo_mono {p0 g1 s0 f0 q0 grid plate p0' g1' s0' f0' q0' grid' plate' : Int} (hp0 : 0 ≤ p0) (hp : p0 ≤ p0') (hg : 1 ≤ g1') (hg' : g1' ≤ g1) (hs : s0 ≤ s0') (hf0 : 0 ≤ f0) (hf : f0 ≤ f0') (hq0 : 0 ≤ q0) (hq : q0 ≤ q0') (hgr : grid ≤ grid') (hpl0 : 0 ≤ plate) (hpl : plate ≤ plate') :
    cLo p0 g1 s0 f0 q0 grid plate ≤ cLo p0' g1' s0' f0' q0' grid' plate' := by
  unfold cLo
  have hd := dLo_mono hg hg' hs hgr hpl0 hpl
  have b := clamp_bounds (grid + s0 + 1000 * plate / g1)
  have b' := clamp_bounds (grid' + s0' + 1000 * plate' / g1')
  have hr := rt_mono (a := dLo g1 s0 grid plate) (b := dLo g1' s0' grid' plate') b.1 hd b'.2
  exact endLo_mono hp0 hp hf0 hf hq0 hq (rt_le b.1 b.2).1 hr
theorem cHi_mono {p1 g0 s1 f1 q1 grid plate p1' g0' s1' f1' q1' grid' plate' : Int} (hp0 : 0 ≤ p1) (hp : p1 ≤ p1') (hg : 1 ≤ g0') (hg' : g0' ≤ g0) (hs : s1 ≤ s1') (hf0 : 0 ≤ f1) (hf : f1 ≤ f1') (hq0 : 0 ≤ q1) (hq : q1 ≤ q1') (hgr : grid ≤ grid') (hpl0 : 0 ≤ plate) (hpl : plate ≤ plate') :
    cHi p1 g0 s1 f1 q1 grid plate ≤ cHi p1' g0' s1' f1' q1' grid' plate' := by
  unfold cHi
  have hd := dHi_mono hg hg' hs hgr hpl0 hpl
  have b := clamp_bounds (grid + s1 + up (1000 * plate) g0)
  have b' := clamp_bounds (grid' + s1' + up (1000 * plate') g0')
  have hr := rtUp_mono (a := dHi g0 s1 grid plate) (b := dHi g0' s1' grid' plate') b.1 hd b'.2
  have h1 := rtUp_bounds (n := dHi g0 s1 grid plate) b.1 b.2
  have h2 := rt_le (n := dHi g0 s1 grid plate) b.1 b.2
  exact endHi_mono hp0 hp hf0 hf hq0 hq (Int.le_trans h2.1 h1.1) hr
theorem cLo_le_cHi {p0 p1 g0 g1 s0 s1 f0 f1 q0 q1 grid plate : Int} (h : LawOk p0 p1 g0 g1 s0 s1 f0 f1 q0 q1) (hpl : 0 ≤ plate) : cLo p0 g1 s0 f0 q0 grid plate ≤ cHi p1 g0 s1 f1 q1 grid plate := by
  obtain ⟨hp, hg, hs, hf, hq⟩ := h
  have hd := dLo_le_dHi (grid := grid) (plate := plate) hg.1 hg.2.1 hs.2.1 hpl
  have b : 0 ≤ dLo g1 s0 grid plate ∧ dLo g1 s0 grid plate ≤ 1000000 := clamp_bounds _
  have b' : 0 ≤ dHi g0 s1 grid plate ∧ dHi g0 s1 grid plate ≤ 1000000 := clamp_bounds _
  have hr := rt_mono b.1 hd b'.2
  have h1 := rtUp_bounds b'.1 b'.2
  have h2 := rt_le b.1 b.2
  unfold cLo cHi
  generalize rt (dLo g1 s0 grid plate * dLo g1 s0 grid plate * dLo g1 s0 grid plate) = r at *
  generalize rtUp (dHi g0 s1 grid plate * dHi g0 s1 grid plate * dHi g0 s1 grid plate) = s at *
  have e := endLo_mono (p' := p1) (f' := f1) (q' := q1) (r' := s) hp.1 hp.2.1 hf.1 hf.2.1 hq.1 hq.2.1 h2.1 (by omega)
  refine Int.le_trans e ?_
  unfold endLo endHi
  have a := down_le_up (p1 * s) (show (0 : Int) < 1000000 by omega)
  have c := mn_mono a (Int.le_refl f1)
  have d : q1 * mn (p1 * s / 1000000) f1 ≤ q1 * mn (up (p1 * s) 1000000) f1 := Int.mul_le_mul_of_nonneg_left c (by omega)
  exact Int.le_trans (Int.ediv_le_ediv (by omega) d) (down_le_up _ (by omega))
end Go.Proofs.Ytbomgfbfnkfamaa.Mp
end
section
set_option linter.unusedVariables false
namespace Go.Proofs.Ytbomgfbfnkfamaa.Mp
open Go.RowKit Go.Proofs.YtbomgfbfnkfamaaW.PrintWords Go.Proofs.YtbomgfbfnkfamaaW.PrintMore Go.Proofs.Ytbomgfbfnkfamaa.PAll

structure TabOk (n m : Nat) (t : List (List Int)) : Prop where
  len : t.length = n
  row : ∀ i, i < n → (t.getD i []).length = m
/-- A family as it should be. -/
structure FamOk (grid plate : List Int) (lo hi : List (List Int)) : Prop where
  g : LinesOk (-1000000) 1000000 grid
  p : LinesOk 0 1000000 plate
  g0 : 1 ≤ grid.length
  g1 : grid.length ≤ 40
  p0 : 1 ≤ plate.length
  p1 : plate.length ≤ 40
  tl : TabOk grid.length plate.length lo
  th : TabOk grid.length plate.length hi
  cell : ∀ i k, i < grid.length → k < plate.length → 0 ≤ vc lo i k ∧ vc lo i k ≤ vc hi i k ∧ vc hi i k ≤ 1000000
  upG : ∀ i k, i + 1 < grid.length → k < plate.length → vc lo i k ≤ vc lo (i + 1) k ∧ vc hi i k ≤ vc hi (i + 1) k
  upP : ∀ i k, i < grid.length → k + 1 < plate.length → vc lo i k ≤ vc lo i (k + 1) ∧ vc hi i k ≤ vc hi i (k + 1)
theorem LinesOk.wide {lo hi lo' hi' : Int} {l : List Int} (h : LinesOk lo hi l) (h0 : lo' ≤ lo) (h1 : hi ≤ hi') : LinesOk lo' hi' l :=
  ⟨h.asc, fun i hi => by have := h.bnd i hi; omega⟩
theorem scan_ok {l : List Int} {low : Int} (h : LinesOk low 1000000 l) : ∀ d k, k + d = l.length → scanN l low d k = 0 := by
  intro d
  induction d with
  | zero => intros; rfl
  | succ d ih =>
    intro k hk
    have hb := h.bnd k (by omega)
    unfold nth at hb
    have hn : ¬ (0 < k ∧ l.getD k 0 ≤ l.getD (k - 1) 0) := by
      rintro ⟨a, b⟩
      have := h.asc (k - 1) k (by omega) (by omega)
      unfold nth at this
      omega
    rw [scanN, if_neg (by omega), if_neg hn]
    exact ih (k + 1) (by omega)
theorem lines_ok {grid plate : List Int} (hg : LinesOk (-1000000) 1000000 grid) (hp : LinesOk 0 1000000 plate) (g0 : 1 ≤ grid.length) (g1 : grid.length ≤ 40) (p0 : 1 ≤ plate.length) (p1 : plate.length ≤ 40) :
    curve_lines.f grid plate = some 0 := by
  unfold curve_lines.f
  rw [if_neg (by omega), if_neg (by omega), if_pos (scan_ok hg _ 0 (by omega)), scan_ok hp _ 0 (by omega)]
theorem shaped_ok {n m : Nat} {t : List (List Int)} (h : TabOk n m t) : curve_shaped.f t (n : Int) (m : Int) = some true := by
  unfold curve_shaped.f
  rw [if_pos (by have := h.len; omega), decide_eq_true ((ixNe_all t m t.length 0 (by omega)).2 fun j _ hj => by rw [h.row j (by have := h.len; omega)])]
theorem cell_ok {grid plate : List Int} {lo hi : List (List Int)} (h : FamOk grid plate lo hi) {i k : Nat} (hi' : i < grid.length) (hk : k < plate.length) : cellErr lo hi i k = 0 := by
  have hc := h.cell i k hi' hk
  have h1 : ¬ (0 < i ∧ (vc lo i k < vc lo (i - 1) k ∨ vc hi i k < vc hi (i - 1) k)) := by
    rintro ⟨a, b⟩
    have := h.upG (i - 1) k (by omega) hk
    rw [show i - 1 + 1 = i by omega] at this
    omega
  have h2 : ¬ (0 < k ∧ (vc lo i k < vc lo i (k - 1) ∨ vc hi i k < vc hi i (k - 1))) := by
    rintro ⟨a, b⟩
    have := h.upP i (k - 1) hi' (by omega)
    rw [show k - 1 + 1 = k by omega] at this
    omega
  unfold cellErr cellE
  rw [if_neg (by omega), if_neg (by omega), if_neg h1, if_neg h2]
theorem row_ok {grid plate : List Int} {lo hi : List (List Int)} (h : FamOk grid plate lo hi) {i : Nat} (hi' : i < grid.length) : ∀ d k, k + d = plate.length → rowErrN lo hi i d k = 0 := by
  intro d
  induction d with
  | zero => intros; rfl
  | succ d ih => intro k hk; rw [rowErrN, if_pos (cell_ok h hi' (by omega))]; exact ih (k + 1) (by omega)
theorem tab_ok {grid plate : List Int} {lo hi : List (List Int)} (h : FamOk grid plate lo hi) : ∀ d i, i + d = grid.length → tabErrN lo hi plate.length d i = 0 := by
  intro d
  induction d with
  | zero => intros; rfl
  | succ d ih => intro i hi'; rw [tabErrN, if_pos (row_ok h (by omega) _ 0 (by omega))]; exact ih (i + 1) (by omega)
theorem check_ok {grid plate : List Int} {lo hi : List (List Int)} (h : FamOk grid plate lo hi) : curve_Check.f grid plate lo hi = some 0 := by
  unfold curve_Check.f
  rw [lines_ok h.g h.p h.g0 h.g1 h.p0 h.p1, Option.bind_some, if_pos rfl, shaped_ok h.tl, Option.bind_some, if_pos rfl, shaped_ok h.th, Option.bind_some, if_pos rfl, tab_ok h _ 0 (by omega)]
/-- A table of the numbers of pairs of lines. -/
def tabOf (F : Int → Int → Int) (grid plate : List Int) : List (List Int) := grid.map fun g => plate.map (F g)
theorem tabOf_tab (F : Int → Int → Int) (grid plate : List Int) : TabOk grid.length plate.length (tabOf F grid plate) := by
  refine ⟨by simp [tabOf], fun i hi => ?_⟩
  unfold tabOf
  rw [List.getD_eq_getElem?_getD, List.getElem?_map, List.getElem?_eq_getElem hi]
  simp
theorem vc_tabOf (F : Int → Int → Int) {grid plate : List Int} {i k : Nat} (hi : i < grid.length) (hk : k < plate.length) : vc (tabOf F grid plate) i k = F (nth grid i) (nth plate k) := by
  unfold vc tabOf nth
  rw [List.getD_eq_getElem?_getD, List.getD_eq_getElem?_getD, List.getElem?_map, List.getElem?_eq_getElem hi]
  simp only [Option.map_some, Option.getD_some]
  rw [List.getElem?_map, List.getElem?_eq_getElem hk]
  simp only [Option.map_some, Option.getD_some]
  rw [List.getD_eq_getElem?_getD, List.getElem?_eq_getElem hi, List.getD_eq_getElem?_getD, List.getElem?_eq_getElem hk]
  rfl
theorem mem_nth {l : List Int} {v : Int} (h : v ∈ l) : ∃ i, i < l.length ∧ nth l i = v := by
  obtain ⟨i, hi, e⟩ := List.getElem_of_mem h
  exact ⟨i, hi, by unfold nth; rw [List.getD_eq_getElem?_getD, List.getElem?_eq_getElem hi]; exact e⟩
end Go.Proofs.Ytbomgfbfnkfamaa.Mp
end
section
namespace Go.Proofs.Ytbomgfbfnkfamaa.PAll
open Go.RowKit Go.Proofs.YtbomgfbfnkfamaaW.PrintWords Go.Proofs.YtbomgfbfnkfamaaW.PrintLast Go.Proofs.YtbomgfbfnkfamaaW.PrintMore
attribute [local go_sem] max2_int min2_int max_two min_two max_three min_three max_four min_four   -- for this text's walks alone
set_option linter.unusedVariables false
set_option linter.unusedSimpArgs false

/-! ### curve_Drive: function 29 -/
def curve_Drive.f (a0_0 : Int) (a0_1 : Int) (a0_2 : Int) (a0_3 : Int) (a0_4 : Int) (a0_5 : Int) (a0_6 : Int) (a0_7 : Int) (a0_8 : Int) (a0_9 : Int) (a1 : Int) (a2 : Int) : Option (Int × Int × Int) := (curve_asked.f a0_0 a0_1 a0_2 a0_3 a0_4 a0_5 a0_6 a0_7 a0_8 a0_9 a1 a2).bind fun t103 => (if t103 = 0 then ((curve_drive.f a0_0 a0_1 a0_2 a0_3 a0_4 a0_5 a0_6 a0_7 a0_8 a0_9 a1 a2).bind fun bt104 => (some (bt104.1, bt104.2, 0))) else (some (0, 0, t103)))
set_option maxHeartbeats 8000000 in
set_option maxRecDepth 100000 in
theorem curve_Drive.calls (a0_0 : Int) (a0_1 : Int) (a0_2 : Int) (a0_3 : Int) (a0_4 : Int) (a0_5 : Int) (a0_6 : Int) (a0_7 : Int) (a0_8 : Int) (a0_9 : Int) (a1 : Int) (a2 : Int) (r1 : Int) (r2 : Int) (r3 : Int) (w : World) (h : curve_Drive.f a0_0 a0_1 a0_2 a0_3 a0_4 a0_5 a0_6 a0_7 a0_8 a0_9 a1 a2 = some (r1, r2, r3)) :
    Calls Try.prog 29 #[.agg #[.int .i64 a0_0, .int .i64 a0_1, .int .i64 a0_2, .int .i64 a0_3, .int .i64 a0_4, .int .i64 a0_5, .int .i64 a0_6, .int .i64 a0_7, .int .i64 a0_8, .int .i64 a0_9], .int .i64 a1, .int .i64 a2] w fun e w' => e = .returned (.tuple #[.agg #[.int .i64 r1, .int .i64 r2], .int .i64 r3]) ∧ Below w.heap.size w w' := by
  have hu42 := Try.underlying42
  have hu35 := Try.underlying35
  have HB := Aside0.mk (Below.refl w.heap.size w)
  have H : ((curve_asked.f a0_0 a0_1 a0_2 a0_3 a0_4 a0_5 a0_6 a0_7 a0_8 a0_9 a1 a2).bind fun t103 => (if t103 = 0 then ((curve_drive.f a0_0 a0_1 a0_2 a0_3 a0_4 a0_5 a0_6 a0_7 a0_8 a0_9 a1 a2).bind fun bt104 => (some (bt104.1, bt104.2, 0))) else (some (0, 0, t103)))) = some (r1, r2, r3) := h
  clear h
  replace H := Option.bind_eq_some_iff.mp H
  obtain ⟨t103, A40, H⟩ := H
  replace H : (if t103 = 0 then ((curve_drive.f a0_0 a0_1 a0_2 a0_3 a0_4 a0_5 a0_6 a0_7 a0_8 a0_9 a1 a2).bind fun bt104 => (some (bt104.1, bt104.2, 0))) else (some (0, 0, t103))) = some (r1, r2, r3) := H
  have A4 := Aside0.mk A40
  clear A40
  by_cases c5 : t103 = 0
  · rw [if_pos c5] at H
    have c5b0 : (t103 == 0) = true := beq_iff_eq.mpr c5
    have c5b1 : (t103 != 0) = false := bne_eq_false_iff_eq.mpr c5
    clear c5
    replace H := Option.bind_eq_some_iff.mp H
    obtain ⟨⟨t104, t105⟩, A60, H⟩ := H
    replace H : (some (t104, t105, 0)) = some (r1, r2, r3) := H
    have A6 := Aside0.mk A60
    clear A60
    simp only [Option.some.injEq, Prod.mk.injEq] at H
    obtain ⟨rfl, rfl, rfl⟩ := H
    go_enter Try.func29, Try.ntmps29
    go_wp2_with (first | ((with_reducible refine gate_dst (N := 3) rfl ?_); refine box_event ?hg (N := 3) ?hd (cs := #[.int .i64 a0_0, .int .i64 a0_1, .int .i64 a0_2, .int .i64 a0_3, .int .i64 a0_4, .int .i64 a0_5, .int .i64 a0_6, .int .i64 a0_7, .int .i64 a0_8, .int .i64 a0_9]) (t := 42) ?hr ?_; (case hd => rfl); (case hg => rfl); (case hr => first | (go_simp; done) | (go_simp; rfl)); intro gb101 hg w7 hbox hb; have n0_ := Aside0.mk (below_step bl hb); have n1_ := Aside0.mk (hbox); have n2_ := Aside0.mk ((by rw [hg]; exact (below_size bl) : w.heap.size ≤ gb101)); have n3_ := Aside0.mk ((by rw [hg]; exact (below_size bl) : w.heap.size ≤ gb101)); clear HB; have HB := n0_; have BK101 := n1_; have GW101 := n2_; have GE101 := n3_; clear n0_ n1_ n2_ n3_; clear hb hbox hg) | ((with_reducible refine gate_dst (N := 6) rfl ?_); refine box_event ?hg (N := 6) ?hd (cs := #[.int .i64 0, .int .i64 0]) (t := 35) ?hr ?_; (case hd => rfl); (case hg => rfl); (case hr => first | (go_simp; done) | (go_simp; rfl)); intro gb102 hg w8 hbox hb; have n0_ := Aside0.mk (blk_below (g := gb101) bk hb); have n1_ := Aside0.mk (below_step bl hb); have n2_ := Aside0.mk (hbox); have n3_ := Aside0.mk ((by rw [hg]; exact (below_size bl) : w.heap.size ≤ gb102)); have n4_ := Aside0.mk ((by rw [hg]; exact (below_size bl) : w.heap.size ≤ gb102)); have n5_ := Aside0.mk ((by rw [hg]; exact Nat.ne_of_lt (blk_lt (g := gb101) bk) : gb101 ≠ gb102)); have n6_ := Aside0.mk ((by rw [hg]; exact Nat.ne_of_gt (blk_lt (g := gb101) bk) : gb102 ≠ gb101)); clear BK101; clear HB; have BK101 := n0_; have HB := n1_; have BK102 := n2_; have GW102 := n3_; have GE102 := n4_; have NB101_102 := n5_; have NB102_101 := n6_; clear n0_ n1_ n2_ n3_ n4_ n5_ n6_; clear hb hbox hg; have hnb9 := NB101_102.out; have hnc9 := NB102_101.out; have hcz10_0 : w8.cell? ⟨gb101, 0, none⟩ = some (.int .i64 a0_0) := (blk_cell BK101.out 0).trans rfl; have hcz10_1 : w8.cell? ⟨gb101, 1, none⟩ = some (.int .i64 a0_1) := (blk_cell BK101.out 1).trans rfl; have hcz10_2 : w8.cell? ⟨gb101, 2, none⟩ = some (.int .i64 a0_2) := (blk_cell BK101.out 2).trans rfl; have hcz10_3 : w8.cell? ⟨gb101, 3, none⟩ = some (.int .i64 a0_3) := (blk_cell BK101.out 3).trans rfl; have hcz10_4 : w8.cell? ⟨gb101, 4, none⟩ = some (.int .i64 a0_4) := (blk_cell BK101.out 4).trans rfl; have hcz10_5 : w8.cell? ⟨gb101, 5, none⟩ = some (.int .i64 a0_5) := (blk_cell BK101.out 5).trans rfl; have hcz10_6 : w8.cell? ⟨gb101, 6, none⟩ = some (.int .i64 a0_6) := (blk_cell BK101.out 6).trans rfl; have hcz10_7 : w8.cell? ⟨gb101, 7, none⟩ = some (.int .i64 a0_7) := (blk_cell BK101.out 7).trans rfl; have hcz10_8 : w8.cell? ⟨gb101, 8, none⟩ = some (.int .i64 a0_8) := (blk_cell BK101.out 8).trans rfl; have hcz10_9 : w8.cell? ⟨gb101, 9, none⟩ = some (.int .i64 a0_9) := (blk_cell BK101.out 9).trans rfl; have hfz10_0 := blk_frozen BK101.out 0; have hfz10_1 := blk_frozen BK101.out 1; have hfz10_2 := blk_frozen BK101.out 2; have hfz10_3 := blk_frozen BK101.out 3; have hfz10_4 := blk_frozen BK101.out 4; have hfz10_5 := blk_frozen BK101.out 5; have hfz10_6 := blk_frozen BK101.out 6; have hfz10_7 := blk_frozen BK101.out 7; have hfz10_8 := blk_frozen BK101.out 8; have hfz10_9 := blk_frozen BK101.out 9) | ((with_reducible refine gate_callee (f := 79) rfl ?_); refine goesL_ (some 12) rfl rfl Try.func79 (by kernel_rfl) rfl #[.agg #[.int .i64 a0_0, .int .i64 a0_1, .int .i64 a0_2, .int .i64 a0_3, .int .i64 a0_4, .int .i64 a0_5, .int .i64 a0_6, .int .i64 a0_7, .int .i64 a0_8, .int .i64 a0_9], .int .i64 a1, .int .i64 a2] rfl (by (try simp only [List.map_toArray, List.map_cons, List.map_nil]); first | done | rfl | (simp only [List.length_drop, List.length_take]; rfl)) ?_; (with_reducible refine (curve_asked.calls a0_0 a0_1 a0_2 a0_3 a0_4 a0_5 a0_6 a0_7 a0_8 a0_9 a1 a2 t103 _ A4.out).mono ?_); rintro e w11 ⟨rfl, hb⟩; refine ⟨_, rfl, ?_⟩; have n0_ := Aside0.mk (blk_below (g := gb101) bk hb); have n1_ := Aside0.mk (blk_below (g := gb102) bk hb); have n2_ := Aside0.mk (below_step bl hb); clear BK101; clear BK102; clear HB; have BK101 := n0_; have BK102 := n1_; have HB := n2_; clear n0_ n1_ n2_; (try clear hb); (try clear hb2); (try clear hk); (try clear hi); have hcz12_0 : w11.cell? ⟨gb101, 0, none⟩ = some (.int .i64 a0_0) := (blk_cell BK101.out 0).trans rfl; have hcz12_1 : w11.cell? ⟨gb101, 1, none⟩ = some (.int .i64 a0_1) := (blk_cell BK101.out 1).trans rfl; have hcz12_2 : w11.cell? ⟨gb101, 2, none⟩ = some (.int .i64 a0_2) := (blk_cell BK101.out 2).trans rfl; have hcz12_3 : w11.cell? ⟨gb101, 3, none⟩ = some (.int .i64 a0_3) := (blk_cell BK101.out 3).trans rfl; have hcz12_4 : w11.cell? ⟨gb101, 4, none⟩ = some (.int .i64 a0_4) := (blk_cell BK101.out 4).trans rfl; have hcz12_5 : w11.cell? ⟨gb101, 5, none⟩ = some (.int .i64 a0_5) := (blk_cell BK101.out 5).trans rfl; have hcz12_6 : w11.cell? ⟨gb101, 6, none⟩ = some (.int .i64 a0_6) := (blk_cell BK101.out 6).trans rfl; have hcz12_7 : w11.cell? ⟨gb101, 7, none⟩ = some (.int .i64 a0_7) := (blk_cell BK101.out 7).trans rfl; have hcz12_8 : w11.cell? ⟨gb101, 8, none⟩ = some (.int .i64 a0_8) := (blk_cell BK101.out 8).trans rfl; have hcz12_9 : w11.cell? ⟨gb101, 9, none⟩ = some (.int .i64 a0_9) := (blk_cell BK101.out 9).trans rfl; have hfz12_0 := blk_frozen BK101.out 0; have hfz12_1 := blk_frozen BK101.out 1; have hfz12_2 := blk_frozen BK101.out 2; have hfz12_3 := blk_frozen BK101.out 3; have hfz12_4 := blk_frozen BK101.out 4; have hfz12_5 := blk_frozen BK101.out 5; have hfz12_6 := blk_frozen BK101.out 6; have hfz12_7 := blk_frozen BK101.out 7; have hfz12_8 := blk_frozen BK101.out 8; have hfz12_9 := blk_frozen BK101.out 9) | ((with_reducible refine gate_callee (f := 83) rfl ?_); refine goesL_ (some 20) rfl rfl Try.func83 (by kernel_rfl) rfl #[.agg #[.int .i64 a0_0, .int .i64 a0_1, .int .i64 a0_2, .int .i64 a0_3, .int .i64 a0_4, .int .i64 a0_5, .int .i64 a0_6, .int .i64 a0_7, .int .i64 a0_8, .int .i64 a0_9], .int .i64 a1, .int .i64 a2] rfl (by (try simp only [List.map_toArray, List.map_cons, List.map_nil]); first | done | rfl | (simp only [List.length_drop, List.length_take]; rfl)) ?_; (with_reducible refine (curve_drive.calls a0_0 a0_1 a0_2 a0_3 a0_4 a0_5 a0_6 a0_7 a0_8 a0_9 a1 a2 t104 t105 _ A6.out).mono ?_); rintro e w13 ⟨rfl, hb⟩; refine ⟨_, rfl, ?_⟩; have n0_ := Aside0.mk (blk_below (g := gb101) bk hb); have n1_ := Aside0.mk (blk_below (g := gb102) bk hb); have n2_ := Aside0.mk (below_step bl hb); clear BK101; clear BK102; clear HB; have BK101 := n0_; have BK102 := n1_; have HB := n2_; clear n0_ n1_ n2_; (try clear hb); (try clear hb2); (try clear hk); (try clear hi); have hcz14_0 : w13.cell? ⟨gb102, 0, none⟩ = some (.int .i64 0) := (blk_cell BK102.out 0).trans rfl; have hcz14_1 : w13.cell? ⟨gb102, 1, none⟩ = some (.int .i64 0) := (blk_cell BK102.out 1).trans rfl; have hfz14_0 := blk_frozen BK102.out 0; have hfz14_1 := blk_frozen BK102.out 1))
    refine bodyPost_ret (results_ct rfl _ _ gb102 35 #[.int .i64 t104, .int .i64 t105] (0, 0) _ rfl (by (with_reducible repeat (first | refine blk_drewN ?_ _ | refine blk_drew ?_ | refine blk_alloc ?_ _)); refine blk_put (cs := #[.int .i64 t104, .int .i64 0]) ?_ 1 _ rfl; (with_reducible repeat (first | refine blk_drewN ?_ _ | refine blk_drew ?_ | refine blk_alloc ?_ _)); refine blk_put (cs := #[.int .i64 0, .int .i64 0]) ?_ 0 _ rfl; (with_reducible repeat (first | refine blk_drewN ?_ _ | refine blk_drew ?_ | refine blk_alloc ?_ _)); exact BK102.out) Try.underlying35 rfl (by kernel_rfl)) rfl ?_
    exact ⟨by first | rfl | (simp [errW_none, errW_some] <;> rfl) | (simp [*, errW_none, errW_some] <;> rfl), bl⟩
  · rw [if_neg c5] at H
    have c5b0 : (t103 == 0) = false := beq_eq_false_iff_ne.mpr c5
    have c5b1 : (t103 != 0) = true := bne_iff_ne.mpr c5
    simp only [Option.some.injEq, Prod.mk.injEq] at H
    obtain ⟨rfl, rfl, rfl⟩ := H
    go_enter Try.func29, Try.ntmps29
    go_wp2_with (first | ((with_reducible refine gate_dst (N := 3) rfl ?_); refine box_event ?hg (N := 3) ?hd (cs := #[.int .i64 a0_0, .int .i64 a0_1, .int .i64 a0_2, .int .i64 a0_3, .int .i64 a0_4, .int .i64 a0_5, .int .i64 a0_6, .int .i64 a0_7, .int .i64 a0_8, .int .i64 a0_9]) (t := 42) ?hr ?_; (case hd => rfl); (case hg => rfl); (case hr => first | (go_simp; done) | (go_simp; rfl)); intro gb101 hg w15 hbox hb; have n0_ := Aside0.mk (below_step bl hb); have n1_ := Aside0.mk (hbox); have n2_ := Aside0.mk ((by rw [hg]; exact (below_size bl) : w.heap.size ≤ gb101)); have n3_ := Aside0.mk ((by rw [hg]; exact (below_size bl) : w.heap.size ≤ gb101)); clear HB; have HB := n0_; have BK101 := n1_; have GW101 := n2_; have GE101 := n3_; clear n0_ n1_ n2_ n3_; clear hb hbox hg) | ((with_reducible refine gate_dst (N := 6) rfl ?_); refine box_event ?hg (N := 6) ?hd (cs := #[.int .i64 0, .int .i64 0]) (t := 35) ?hr ?_; (case hd => rfl); (case hg => rfl); (case hr => first | (go_simp; done) | (go_simp; rfl)); intro gb102 hg w16 hbox hb; have n0_ := Aside0.mk (blk_below (g := gb101) bk hb); have n1_ := Aside0.mk (below_step bl hb); have n2_ := Aside0.mk (hbox); have n3_ := Aside0.mk ((by rw [hg]; exact (below_size bl) : w.heap.size ≤ gb102)); have n4_ := Aside0.mk ((by rw [hg]; exact (below_size bl) : w.heap.size ≤ gb102)); have n5_ := Aside0.mk ((by rw [hg]; exact Nat.ne_of_lt (blk_lt (g := gb101) bk) : gb101 ≠ gb102)); have n6_ := Aside0.mk ((by rw [hg]; exact Nat.ne_of_gt (blk_lt (g := gb101) bk) : gb102 ≠ gb101)); clear BK101; clear HB; have BK101 := n0_; have HB := n1_; have BK102 := n2_; have GW102 := n3_; have GE102 := n4_; have NB101_102 := n5_; have NB102_101 := n6_; clear n0_ n1_ n2_ n3_ n4_ n5_ n6_; clear hb hbox hg; have hnb17 := NB101_102.out; have hnc17 := NB102_101.out; have hcz18_0 : w16.cell? ⟨gb101, 0, none⟩ = some (.int .i64 a0_0) := (blk_cell BK101.out 0).trans rfl; have hcz18_1 : w16.cell? ⟨gb101, 1, none⟩ = some (.int .i64 a0_1) := (blk_cell BK101.out 1).trans rfl; have hcz18_2 : w16.cell? ⟨gb101, 2, none⟩ = some (.int .i64 a0_2) := (blk_cell BK101.out 2).trans rfl; have hcz18_3 : w16.cell? ⟨gb101, 3, none⟩ = some (.int .i64 a0_3) := (blk_cell BK101.out 3).trans rfl; have hcz18_4 : w16.cell? ⟨gb101, 4, none⟩ = some (.int .i64 a0_4) := (blk_cell BK101.out 4).trans rfl; have hcz18_5 : w16.cell? ⟨gb101, 5, none⟩ = some (.int .i64 a0_5) := (blk_cell BK101.out 5).trans rfl; have hcz18_6 : w16.cell? ⟨gb101, 6, none⟩ = some (.int .i64 a0_6) := (blk_cell BK101.out 6).trans rfl; have hcz18_7 : w16.cell? ⟨gb101, 7, none⟩ = some (.int .i64 a0_7) := (blk_cell BK101.out 7).trans rfl; have hcz18_8 : w16.cell? ⟨gb101, 8, none⟩ = some (.int .i64 a0_8) := (blk_cell BK101.out 8).trans rfl; have hcz18_9 : w16.cell? ⟨gb101, 9, none⟩ = some (.int .i64 a0_9) := (blk_cell BK101.out 9).trans rfl; have hfz18_0 := blk_frozen BK101.out 0; have hfz18_1 := blk_frozen BK101.out 1; have hfz18_2 := blk_frozen BK101.out 2; have hfz18_3 := blk_frozen BK101.out 3; have hfz18_4 := blk_frozen BK101.out 4; have hfz18_5 := blk_frozen BK101.out 5; have hfz18_6 := blk_frozen BK101.out 6; have hfz18_7 := blk_frozen BK101.out 7; have hfz18_8 := blk_frozen BK101.out 8; have hfz18_9 := blk_frozen BK101.out 9) | ((with_reducible refine gate_callee (f := 79) rfl ?_); refine goesL_ (some 12) rfl rfl Try.func79 (by kernel_rfl) rfl #[.agg #[.int .i64 a0_0, .int .i64 a0_1, .int .i64 a0_2, .int .i64 a0_3, .int .i64 a0_4, .int .i64 a0_5, .int .i64 a0_6, .int .i64 a0_7, .int .i64 a0_8, .int .i64 a0_9], .int .i64 a1, .int .i64 a2] rfl (by (try simp only [List.map_toArray, List.map_cons, List.map_nil]); first | done | rfl | (simp only [List.length_drop, List.length_take]; rfl)) ?_; (with_reducible refine (curve_asked.calls a0_0 a0_1 a0_2 a0_3 a0_4 a0_5 a0_6 a0_7 a0_8 a0_9 a1 a2 t103 _ A4.out).mono ?_); rintro e w19 ⟨rfl, hb⟩; refine ⟨_, rfl, ?_⟩; have n0_ := Aside0.mk (blk_below (g := gb101) bk hb); have n1_ := Aside0.mk (blk_below (g := gb102) bk hb); have n2_ := Aside0.mk (below_step bl hb); clear BK101; clear BK102; clear HB; have BK101 := n0_; have BK102 := n1_; have HB := n2_; clear n0_ n1_ n2_; (try clear hb); (try clear hb2); (try clear hk); (try clear hi); have hcz20_0 : w19.cell? ⟨gb102, 0, none⟩ = some (.int .i64 0) := (blk_cell BK102.out 0).trans rfl; have hcz20_1 : w19.cell? ⟨gb102, 1, none⟩ = some (.int .i64 0) := (blk_cell BK102.out 1).trans rfl; have hfz20_0 := blk_frozen BK102.out 0; have hfz20_1 := blk_frozen BK102.out 1))
    refine bodyPost_ret (results_ct rfl _ _ gb102 35 #[.int .i64 0, .int .i64 0] (0, 0) _ rfl (by (with_reducible repeat (first | refine blk_drewN ?_ _ | refine blk_drew ?_ | refine blk_alloc ?_ _)); refine blk_put (cs := #[.int .i64 0, .int .i64 0]) ?_ 1 _ rfl; (with_reducible repeat (first | refine blk_drewN ?_ _ | refine blk_drew ?_ | refine blk_alloc ?_ _)); refine blk_put (cs := #[.int .i64 0, .int .i64 0]) ?_ 0 _ rfl; (with_reducible repeat (first | refine blk_drewN ?_ _ | refine blk_drew ?_ | refine blk_alloc ?_ _)); exact BK102.out) Try.underlying35 rfl (by kernel_rfl)) rfl ?_
    exact ⟨by first | rfl | (simp [errW_none, errW_some] <;> rfl) | (simp [*, errW_none, errW_some] <;> rfl), bl⟩

end Go.Proofs.Ytbomgfbfnkfamaa.PAll
end
section
set_option linter.unusedVariables false
namespace Go.Proofs.Ytbomgfbfnkfamaa.Mp
open Go.RowKit Go.Proofs.YtbomgfbfnkfamaaW.PrintWords Go.Proofs.YtbomgfbfnkfamaaW.PrintMore Go.Proofs.Ytbomgfbfnkfamaa.PAll

set_option maxRecDepth 100000 in
theorem awake_ok : Ev thermionlaw02_awake.f true := Ev.of thermionlaw02_awake.mono (k := 100) (by kernel_rfl)
theorem awake_at : ∃ K, ∀ k, K ≤ k → thermionlaw02_awake.f k = some true := awake_ok
end Go.Proofs.Ytbomgfbfnkfamaa.Mp
end
section
set_option linter.unusedVariables false
namespace Go.Proofs.Ytbomgfbfnkfamaa.Mp
open Go.RowKit Go.Proofs.YtbomgfbfnkfamaaW.PrintWords Go.Proofs.YtbomgfbfnkfamaaW.PrintMore Go.Proofs.Ytbomgfbfnkfamaa.PAll

theorem withinR_f (s : Int) {lo hi : Int} (ex : Bool) (h : lo ≤ hi) (h0 : -4000000000000000000 ≤ lo) (h1 : hi ≤ 4000000000000000000) :
    ∃ x y s', withinR s lo hi ex = some (x, y, s') ∧ lo ≤ x ∧ x ≤ y ∧ y ≤ hi := by
  have hm : mx lo hi = hi := by unfold mx; split <;> omega
  unfold withinR
  rw [hm]
  obtain ⟨a, s1, e1, a1, a2⟩ := between_f s h h0 h1
  obtain ⟨b, s2, e2, b1, b2⟩ := between_f s1 h h0 h1
  rw [e1, Option.bind_some]
  dsimp only
  rw [e2, Option.bind_some]
  dsimp only
  cases ex with
  | true => exact ⟨a, a, s2, by rw [if_pos rfl], a1, Int.le_refl _, a2⟩
  | false => exact ⟨_, _, s2, by rw [if_neg (by simp)], by unfold mn; split <;> omega, by unfold mn mx; split <;> split <;> omega, by unfold mx; split <;> omega⟩
/-- A law within another one. -/
structure SubLaw (p0 p1 g0 g1 s0 s1 f0 f1 q0 q1 p0' p1' g0' g1' s0' s1' f0' f1' q0' q1' : Int) : Prop where
  p : p0 ≤ p0' ∧ p0' ≤ p1' ∧ p1' ≤ p1
  g : g0 ≤ g0' ∧ g0' ≤ g1' ∧ g1' ≤ g1
  s : s0 ≤ s0' ∧ s0' ≤ s1' ∧ s1' ≤ s1
  f : f0 ≤ f0' ∧ f0' ≤ f1' ∧ f1' ≤ f1
  q : q0 ≤ q0' ∧ q0' ≤ q1' ∧ q1' ≤ q1
theorem SubLaw.ok {p0 p1 g0 g1 s0 s1 f0 f1 q0 q1 p0' p1' g0' g1' s0' s1' f0' f1' q0' q1' : Int} (h : LawOk p0 p1 g0 g1 s0 s1 f0 f1 q0 q1)
    (k : SubLaw p0 p1 g0 g1 s0 s1 f0 f1 q0 q1 p0' p1' g0' g1' s0' s1' f0' f1' q0' q1') : LawOk p0' p1' g0' g1' s0' s1' f0' f1' q0' q1' := by
  obtain ⟨a, b, c, d, e⟩ := h
  obtain ⟨a', b', c', d', e'⟩ := k
  exact ⟨by omega, by omega, by omega, by omega, by omega⟩
theorem withinLaw_f {p0 p1 g0 g1 s0 s1 f0 f1 q0 q1 : Int} (h : LawOk p0 p1 g0 g1 s0 s1 f0 f1 q0 q1) (t : Int) (ex : Bool) :
    ∃ p0' p1' g0' g1' s0' s1' f0' f1' q0' q1' t', SubLaw p0 p1 g0 g1 s0 s1 f0 f1 q0 q1 p0' p1' g0' g1' s0' s1' f0' f1' q0' q1' ∧ thermionkit_WithinLaw.f t p0 p1 g0 g1 s0 s1 f0 f1 q0 q1 ex = some (p0', p1', g0', g1', s0', s1', f0', f1', q0', q1', t') := by
  obtain ⟨a, b, c, d, e⟩ := h
  obtain ⟨x0, y0, t0, e0, h0⟩ := withinR_f t (lo := p0) (hi := p1) ex (by omega) (by omega) (by omega)
  obtain ⟨x1, y1, t1, e1, h1⟩ := withinR_f t0 (lo := g0) (hi := g1) ex (by omega) (by omega) (by omega)
  obtain ⟨x2, y2, t2, e2, h2⟩ := withinR_f t1 (lo := s0) (hi := s1) ex (by omega) (by omega) (by omega)
  obtain ⟨x3, y3, t3, e3, h3⟩ := withinR_f t2 (lo := f0) (hi := f1) ex (by omega) (by omega) (by omega)
  obtain ⟨x4, y4, t4, e4, h4⟩ := withinR_f t3 (lo := q0) (hi := q1) ex (by omega) (by omega) (by omega)
  refine ⟨_, _, _, _, _, _, _, _, _, _, t4, ⟨h0, h1, h2, h3, h4⟩, ?_⟩
  unfold thermionkit_WithinLaw.f
  rw [e0, Option.bind_some]
  dsimp only
  rw [e1, Option.bind_some]
  dsimp only
  rw [e2, Option.bind_some]
  dsimp only
  rw [e3, Option.bind_some]
  dsimp only
  rw [e4, Option.bind_some]
/-- The drive of a right law at right voltages. -/
theorem Drive_f {p0 p1 g0 g1 s0 s1 f0 f1 q0 q1 grid plate : Int} (h : LawOk p0 p1 g0 g1 s0 s1 f0 f1 q0 q1) (hv : Volts grid plate) :
    curve_Drive.f p0 p1 g0 g1 s0 s1 f0 f1 q0 q1 grid plate = some (dLo g1 s0 grid plate, dHi g0 s1 grid plate, 0) := by
  unfold curve_Drive.f curve_asked.f
  rw [checkLaw_ok h]
  simp only [Option.bind_some, if_true]
  rw [volts_ok hv]
  simp only [Option.bind_some, if_true]
  rw [drive_f h hv]
  rfl
theorem within_lo {p0 p1 g0 g1 s0 s1 f0 f1 q0 q1 p0' p1' g0' g1' s0' s1' f0' f1' q0' q1' grid plate : Int} (h : LawOk p0 p1 g0 g1 s0 s1 f0 f1 q0 q1)
    (k : SubLaw p0 p1 g0 g1 s0 s1 f0 f1 q0 q1 p0' p1' g0' g1' s0' s1' f0' f1' q0' q1') (hp : 0 ≤ plate) :
    cLo p0 g1 s0 f0 q0 grid plate ≤ cLo p0' g1' s0' f0' q0' grid plate ∧ cHi p1' g0' s1' f1' q1' grid plate ≤ cHi p1 g0 s1 f1 q1 grid plate
    ∧ dLo g1 s0 grid plate ≤ dLo g1' s0' grid plate ∧ dHi g0' s1' grid plate ≤ dHi g0 s1 grid plate := by
  obtain ⟨a, b, c, d, e⟩ := h
  obtain ⟨a', b', c', d', e'⟩ := k
  refine ⟨?_, ?_, ?_, ?_⟩
  · exact cLo_mono (by omega) (by omega) (by omega) (by omega) (by omega) (by omega) (by omega) (by omega) (by omega) (by omega) (by omega) (by omega)
  · exact cHi_mono (by omega) (by omega) (by omega) (by omega) (by omega) (by omega) (by omega) (by omega) (by omega) (by omega) (by omega) (by omega)
  · exact dLo_mono (by omega) (by omega) (by omega) (by omega) hp (by omega)
  · exact dHi_mono (by omega) (by omega) (by omega) (by omega) hp (by omega)
end Go.Proofs.Ytbomgfbfnkfamaa.Mp
end
section
set_option linter.unusedVariables false
namespace Go.Proofs.Ytbomgfbfnkfamaa.Mp
open Go.RowKit Go.Proofs.YtbomgfbfnkfamaaW.PrintWords Go.Proofs.YtbomgfbfnkfamaaW.PrintMore Go.Proofs.Ytbomgfbfnkfamaa.PAll

theorem ofRow_ok {p0 p1 g0 g1 s0 s1 f0 f1 q0 q1 : Int} (h : LawOk p0 p1 g0 g1 s0 s1 f0 f1 q0 q1) {g : Int} (hg0 : -1000000 ≤ g) (hg1 : g ≤ 1000000) : ∀ plate : List Int, (∀ p ∈ plate, 0 ≤ p ∧ p ≤ 1000000) →
    ∃ K, ∀ k, K ≤ k → ofRow k p0 p1 g0 g1 s0 s1 f0 f1 q0 q1 g plate = some (plate.map (cLo p0 g1 s0 f0 q0 g), plate.map (cHi p1 g0 s1 f1 q1 g)) := by
  intro plate
  induction plate with
  | nil => intro _; exact ⟨0, fun _ _ => rfl⟩
  | cons p t ih =>
    intro hp
    have hp1 := hp p List.mem_cons_self
    obtain ⟨K1, h1⟩ := current_f h (grid := g) (plate := p) ⟨hg0, hg1, hp1.1, hp1.2⟩
    obtain ⟨K2, h2⟩ := ih fun q hq => hp q (List.mem_cons_of_mem _ hq)
    refine ⟨K1 + K2, fun k hk => ?_⟩
    rw [ofRow, h1 k (by omega), Option.bind_some, h2 k (by omega), Option.bind_some]
    rfl
theorem ofTab_ok {p0 p1 g0 g1 s0 s1 f0 f1 q0 q1 : Int} (h : LawOk p0 p1 g0 g1 s0 s1 f0 f1 q0 q1) {plate : List Int} (hp : ∀ p ∈ plate, 0 ≤ p ∧ p ≤ 1000000) : ∀ grid : List Int, (∀ g ∈ grid, -1000000 ≤ g ∧ g ≤ 1000000) →
    ∃ K, ∀ k, K ≤ k → ofTab k p0 p1 g0 g1 s0 s1 f0 f1 q0 q1 plate grid = some (tabOf (cLo p0 g1 s0 f0 q0) grid plate, tabOf (cHi p1 g0 s1 f1 q1) grid plate) := by
  intro grid
  induction grid with
  | nil => intro _; exact ⟨0, fun _ _ => rfl⟩
  | cons g t ih =>
    intro hg
    have hg1 := hg g List.mem_cons_self
    obtain ⟨K1, h1⟩ := ofRow_ok h hg1.1 hg1.2 plate hp
    obtain ⟨K2, h2⟩ := ih fun q hq => hg q (List.mem_cons_of_mem _ hq)
    refine ⟨K1 + K2, fun k hk => ?_⟩
    rw [ofTab, h1 k (by omega), Option.bind_some, h2 k (by omega), Option.bind_some]
    rfl
theorem LinesOk.mem {lo hi : Int} {l : List Int} (h : LinesOk lo hi l) : ∀ v ∈ l, lo ≤ v ∧ v ≤ hi := by
  intro v hv
  obtain ⟨i, hi, rfl⟩ := mem_nth hv
  exact h.bnd i hi
theorem cLo_bounds {p0 p1 g0 g1 s0 s1 f0 f1 q0 q1 grid plate : Int} (h : LawOk p0 p1 g0 g1 s0 s1 f0 f1 q0 q1) : 0 ≤ cLo p0 g1 s0 f0 q0 grid plate := by
  obtain ⟨hp, hg, hs, hf, hq⟩ := h
  have b : 0 ≤ dLo g1 s0 grid plate ∧ dLo g1 s0 grid plate ≤ 1000000 := clamp_bounds _
  have r := rt_le b.1 b.2
  have L := endLo_bounds (p := p0) (f := f0) (q := q0) (by omega) (by omega) (by omega) (by omega) (by omega) (by omega) r.1 r.2
  unfold cLo
  omega
theorem cHi_bounds {p0 p1 g0 g1 s0 s1 f0 f1 q0 q1 grid plate : Int} (h : LawOk p0 p1 g0 g1 s0 s1 f0 f1 q0 q1) : cHi p1 g0 s1 f1 q1 grid plate ≤ 1000000 := by
  obtain ⟨hp, hg, hs, hf, hq⟩ := h
  have b : 0 ≤ dHi g0 s1 grid plate ∧ dHi g0 s1 grid plate ≤ 1000000 := clamp_bounds _
  have r := rt_le b.1 b.2
  have r2 := rtUp_bounds b.1 b.2
  have L := endHi_bounds (p := p1) (f := f1) (q := q1) (r := rtUp (dHi g0 s1 grid plate * dHi g0 s1 grid plate * dHi g0 s1 grid plate)) (by omega) (by omega) (by omega) (by omega) (by omega) (by omega) (by omega) (by omega)
  unfold cHi
  omega
theorem fam_of {p0 p1 g0 g1 s0 s1 f0 f1 q0 q1 : Int} (h : LawOk p0 p1 g0 g1 s0 s1 f0 f1 q0 q1) {grid plate : List Int} (hg : LinesOk (-1000000) 1000000 grid) (hp : LinesOk 0 1000000 plate)
    (l0 : 1 ≤ grid.length) (l1 : grid.length ≤ 40) (m0 : 1 ≤ plate.length) (m1 : plate.length ≤ 40) : FamOk grid plate (tabOf (cLo p0 g1 s0 f0 q0) grid plate) (tabOf (cHi p1 g0 s1 f1 q1) grid plate) := by
  have hl := h
  obtain ⟨a, b, c, d, e⟩ := h
  refine ⟨hg, hp, l0, l1, m0, m1, tabOf_tab _ _ _, tabOf_tab _ _ _, fun i k hi hk => ?_, fun i k hi hk => ?_, fun i k hi hk => ?_⟩
  · rw [vc_tabOf _ hi hk, vc_tabOf _ hi hk]
    exact ⟨cLo_bounds hl, cLo_le_cHi hl (hp.bnd k hk).1, cHi_bounds hl⟩
  · rw [vc_tabOf _ hi hk, vc_tabOf _ hi hk, vc_tabOf _ (by omega) hk, vc_tabOf _ (by omega) hk]
    have h1 := hg.asc i (i + 1) (by omega) hi
    have h2 := hp.bnd k hk
    exact ⟨cLo_mono (by omega) (by omega) (by omega) (by omega) (by omega) (by omega) (by omega) (by omega) (by omega) (by omega) (by omega) (by omega), cHi_mono (by omega) (by omega) (by omega) (by omega) (by omega) (by omega) (by omega) (by omega) (by omega) (by omega) (by omega) (by omega)⟩
  · rw [vc_tabOf _ hi hk, vc_tabOf _ hi hk, vc_tabOf _ hi (by omega), vc_tabOf _ hi (by omega)]
    have h1 := hp.asc k (k + 1) (by omega) hk
    have h2 := hp.bnd k (by omega)
    exact ⟨cLo_mono (by omega) (by omega) (by omega) (by omega) (by omega) (by omega) (by omega) (by omega) (by omega) (by omega) (by omega) (by omega), cHi_mono (by omega) (by omega) (by omega) (by omega) (by omega) (by omega) (by omega) (by omega) (by omega) (by omega) (by omega) (by omega)⟩
/-- The family of a right law at right lines. -/
theorem of_ok {p0 p1 g0 g1 s0 s1 f0 f1 q0 q1 : Int} (h : LawOk p0 p1 g0 g1 s0 s1 f0 f1 q0 q1) {grid plate : List Int} (hg : LinesOk (-1000000) 1000000 grid) (hp : LinesOk 0 1000000 plate)
    (l0 : 1 ≤ grid.length) (l1 : grid.length ≤ 40) (m0 : 1 ≤ plate.length) (m1 : plate.length ≤ 40) :
    ∃ K, ∀ k, K ≤ k → curve_Of.f k p0 p1 g0 g1 s0 s1 f0 f1 q0 q1 grid plate = some (grid, plate, tabOf (cLo p0 g1 s0 f0 q0) grid plate, tabOf (cHi p1 g0 s1 f1 q1) grid plate, 0) := by
  obtain ⟨K, hK⟩ := ofTab_ok h (hp.mem) grid hg.mem
  refine ⟨K, fun k hk => ?_⟩
  unfold curve_Of.f
  rw [checkLaw_ok h, Option.bind_some, if_pos rfl, lines_ok hg hp l0 l1 m0 m1, Option.bind_some, if_pos rfl, hK k hk, Option.bind_some]
end Go.Proofs.Ytbomgfbfnkfamaa.Mp
end
section
set_option linter.unusedVariables false
namespace Go.Proofs.Ytbomgfbfnkfamaa.Mp
open Go.RowKit Go.Proofs.YtbomgfbfnkfamaaW.PrintWords Go.Proofs.YtbomgfbfnkfamaaW.PrintMore Go.Proofs.Ytbomgfbfnkfamaa.PAll

theorem less_f (a b : Int) : cmp_Less_int.f a b = some (decide (a < b)) := by simp [cmp_Less_int.f, cmp_isNaN_int.f]
theorem bs_loop {l : List Int} (v : Int) (hl : l.length ≤ 1000) : ∀ (d i j : Nat), j - i ≤ d → i ≤ j → j ≤ l.length → (∀ q, q < i → nth l q < v) → (∀ q, j ≤ q → q < l.length → v ≤ nth l q) → Asc l →
    ∃ (p : Nat) (b : Bool), p ≤ l.length ∧ (∀ q, q < p → nth l q < v) ∧ (∀ q, p ≤ q → q < l.length → v ≤ nth l q) ∧ (b = true ↔ p < l.length ∧ nth l p = v) ∧ ∀ k, d + 1 ≤ k → slices_BinarySearch_int_int.l0 k l v (l.length : Int) (i : Int) (j : Int) = some ((p : Int), b) := by
  intro d
  induction d with
  | zero =>
    intro i j h1 h2 h3 h4 h5 ha
    obtain rfl : i = j := by omega
    by_cases hi : i < l.length
    · by_cases hv : nth l i = v
      · refine ⟨i, true, by omega, h4, h5, ⟨fun _ => ⟨hi, hv⟩, fun _ => rfl⟩, fun k hk => ?_⟩
        obtain ⟨k, rfl⟩ : ∃ z, k = z + 1 := ⟨k - 1, by omega⟩
        simp only [slices_BinarySearch_int_int.l0]
        rw [if_neg (by omega), if_pos (by omega), if_pos (by omega), if_pos (by omega), if_pos (show rd l (i : Int) = v from hv)]
      · refine ⟨i, false, by omega, h4, h5, ⟨fun h => Bool.noConfusion h, fun h => absurd h.2 hv⟩, fun k hk => ?_⟩
        obtain ⟨k, rfl⟩ : ∃ z, k = z + 1 := ⟨k - 1, by omega⟩
        simp only [slices_BinarySearch_int_int.l0]
        rw [if_neg (by omega), if_pos (by omega), if_pos (by omega), if_pos (by omega), if_neg (show ¬ rd l (i : Int) = v from hv)]
        simp [slices_isNaN_int.f]
    · refine ⟨i, false, by omega, h4, h5, ⟨fun h => Bool.noConfusion h, fun h => absurd h.1 hi⟩, fun k hk => ?_⟩
      obtain ⟨k, rfl⟩ : ∃ z, k = z + 1 := ⟨k - 1, by omega⟩
      simp only [slices_BinarySearch_int_int.l0]
      rw [if_neg (by omega), if_neg (by omega)]
  | succ d ih =>
    intro i j h1 h2 h3 h4 h5 ha
    rcases Nat.lt_or_ge i j with hij | hij
    · obtain ⟨m, hm⟩ : ∃ m : Nat, m = (i + j) / 2 := ⟨_, rfl⟩
      have hw : wrap64 ((IntKind.u64.wrap (wrap64 ((i : Int) + j))) / 2) = (m : Int) := by
        rw [wrap64_id (x := (i : Int) + j) (by omega) (by omega), IntWalk.u64_in _ (by omega), wrap64_id (by omega) (by omega)]
        omega
      by_cases hv : nth l m < v
      · obtain ⟨p, b, q1, q2, q3, q4, q5⟩ := ih (m + 1) j (by omega) (by omega) h3 (fun q hq => by
          rcases Nat.lt_or_ge q m with c | c
          · have := ha q m c (by omega); omega
          · obtain rfl : q = m := by omega
            exact hv) h5 ha
        refine ⟨p, b, q1, q2, q3, q4, fun k hk => ?_⟩
        obtain ⟨k, rfl⟩ : ∃ z, k = z + 1 := ⟨k - 1, by omega⟩
        rw [slices_BinarySearch_int_int.l0, hw, less_f, Option.bind_some, if_pos (by omega), if_pos (by omega), if_pos (by omega), if_pos (decide_eq_true (show rd l (m : Int) < v from hv)), wrap64_id (x := (m : Int) + 1) (by omega) (by omega)]
        exact q5 k (by omega)
      · obtain ⟨p, b, q1, q2, q3, q4, q5⟩ := ih i m (by omega) (by omega) (by omega) h4 (fun q hq hql => by
          rcases Nat.lt_or_ge m q with c | c
          · have := ha m q c hql; omega
          · obtain rfl : q = m := by omega
            omega) ha
        refine ⟨p, b, q1, q2, q3, q4, fun k hk => ?_⟩
        obtain ⟨k, rfl⟩ : ∃ z, k = z + 1 := ⟨k - 1, by omega⟩
        rw [slices_BinarySearch_int_int.l0, hw, less_f, Option.bind_some, if_pos (by omega), if_pos (by omega), if_pos (by omega), if_neg (by simpa using show ¬ rd l (m : Int) < v from hv)]
        exact q5 k (by omega)
    · obtain ⟨p, b, q1, q2, q3, q4, q5⟩ := ih i j (by omega) h2 h3 h4 h5 ha
      exact ⟨p, b, q1, q2, q3, q4, fun k hk => q5 k (by omega)⟩
theorem where_f {l : List Int} {lo hi : Int} (h : LinesOk lo hi l) (h0 : -1000000 ≤ lo) (h1 : hi ≤ 1000000) (hl0 : 1 ≤ l.length) (hl : l.length ≤ 40) {v : Int} (v0 : -1000000 ≤ v) (v1 : v ≤ 1000000) :
    ∃ a u o, Spot l v a u o ∧ ∀ k, 50 ≤ k → curve_where.f k l v = some (a, u, o) := by
  obtain ⟨p, b, q1, q2, q3, q4, q5⟩ := bs_loop v (by omega) l.length 0 l.length (by omega) (by omega) (by omega) (fun q hq => by omega) (fun q hq hq2 => by omega) h.asc
  have hb : ∀ k, 50 ≤ k → slices_BinarySearch_int_int.f k l v = some ((p : Int), b) := fun k hk => by unfold slices_BinarySearch_int_int.f; exact q5 k (by omega)
  cases b with
  | true =>
    obtain ⟨c1, c2⟩ := q4.1 rfl
    refine ⟨p, 0, 1, Spot.on p c1 c2, fun k hk => ?_⟩
    unfold curve_where.f
    rw [hb k hk, Option.bind_some]
    rfl
  | false =>
    have hn : ¬ (p < l.length ∧ nth l p = v) := fun c => by simpa using q4.2 c
    rcases Nat.eq_zero_or_pos p with c | c
    · subst c
      refine ⟨0, 0, 1, Spot.low (q3 0 (by omega) (by omega)), fun k hk => ?_⟩
      unfold curve_where.f
      rw [hb k hk, Option.bind_some]
      rfl
    · have hw : wrap64 ((p : Int) - 1) = ((p - 1 : Nat) : Int) := by rw [wrap64_id (by omega) (by omega)]; omega
      rcases Nat.lt_or_ge p l.length with c2 | c2
      · have b1 := h.bnd (p - 1) (by omega)
        have b2 := h.bnd p c2
        have e1 := q2 (p - 1) (by omega)
        have e2 := q3 p (by omega) c2
        have hp : p - 1 + 1 = p := by omega
        refine ⟨((p - 1 : Nat) : Int), v - nth l (p - 1), nth l p - nth l (p - 1), ?_, fun k hk => ?_⟩
        · have := Spot.mid (l := l) (v := v) (p - 1) (by omega) e1 (by rw [hp]; have : nth l p ≠ v := fun z => hn ⟨c2, z⟩; omega)
          rw [hp] at this
          exact this
        · unfold curve_where.f
          rw [hb k hk, Option.bind_some]
          dsimp only
          rw [if_neg (by simp), if_neg (by omega), if_neg (by omega), hw, if_pos (by omega), if_pos (by omega), if_pos (by omega), if_pos (by omega)]
          rw [show rd l ((p - 1 : Nat) : Int) = nth l (p - 1) from rfl, show rd l (p : Int) = nth l p from rfl, wrap64_id (by omega) (by omega), wrap64_id (by omega) (by omega)]
      · have hp : p = l.length := by omega
        refine ⟨((l.length - 1 : Nat) : Int), 0, 1, Spot.high (by have := q2 (l.length - 1) (by omega); omega), fun k hk => ?_⟩
        unfold curve_where.f
        rw [hb k hk, Option.bind_some]
        dsimp only
        rw [if_neg (by simp), if_neg (by omega), if_pos (by omega), hw, hp]
theorem where_at {l : List Int} {lo hi : Int} (h : LinesOk lo hi l) (h0 : -1000000 ≤ lo) (h1 : hi ≤ 1000000) (hl : l.length ≤ 40) {i : Nat} (hi' : i < l.length) {k : Nat} (hk : 50 ≤ k) : curve_where.f k l (nth l i) = some ((i : Int), 0, 1) := by
  have hb := h.bnd i hi'
  obtain ⟨a, u, o, hs, he⟩ := where_f h h0 h1 (by omega) hl (v := nth l i) (by omega) (by omega)
  obtain ⟨rfl, rfl, rfl⟩ := Spot.unique h.asc (by omega) hs (Spot.on i hi' rfl)
  exact he k hk
/-- A table's value lies where it may. -/
theorem valueOk_of {grid plate : List Int} {t : List (List Int)} (ht : TabOk grid.length plate.length t) (hp1 : plate.length ≤ 40) (hc : ∀ i k, i < grid.length → k < plate.length → 0 ≤ vc t i k ∧ vc t i k ≤ 1000000)
    {xa xu xo ya yu yo : Int} (x : 0 ≤ xa ∧ xa < grid.length ∧ (0 < xu → xa + 1 < grid.length) ∧ 0 ≤ xu ∧ xu ≤ xo ∧ xo ≤ 2000000) (y : 0 ≤ ya ∧ ya < plate.length ∧ (0 < yu → ya + 1 < plate.length) ∧ 0 ≤ yu ∧ yu ≤ yo ∧ yo ≤ 1000000) :
    valueOk t xa xu xo ya yu yo = true := by
  have hl := ht.len
  unfold valueOk
  simp only [Bool.and_eq_true, decide_eq_true_eq, List.all_eq_true]
  refine ⟨⟨⟨⟨⟨⟨⟨⟨⟨⟨x.1, by omega⟩, fun h => by have := x.2.2.1 h; omega⟩, x.2.2.2.1⟩, x.2.2.2.2.1⟩, x.2.2.2.2.2⟩, y.1⟩, y.2.2.2.1⟩, y.2.2.2.2.1⟩, y.2.2.2.2.2⟩, fun r hr => ?_⟩
  obtain ⟨i, hi, rfl⟩ := List.getElem_of_mem hr
  have hrow := ht.row i (by omega)
  rw [List.getD_eq_getElem?_getD, List.getElem?_eq_getElem hi, Option.getD_some] at hrow
  refine ⟨⟨⟨by omega, fun h => by have := y.2.2.1 h; omega⟩, by omega⟩, fun z hz => ?_⟩
  obtain ⟨k, hk, rfl⟩ := List.getElem_of_mem hz
  have := hc i k (by omega) (by omega)
  unfold vc at this
  rw [List.getD_eq_getElem?_getD, List.getD_eq_getElem?_getD, List.getElem?_eq_getElem hi, Option.getD_some, List.getElem?_eq_getElem hk, Option.getD_some] at this
  exact this
/-- At lines it is the table's number. -/
theorem value_at {grid plate : List Int} {t : List (List Int)} (ht : TabOk grid.length plate.length t) (hp1 : plate.length ≤ 40) (hc : ∀ i k, i < grid.length → k < plate.length → 0 ≤ vc t i k ∧ vc t i k ≤ 1000000)
    {i k : Nat} (hi : i < grid.length) (hk : k < plate.length) : curve_value.f t (i : Int) 0 1 (k : Int) 0 1 = some (vc t i k) := by
  unfold curve_value.f
  rw [if_pos (valueOk_of ht hp1 hc ⟨by omega, by omega, by omega, by omega, by omega, by omega⟩ ⟨by omega, by omega, by omega, by omega, by omega, by omega⟩)]
  unfold vrow
  rw [if_neg (by omega), if_neg (by omega)]
  simp only [Int.toNat_natCast]
  unfold vc
  congr 1
  omega
end Go.Proofs.Ytbomgfbfnkfamaa.Mp
end
section
set_option linter.unusedVariables false
namespace Go.Proofs.Ytbomgfbfnkfamaa.Mp
open Go.RowKit Go.Proofs.YtbomgfbfnkfamaaW.PrintWords Go.Proofs.YtbomgfbfnkfamaaW.PrintMore Go.Proofs.Ytbomgfbfnkfamaa.PAll

theorem insRow_ok {t1 : List Int} {t2 t3 u2 u3 : List (List Int)} {x u : Int × Int × Int} : ∀ ps : List Int, (∀ p ∈ ps, ∃ y, curve_where.f 100 t1 p = some y ∧ insAt t2 t3 u2 u3 x u y y = some true) → insRow t1 t1 t2 t3 u2 u3 x u ps = some true := by
  intro ps
  induction ps with
  | nil => intro _; rfl
  | cons p l ih =>
    intro h
    obtain ⟨y, e1, e2⟩ := h p List.mem_cons_self
    rw [insRow, e1, Option.bind_some, Option.bind_some, e2, Option.bind_some, if_pos rfl]
    exact ih fun q hq => h q (List.mem_cons_of_mem _ hq)
theorem insTab_ok {t0 t1 : List Int} {t2 t3 u2 u3 : List (List Int)} {ps : List Int} : ∀ gs : List Int, (∀ g ∈ gs, ∃ x, curve_where.f 100 t0 g = some x ∧ insRow t1 t1 t2 t3 u2 u3 x x ps = some true) → insTab t0 t1 t0 t1 t2 t3 u2 u3 ps gs = some true := by
  intro gs
  induction gs with
  | nil => intro _; rfl
  | cons g l ih =>
    intro h
    obtain ⟨x, e1, e2⟩ := h g List.mem_cons_self
    rw [insTab, e1, Option.bind_some, Option.bind_some, e2, Option.bind_some, if_pos rfl]
    exact ih fun q hq => h q (List.mem_cons_of_mem _ hq)
theorem concat_f (a b : List Int) (h : a.length + b.length < 1000000) : slices_Concat_int_int.f [a, b] = some (a ++ b) := by
  unfold slices_Concat_int_int.f
  rw [if_pos (by simp only [totLen]; omega)]
  simp
/-- What lies within number by number, at the same lines, lies inside. -/
theorem inside_same {grid plate : List Int} {lo hi lo' hi' : List (List Int)} (h : FamOk grid plate lo hi) (h' : FamOk grid plate lo' hi')
    (hw : ∀ i k, i < grid.length → k < plate.length → vc lo i k ≤ vc lo' i k ∧ vc hi' i k ≤ vc hi i k) : curve_Inside.f grid plate lo hi grid plate lo' hi' = some true := by
  unfold curve_Inside.f
  have g1 := h.g1
  have p1 := h.p1
  rw [check_ok h, Option.bind_some, if_pos rfl, check_ok h', Option.bind_some, if_pos rfl, concat_f _ _ (by omega), Option.bind_some, concat_f _ _ (by omega), Option.bind_some]
  refine insTab_ok _ fun g hg => ?_
  obtain ⟨i, hig, rfl⟩ : ∃ i, i < grid.length ∧ nth grid i = g := by
    rcases List.mem_append.1 hg with c | c <;> exact mem_nth c
  refine ⟨_, where_at h.g (by omega) (by omega) h.g1 hig (by omega), insRow_ok _ fun p hp => ?_⟩
  obtain ⟨k, hk, rfl⟩ : ∃ k, k < plate.length ∧ nth plate k = p := by
    rcases List.mem_append.1 hp with c | c <;> exact mem_nth c
  refine ⟨_, where_at h.p (by omega) (by omega) h.p1 hk (by omega), ?_⟩
  have b1 : ∀ i k, i < grid.length → k < plate.length → 0 ≤ vc lo i k ∧ vc lo i k ≤ 1000000 := fun i k a b => by have := h.cell i k a b; omega
  have b2 : ∀ i k, i < grid.length → k < plate.length → 0 ≤ vc hi i k ∧ vc hi i k ≤ 1000000 := fun i k a b => by have := h.cell i k a b; omega
  have b3 : ∀ i k, i < grid.length → k < plate.length → 0 ≤ vc lo' i k ∧ vc lo' i k ≤ 1000000 := fun i k a b => by have := h'.cell i k a b; omega
  have b4 : ∀ i k, i < grid.length → k < plate.length → 0 ≤ vc hi' i k ∧ vc hi' i k ≤ 1000000 := fun i k a b => by have := h'.cell i k a b; omega
  have c1 := b1 i k hig hk
  have c2 := b2 i k hig hk
  have c3 := b3 i k hig hk
  have c4 := b4 i k hig hk
  have c5 := hw i k hig hk
  unfold insAt
  dsimp only
  rw [value_at h'.tl h.p1 b3 hig hk, Option.bind_some, value_at h.tl h.p1 b1 hig hk, Option.bind_some, show wrap64 ((1 : Int) * 1) = 1 from wrap64_id (by omega) (by omega), Int.mul_one, Int.mul_one, wrap64_id (by omega) (by omega), wrap64_id (by omega) (by omega), if_neg (by omega),
    value_at h'.th h.p1 b4 hig hk, Option.bind_some, value_at h.th h.p1 b2 hig hk, Option.bind_some, Int.mul_one, Int.mul_one, wrap64_id (by omega) (by omega), wrap64_id (by omega) (by omega), if_neg (by omega)]
/-- At its lines a family has its tables' numbers. -/
theorem at_lines {grid plate : List Int} {lo hi : List (List Int)} (h : FamOk grid plate lo hi) {i k : Nat} (hi' : i < grid.length) (hk : k < plate.length) {n : Nat} (hn : 50 ≤ n) :
    curve_At.f n grid plate lo hi (nth grid i) (nth plate k) = some (vc lo i k, vc hi i k, 0) := by
  have b1 : ∀ i k, i < grid.length → k < plate.length → 0 ≤ vc lo i k ∧ vc lo i k ≤ 1000000 := fun i k a b => by have := h.cell i k a b; omega
  have b2 : ∀ i k, i < grid.length → k < plate.length → 0 ≤ vc hi i k ∧ vc hi i k ≤ 1000000 := fun i k a b => by have := h.cell i k a b; omega
  have c1 := b1 i k hi' hk
  have c2 := b2 i k hi' hk
  have g := h.g.bnd i hi'
  have p := h.p.bnd k hk
  unfold curve_At.f
  rw [check_ok h, Option.bind_some, if_pos rfl, volts_ok ⟨g.1, g.2, p.1, p.2⟩, Option.bind_some, if_pos rfl, where_at h.g (by omega) (by omega) h.g1 hi' hn, Option.bind_some, where_at h.p (by omega) (by omega) h.p1 hk hn, Option.bind_some]
  dsimp only
  rw [value_at h.tl h.p1 b1 hi' hk, Option.bind_some, value_at h.th h.p1 b2 hi' hk, show wrap64 ((1 : Int) * 1) = 1 from wrap64_id (by omega) (by omega), floor_f (by omega) (by omega) (by omega), Option.bind_some, Option.bind_some, ceil_f (by omega) (by omega) (by omega), Option.bind_some]
  simp [up]
end Go.Proofs.Ytbomgfbfnkfamaa.Mp
end
section
set_option linter.unusedVariables false
namespace Go.Proofs.Ytbomgfbfnkfamaa.Mp
open Go.RowKit Go.Proofs.YtbomgfbfnkfamaaW.PrintWords Go.Proofs.YtbomgfbfnkfamaaW.PrintMore Go.Proofs.Ytbomgfbfnkfamaa.PAll

theorem cl_loop {p0 p1 g0 g1 s0 s1 f0 f1 q0 q1 : Int} (hl : LawOk p0 p1 g0 g1 s0 s1 f0 f1 q0 q1) {grid plate : List Int} (hF : FamOk grid plate (tabOf (cLo p0 g1 s0 f0 q0) grid plate) (tabOf (cHi p1 g0 s1 f1 q1) grid plate)) :
    ∀ d i : Nat, i + d = grid.length → ∃ K, ∀ n, K ≤ n → thermionlaw02_CurveLines.l0 n grid plate (i : Int) p0 p1 g0 g1 s0 s1 f0 f1 q0 q1 grid plate (tabOf (cLo p0 g1 s0 f0 q0) grid plate) (tabOf (cHi p1 g0 s1 f1 q1) grid plate) = some true := by
  have gl := hF.g1
  have pl := hF.p1
  intro d
  induction d with
  | zero =>
    intro i hi
    obtain ⟨K, hK⟩ := awake_at
    refine ⟨K + 1, fun n hn => ?_⟩
    obtain ⟨n, rfl⟩ : ∃ z, n = z + 1 := ⟨n - 1, by omega⟩
    simp only [thermionlaw02_CurveLines.l0]
    rw [if_neg (by omega), hK n (by omega)]
    rfl
  | succ d ih =>
    intro i hi
    have hig : i < grid.length := by omega
    obtain ⟨K0, hK0⟩ := ih (i + 1) (by omega)
    have inner : ∀ e j : Nat, j + e = plate.length → ∃ K, ∀ n, K ≤ n → thermionlaw02_CurveLines.l1 n grid plate (i : Int) (j : Int) p0 p1 g0 g1 s0 s1 f0 f1 q0 q1 grid plate (tabOf (cLo p0 g1 s0 f0 q0) grid plate) (tabOf (cHi p1 g0 s1 f1 q1) grid plate) = some true := by
      intro e
      induction e with
      | zero =>
        intro j hj
        refine ⟨K0 + 1, fun n hn => ?_⟩
        obtain ⟨n, rfl⟩ : ∃ z, n = z + 1 := ⟨n - 1, by omega⟩
        simp only [thermionlaw02_CurveLines.l1]
        rw [if_neg (by omega), wrap64_id (x := (i : Int) + 1) (by omega) (by omega)]
        exact hK0 n (by omega)
      | succ e ih2 =>
        intro j hj
        have hjp : j < plate.length := by omega
        have b1 := hF.g.bnd i hig
        have b2 := hF.p.bnd j hjp
        obtain ⟨K1, hK1⟩ := Current_f hl (grid := nth grid i) (plate := nth plate j) ⟨b1.1, b1.2, b2.1, b2.2⟩
        obtain ⟨K2, hK2⟩ := ih2 (j + 1) (by omega)
        refine ⟨K1 + K2 + 51, fun n hn => ?_⟩
        obtain ⟨n, rfl⟩ : ∃ z, n = z + 1 := ⟨n - 1, by omega⟩
        have e1 := hK1 n (by omega)
        have e2 := at_lines hF hig hjp (n := n) (by omega)
        rw [vc_tabOf _ hig hjp, vc_tabOf _ hig hjp] at e2
        have e3 := hK2 n (by omega)
        simp only [thermionlaw02_CurveLines.l1]
        rw [if_pos (by omega), if_pos (by omega), if_pos (by omega), if_pos (by omega)]
        rw [show rd grid (i : Int) = nth grid i from rfl, show rd plate (j : Int) = nth plate j from rfl, e1, Option.bind_some, e2, Option.bind_some]
        dsimp only
        rw [if_pos rfl, if_pos rfl, if_neg (by simp), wrap64_id (x := (j : Int) + 1) (by omega) (by omega)]
        exact e3
    obtain ⟨K, hK⟩ := inner plate.length 0 (by omega)
    refine ⟨K + 1, fun n hn => ?_⟩
    obtain ⟨n, rfl⟩ : ∃ z, n = z + 1 := ⟨n - 1, by omega⟩
    simp only [thermionlaw02_CurveLines.l0]
    rw [if_pos (by omega)]
    exact hK n (by omega)
theorem clines_holds (l0 : List Int) : ∃ k, thermionlaw02_CurveLines.f k l0 = some true := by
  obtain ⟨s, hs⟩ := newDice_f l0
  obtain ⟨p0, p1, g0, g1, s0, s1, f0, f1, q0, q1, s', hl, hlk⟩ := lawOf_f s
  obtain ⟨b, s2, eb⟩ := one_f s' (n := 2) (by omega) (by omega)
  obtain ⟨p0', p1', g0', g1', s0', s1', f0', f1', q0', q1', t', hsub, hm⟩ := withinLaw_f hl s2 b
  have hl' := SubLaw.ok hl hsub
  obtain ⟨grid, t2, eg, hg, hg0, hg1⟩ := lines_f t' (lo := -9000) (hi := 9000) (most := 5) (by omega) (by omega) (by omega) (by omega) (by omega)
  obtain ⟨plate, t3, ep, hp, hp0, hp1⟩ := lines_f t2 (lo := 0) (hi := 400000) (most := 5) (by omega) (by omega) (by omega) (by omega) (by omega)
  have hg' : LinesOk (-1000000) 1000000 grid := hg.wide (by omega) (by omega)
  have hp' : LinesOk 0 1000000 plate := hp.wide (by omega) (by omega)
  have hF := fam_of hl hg' hp' hg0 (by omega) hp0 (by omega)
  have hF' := fam_of hl' hg' hp' hg0 (by omega) hp0 (by omega)
  obtain ⟨K1, h1⟩ := of_ok hl hg' hp' hg0 (by omega) hp0 (by omega)
  obtain ⟨K2, h2⟩ := of_ok hl' hg' hp' hg0 (by omega) hp0 (by omega)
  have hin := inside_same hF hF' (fun i k hi hk => by
    rw [vc_tabOf _ hi hk, vc_tabOf _ hi hk, vc_tabOf _ hi hk, vc_tabOf _ hi hk]
    obtain ⟨a, c, _, _⟩ := within_lo (grid := nth grid i) hl hsub (hp'.bnd k hk).1
    exact ⟨a, c⟩)
  obtain ⟨K3, h3⟩ := cl_loop hl hF grid.length 0 (by omega)
  refine ⟨K1 + K2 + K3 + 3, ?_⟩
  have e0 := hlk (K1 + K2 + K3 + 3) (by omega)
  have e1 := h1 (K1 + K2 + K3 + 3) (by omega)
  have e2 := h2 (K1 + K2 + K3 + 3) (by omega)
  have e3 := h3 (K1 + K2 + K3 + 2) (by omega)
  unfold thermionlaw02_CurveLines.f
  rw [hs, Option.bind_some, e0, Option.bind_some]
  dsimp only
  rw [eb, Option.bind_some]
  dsimp only
  rw [hm, Option.bind_some]
  dsimp only
  rw [eg, Option.bind_some]
  dsimp only
  rw [ep, Option.bind_some]
  dsimp only
  rw [e1, Option.bind_some, e2, Option.bind_some]
  dsimp only
  rw [if_pos rfl, if_pos rfl, check_ok hF, Option.bind_some, if_pos rfl, hin, Option.bind_some, thermionlaw02_CurveLines.j0, if_neg (by simp)]
  exact e3
end Go.Proofs.Ytbomgfbfnkfamaa.Mp
end
section
namespace Go.Proofs.Ytbomgfbfnkfamaa.Pure
open Go.RowKit Go.Proofs.Ytbomgfbfnkfamaa.PAll Go.Proofs.YtbomgfbfnkfamaaW.PrintWords Go.Proofs.YtbomgfbfnkfamaaW.PrintLast

theorem CurveLines : thermionlaw02_CurveLines.Pure := fun l0 _ _ _ => Go.Proofs.Ytbomgfbfnkfamaa.Mp.clines_holds l0

end Go.Proofs.Ytbomgfbfnkfamaa.Pure
end
section
namespace Go.Proofs.Ytbomgfbfnkfamaa.curveLines
open Go.ChangeShapes Go.WideShapes Go.ChangeAt Go.RowKit
open Go.ChangeMaps (open_string shut_string)
set_option linter.unusedVariables false
theorem own : ownKnob Try.prog.godebug = none := by kernel_rfl
theorem laidOut : laidOutB Try.prog = true := by kernel_rfl
def IsRow (k : IntKind) (w : World) (a : Option Addr) (len cap : Nat) (zs : List Int) : Prop :=
  (a = none ∧ len = 0 ∧ cap = 0 ∧ zs = []) ∨
  ∃ x, a = some x ∧ len ≤ cap ∧ cap ≤ maxLen ∧ zs.length = cap ∧ (∀ i, i < zs.length → w.cell? (x.add i) = some (.int k (zs.getD i 0))) ∧ ∀ n ∈ zs, (Lit.int k n).wf = true
set_option maxRecDepth 100000 in
theorem lifted (os : Os) (started : os.Started) (H : Type) (enc : TypeId × Value → H) :
    ReturnsInHanded {} Try.checked os 11 .any (Rows.curveLinesSpec.pre6 enc Try.prog Try.f11 Rows.curveLinesRow.domain false) (Rows.curveLinesSpec.post enc Try.prog Try.f11 false true false false) := by
  refine returnsInHanded_of_change_sized (C := Try.checked) own started (by kernel_rfl) Try.func11
    (ChangeSpec.witness6 (enc := enc) (C := Try.checked) false ⟨#[], #[.slice none 0 0], []⟩ 8 (by kernel_rfl) (by kernel_rfl) (by kernel_rfl) (by kernel_rfl)) ?_
  intro W base args ds gs before hval0 hW hcnd hsz0 _
  have hsz : (DataW.weightsEach Try.prog (Try.f11.params.toList ++ Rows.curveLinesSpec.plain.varTypes Try.prog) (ds ++ gs)).all (· ≤ reachBytes) = true := hsz0
  have hval : ∀ (j : Nat) t v, Try.f11.params[j]? = some t → args[j]? = some v → Value.okWide Try.prog W .any base t v := hval0
  have hW' := hW
  obtain ⟨p, q, hA0, hV, rfl, hfz, hnd⟩ := hW
  have hA : DataW.TrodAll enc Try.prog W 0 (fun _ => true) true Try.f11.params.toList args.toList ds p := hA0
  rw [Try.params11] at hA hval hsz
  obtain ⟨v0, vs0, d0, ds0, p0, q0, hargs, rfl, rfl, h0, r0⟩ := trodAll_cons hA
  obtain ⟨rfl, rfl, rfl⟩ := trodAll_nil r0
  obtain rfl : args = #[v0] := by cases args; simp_all
  obtain ⟨rfl, rfl⟩ := trodVars_none hV
  obtain ⟨a0, len0, cap0, rfl⟩ := okWide_slice Try.underlying22 (hval 0 22 v0 rfl rfl)
  have k0 := h0
  have lt0 : ∀ x ∈ p0, x.block < W.heap.size := by obtain ⟨m, hm⟩ := k0; exact DataW.trod_lt m _ _ _ hm
  obtain ⟨z0, w0⟩ : ∃ zs, IsRow .i64 W a0 len0 cap0 zs := by
    obtain ⟨fuel, hf⟩ := h0
    rcases open_ints Try.underlying22 Try.underlying3 (by kernel_rfl) hf with ⟨hcs, _⟩ | ⟨x, l, c, zs, hcs, _, hl, hm, hz, _, hcell, hwz⟩
    · simp [Value.cells] at hcs
      obtain ⟨rfl, rfl, rfl⟩ := hcs
      exact ⟨[], .inl ⟨rfl, rfl, rfl, rfl⟩⟩
    · simp [Value.cells] at hcs
      obtain ⟨rfl, rfl, rfl⟩ := hcs
      exact ⟨zs, .inr ⟨_, rfl, hl, hm, by simpa using hz, hcell, hwz⟩⟩
  have y0 : len0 * 8 ≤ 140737488351232 := Go.Proofs.YtbomgfbfnkfamaaW.PrintWords.sized_ints hsz (j := 0) (t := 22) rfl rfl Try.underlying22 Try.underlying3 (by kernel_rfl) (by kernel_rfl) h0
  clear hA0 hval0 hsz0 hsz
  refine (PAll.thermionlaw02_CurveLines.walk Pure.CurveLines a0 len0 cap0 z0 W w0 y0).mono fun e W' ⟨he, bel⟩ => ?_
  subst he
  exact ⟨_, rfl, _, _, _, [], _, [], hW', trodAll_mk1 (shut_bool Try.underlying4 _), (trodAll_cons_mk (Below.trod laidOut (by kernel_rfl) (of_decide_eq_true (by kernel_rfl)) k0 bel lt0) trodAll_mk0), rfl, bel.frame _, fun h => by cases h⟩
theorem over : Rows.curveLinesRow.holds Try.pinned (OpenSpec.ofChange Rows.curveLinesSpec) :=
  OpenClaim.holds_of_wide 11 Try.f11 rfl rfl rfl rfl rfl rfl rfl ⟨rfl, rfl, rfl, rfl, rfl⟩ rfl rfl rfl rfl rfl (by kernel_rfl) Try.func11 (by kernel_rfl)
    (of_decide_eq_true (by kernel_rfl)) (by unfold Func.isWrapper; first | (rw [if_pos (by decide +kernel)]; kernel_rfl) | (rw [if_neg (by decide +kernel)]; exact ⟨rfl, rfl⟩))
    (fun os started H enc _ => lifted os started H enc)
theorem proved : Rows.CurveLinesSaid := over
#print axioms proved
end Go.Proofs.Ytbomgfbfnkfamaa.curveLines
namespace Go.Proofs.Ytbomgfbfnkfamaa
/-- The row, under a short name, for the claim. -/
theorem curveLines_holds : Rows.CurveLinesSaid := curveLines.proved
end Go.Proofs.Ytbomgfbfnkfamaa
end
