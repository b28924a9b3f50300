/- Plain lemmas on whole numbers: division rounded down and up, roots, currents of laws. -/
import Derived.Test.YtlfaglkkeahamaaGreatI3
set_option linter.unusedVariables false
set_option linter.unusedSimpArgs false
namespace Go.Proofs.YtlfaglkkeahamaaGreat.I

/-- r is the root of x, rounded down. -/
def IsRoot (r x : Int) : Prop := 0 ≤ r ∧ r * r ≤ x ∧ x < (r + 1) * (r + 1)

theorem sq_le {a b : Int} (h0 : 0 ≤ a) (h : a ≤ b) : a * a ≤ b * b := by
  have h1 : a * a ≤ a * b := Int.mul_le_mul_of_nonneg_left h h0
  have h2 : a * b ≤ b * b := Int.mul_le_mul_of_nonneg_right h (by omega)
  omega
theorem lt_of_sq {a b : Int} (h0 : 0 ≤ b) (h : a * a < b * b) : a < b := by
  by_cases h1 : a < b
  · exact h1
  · have := sq_le h0 (Int.not_lt.1 h1); omega
theorem root_unique {r s x : Int} (hr : IsRoot r x) (hs : IsRoot s x) : r = s := by
  obtain ⟨r0, r1, r2⟩ := hr
  obtain ⟨s0, s1, s2⟩ := hs
  have a : r < s + 1 := lt_of_sq (by omega) (by omega)
  have b : s < r + 1 := lt_of_sq (by omega) (by omega)
  omega
theorem root_mono {r s x y : Int} (hr : IsRoot r x) (hs : IsRoot s y) (h : x ≤ y) : r ≤ s := by
  obtain ⟨r0, r1, r2⟩ := hr
  obtain ⟨s0, s1, s2⟩ := hs
  have a : r < s + 1 := lt_of_sq (by omega) (by omega)
  omega

/-- Rounded up. -/
def up (n d : Int) : Int := -((-n) / d)
theorem up_ge (n : Int) {d : Int} (hd : 0 < d) : n ≤ up n d * d := by
  have := Int.ediv_mul_le (-n) (Int.ne_of_gt hd)
  unfold up
  rw [Int.neg_mul]; omega
theorem up_lt (n : Int) {d : Int} (hd : 0 < d) : (up n d - 1) * d < n := by
  have := Int.lt_ediv_add_one_mul_self (-n) hd
  unfold up
  have h : (-((-n) / d) - 1) * d = -(((-n) / d + 1) * d) := by rw [← Int.neg_mul]; congr 1; omega
  rw [h]; omega
theorem down_le_up (n : Int) {d : Int} (hd : 0 < d) : n / d ≤ up n d := by
  have h1 := Int.ediv_mul_le n (Int.ne_of_gt hd)
  have h2 := up_ge n hd
  exact Int.le_of_mul_le_mul_right (by omega) hd
theorem le_down {a n d : Int} (hd : 0 < d) : a ≤ n / d ↔ a * d ≤ n := Int.le_ediv_iff_mul_le hd
theorem up_le {a n d : Int} (hd : 0 < d) : up n d ≤ a ↔ n ≤ a * d := by
  unfold up
  have : -a ≤ (-n) / d ↔ (-a) * d ≤ -n := Int.le_ediv_iff_mul_le hd
  rw [Int.neg_mul] at this
  omega
theorem down_mono {a b d : Int} (hd : 0 < d) (h : a ≤ b) : a / d ≤ b / d := Int.ediv_le_ediv hd h
theorem up_mono {a b d : Int} (hd : 0 < d) (h : a ≤ b) : up a d ≤ up b d := by
  unfold up
  have := Int.ediv_le_ediv hd (show -b ≤ -a by omega)
  omega
theorem down_frac {a b c d : Int} (hb : 0 < b) (hd : 0 < d) (h : a * d ≤ c * b) : a / b ≤ c / d := by
  rw [le_down hd]
  have h1 := Int.ediv_mul_le a (Int.ne_of_gt hb)
  have h2 : (a / b * d) * b ≤ c * b := by
    have h3 : (a / b * b) * d ≤ a * d := Int.mul_le_mul_of_nonneg_right h1 (by omega)
    have h4 : (a / b * d) * b = (a / b * b) * d := by rw [Int.mul_assoc, Int.mul_comm d b, ← Int.mul_assoc]
    omega
  exact Int.le_of_mul_le_mul_right h2 hb
theorem up_frac {a b c d : Int} (hb : 0 < b) (hd : 0 < d) (h : a * d ≤ c * b) : up a b ≤ up c d := by
  have := down_frac (a := -c) (b := d) (c := -a) (d := b) hd hb (by rw [Int.neg_mul, Int.neg_mul]; omega)
  unfold up
  omega
/-- Go's division of a number by one above 0, put right downwards. -/
theorem tdiv_floor {n d : Int} (hd : 0 < d) : n / d = if (n.tdiv d) * d > n then n.tdiv d - 1 else n.tdiv d := by
  have h1 := Int.mul_tdiv_add_tmod n d
  have h2 := Int.tmod_lt_of_pos n hd
  have h3 : -d < n.tmod d := by
    have := Int.tmod_lt_of_pos (-n) hd
    rw [Int.neg_tmod] at this; omega
  generalize n.tdiv d = q at *
  generalize n.tmod d = r at *
  rw [Int.mul_comm] at h1
  have key : ∀ p, p * d ≤ n → n < (p + 1) * d → n / d = p := fun p ha hb => by
    have c1 : p ≤ n / d := (le_down hd).2 ha
    have c2 : n / d < p + 1 := Int.ediv_lt_of_lt_mul hd hb
    omega
  split
  · apply key
    · rw [Int.sub_mul]; omega
    · rw [Int.sub_add_cancel]; omega
  · apply key
    · omega
    · rw [Int.add_mul]; omega
theorem tdiv_bounds {n d : Int} (hd : 0 < d) {m : Int} (h0 : -m ≤ n) (h1 : n ≤ m) : -m ≤ n.tdiv d ∧ n.tdiv d ≤ m := by
  by_cases h : 0 ≤ n
  · rw [Int.tdiv_eq_ediv_of_nonneg h]
    have a := Int.ediv_nonneg h (Int.le_of_lt hd)
    have b := Int.ediv_le_self d h
    omega
  · have e : n.tdiv d = -((-n).tdiv d) := by rw [Int.neg_tdiv]; omega
    rw [e, Int.tdiv_eq_ediv_of_nonneg (by omega)]
    have a := Int.ediv_nonneg (show 0 ≤ -n by omega) (Int.le_of_lt hd)
    have b := Int.ediv_le_self (a := -n) d (by omega)
    omega
theorem tdiv_mul_bounds {n d : Int} (hd : 0 < d) {m : Int} (h0 : -m ≤ n) (h1 : n ≤ m) : -m ≤ n.tdiv d * d ∧ n.tdiv d * d ≤ m := by
  by_cases h : 0 ≤ n
  · rw [Int.tdiv_eq_ediv_of_nonneg h]
    have a := Int.mul_nonneg (Int.ediv_nonneg h (Int.le_of_lt hd)) (Int.le_of_lt hd)
    have b := Int.ediv_mul_le n (Int.ne_of_gt hd)
    omega
  · have e : n.tdiv d = -((-n).tdiv d) := by rw [Int.neg_tdiv]; omega
    rw [e, Int.tdiv_eq_ediv_of_nonneg (by omega), Int.neg_mul]
    have a := Int.mul_nonneg (Int.ediv_nonneg (show 0 ≤ -n by omega) (Int.le_of_lt hd)) (Int.le_of_lt hd)
    have b := Int.ediv_mul_le (-n) (Int.ne_of_gt hd)
    omega
/-- A drive within its bounds. -/
def clamp (n : Int) : Int := if n < 0 then 0 else if 1000000 < n then 1000000 else n
theorem clamp_bounds (n : Int) : 0 ≤ clamp n ∧ clamp n ≤ 1000000 := by unfold clamp; split <;> (try split) <;> omega
theorem clamp_mono {a b : Int} (h : a ≤ b) : clamp a ≤ clamp b := by unfold clamp; split <;> split <;> (try split) <;> (try split) <;> omega
/-- A law of right numbers. -/
structure LawOk (p0 p1 g0 g1 s0 s1 f0 f1 q0 q1 : Int) : Prop where
  p : 0 ≤ p0 ∧ p0 ≤ p1 ∧ p1 ≤ 1000000
  g : 1 ≤ g0 ∧ g0 ≤ g1 ∧ g1 ≤ 1000000
  s : -1000000 ≤ s0 ∧ s0 ≤ s1 ∧ s1 ≤ 1000000
  f : 0 ≤ f0 ∧ f0 ≤ f1 ∧ f1 ≤ 1000000
  q : 0 ≤ q0 ∧ q0 ≤ q1 ∧ q1 ≤ 1000000
def Volts (grid plate : Int) : Prop := -1000000 ≤ grid ∧ grid ≤ 1000000 ∧ 0 ≤ plate ∧ plate ≤ 1000000
def dLo (g1 s0 grid plate : Int) : Int := clamp (grid + s0 + 1000 * plate / g1)
def dHi (g0 s1 grid plate : Int) : Int := clamp (grid + s1 + up (1000 * plate) g0)
theorem quot_bounds {plate g : Int} (hg : 1 ≤ g) (h0 : 0 ≤ plate) (h1 : plate ≤ 1000000) : 0 ≤ 1000 * plate / g ∧ 1000 * plate / g ≤ 1000000000 ∧ 0 ≤ up (1000 * plate) g ∧ up (1000 * plate) g ≤ 1000000000 := by
  have a := Int.ediv_nonneg (show 0 ≤ 1000 * plate by omega) (show 0 ≤ g by omega)
  have b := Int.ediv_le_self (a := 1000 * plate) g (by omega)
  have c := down_le_up (1000 * plate) (show 0 < g by omega)
  have d : up (1000 * plate) g ≤ 1000 * plate := (up_le (show 0 < g by omega)).2 (by
    have := Int.mul_le_mul_of_nonneg_left hg (show 0 ≤ 1000 * plate by omega); omega)
  omega
theorem cube_bounds {n : Int} (h0 : 0 ≤ n) (h1 : n ≤ 1000000) : 0 ≤ n * n ∧ n * n ≤ 1000000000000 ∧ 0 ≤ n * n * n ∧ n * n * n ≤ 1000000000000000000 := by
  have a := Int.mul_nonneg h0 h0
  have b : n * n ≤ 1000000 * 1000000 := Int.mul_le_mul h1 h1 h0 (by omega)
  have c := Int.mul_nonneg a h0
  have d : n * n * n ≤ 1000000000000 * 1000000 := Int.mul_le_mul (by omega) h1 h0 (by omega)
  omega
theorem cube_mono {a b : Int} (h0 : 0 ≤ a) (h : a ≤ b) : a * a * a ≤ b * b * b :=
  Int.mul_le_mul (sq_le h0 h) h h0 (Int.mul_nonneg (by omega) (by omega))
open Classical in
/-- The root, rounded down (of a number that has one). -/
noncomputable def rt (x : Int) : Int := if h : ∃ r, IsRoot r x then Classical.choose h else 0
theorem rt_eq {r x : Int} (h : IsRoot r x) : rt x = r := by
  have hx : ∃ r, IsRoot r x := ⟨r, h⟩
  unfold rt
  rw [dif_pos hx]
  exact root_unique (Classical.choose_spec hx) h
theorem root_is (n : Nat) : ∃ r, IsRoot r (n : Int) := by
  induction n with
  | zero => exact ⟨0, by omega, by omega, by omega⟩
  | succ n ih =>
    obtain ⟨r, h0, h1, h2⟩ := ih
    by_cases h : ((n + 1 : Nat) : Int) < (r + 1) * (r + 1)
    · exact ⟨r, h0, by omega, h⟩
    · refine ⟨r + 1, by omega, by omega, ?_⟩
      have : (r + 1 + 1) * (r + 1 + 1) = (r + 1) * (r + 1) + 2 * r + 3 := by
        simp only [Int.add_mul, Int.mul_add]; omega
      omega
theorem rt_root {x : Int} (h : 0 ≤ x) : IsRoot (rt x) x := by
  obtain ⟨n, rfl⟩ := Int.eq_ofNat_of_zero_le h
  obtain ⟨r, hr⟩ := root_is n
  rw [rt_eq hr]; exact hr
theorem rt_is {n : Int} (h0 : 0 ≤ n) (h1 : n ≤ 1000000) : IsRoot (rt (n * n * n)) (n * n * n) := rt_root (cube_bounds h0 h1).2.2.1
/-- .. rounded up. -/
noncomputable def rtUp (x : Int) : Int := if rt x * rt x = x then rt x else rt x + 1
theorem rt_le {n : Int} (h0 : 0 ≤ n) (h1 : n ≤ 1000000) : 0 ≤ rt (n * n * n) ∧ rt (n * n * n) ≤ 1000000000 := by
  obtain ⟨a, b, c⟩ := rt_is h0 h1
  have hc := (cube_bounds h0 h1).2.2.2
  refine ⟨a, ?_⟩
  have := lt_of_sq (a := rt (n * n * n)) (b := 1000000001) (by omega) (by omega)
  omega
theorem rtUp_bounds {n : Int} (h0 : 0 ≤ n) (h1 : n ≤ 1000000) : rt (n * n * n) ≤ rtUp (n * n * n) ∧ rtUp (n * n * n) ≤ rt (n * n * n) + 1 ∧ n * n * n ≤ rtUp (n * n * n) * rtUp (n * n * n) ∧ rtUp (n * n * n) ≤ 1000000000 := by
  obtain ⟨a, b, c⟩ := rt_is h0 h1
  have hl := rt_le h0 h1
  have hc := (cube_bounds h0 h1).2.2.2
  unfold rtUp
  split
  · rename_i h; exact ⟨by omega, by omega, by omega, hl.2⟩
  · rename_i h
    refine ⟨by omega, by omega, by omega, ?_⟩
    generalize rt (n * n * n) = r at *
    have : r * r < 1000000000 * 1000000000 := by omega
    have := lt_of_sq (a := r) (b := 1000000000) (by omega) this
    omega
theorem rt_mono {a b : Int} (h0 : 0 ≤ a) (h : a ≤ b) (h1 : b ≤ 1000000) : rt (a * a * a) ≤ rt (b * b * b) :=
  root_mono (rt_is h0 (by omega)) (rt_is (by omega) h1) (cube_mono h0 h)
theorem rtUp_mono {a b : Int} (h0 : 0 ≤ a) (h : a ≤ b) (h1 : b ≤ 1000000) : rtUp (a * a * a) ≤ rtUp (b * b * b) := by
  have hm := rt_mono h0 h h1
  have hc := cube_mono h0 h
  obtain ⟨a1, a2, a3⟩ := rt_is h0 (show a ≤ 1000000 by omega)
  obtain ⟨b1, b2, b3⟩ := rt_is (show 0 ≤ b by omega) h1
  unfold rtUp
  generalize rt (a * a * a) = r at *
  generalize rt (b * b * b) = s at *
  split
  · split <;> omega
  · rename_i hne
    split
    · rename_i he
      by_cases hrs : r = s
      · subst hrs; omega
      · omega
    · omega
/-- The ends of a current, of the roots. -/
def endLo (p f q r : Int) : Int := q * min (p * r / 1000000) f / 1000000
def endHi (p f q s : Int) : Int := up (q * min (up (p * s) 1000000) f) 1000000
noncomputable def cLo (p0 g1 s0 f0 q0 grid plate : Int) : Int := endLo p0 f0 q0 (rt (dLo g1 s0 grid plate * dLo g1 s0 grid plate * dLo g1 s0 grid plate))
noncomputable def cHi (p1 g0 s1 f1 q1 grid plate : Int) : Int := endHi p1 f1 q1 (rtUp (dHi g0 s1 grid plate * dHi g0 s1 grid plate * dHi g0 s1 grid plate))
theorem mul_bounds {a b m n : Int} (ha0 : 0 ≤ a) (ha : a ≤ m) (hb0 : 0 ≤ b) (hb : b ≤ n) : 0 ≤ a * b ∧ a * b ≤ m * n :=
  ⟨Int.mul_nonneg ha0 hb0, Int.mul_le_mul ha hb hb0 (by omega)⟩
theorem mn_bounds {a b n : Int} (ha : 0 ≤ a) (hb : 0 ≤ b) (hn : b ≤ n) : 0 ≤ min a b ∧ min a b ≤ n := by omega
theorem mn_mono {a b c d : Int} (h : a ≤ c) (k : b ≤ d) : min a b ≤ min c d := by omega
theorem endLo_bounds {p f q r : Int} (hp0 : 0 ≤ p) (hp : p ≤ 1000000) (hf0 : 0 ≤ f) (hf : f ≤ 1000000) (hq0 : 0 ≤ q) (hq : q ≤ 1000000) (hr0 : 0 ≤ r) (hr : r ≤ 1000000000) :
    0 ≤ p * r ∧ p * r ≤ 1000000000000000 ∧ 0 ≤ min (p * r / 1000000) f ∧ min (p * r / 1000000) f ≤ 1000000 ∧ 0 ≤ q * min (p * r / 1000000) f ∧ q * min (p * r / 1000000) f ≤ 1000000000000 ∧ 0 ≤ endLo p f q r ∧ endLo p f q r ≤ 1000000 := by
  have a := mul_bounds hp0 hp hr0 hr
  have b := mn_bounds (a := p * r / 1000000) (b := f) (n := 1000000) (Int.ediv_nonneg a.1 (by omega)) hf0 hf
  have c := mul_bounds hq0 hq b.1 b.2
  unfold endLo
  refine ⟨a.1, by omega, b.1, b.2, c.1, by omega, by omega, by omega⟩
theorem endHi_bounds {p f q r : Int} (hp0 : 0 ≤ p) (hp : p ≤ 1000000) (hf0 : 0 ≤ f) (hf : f ≤ 1000000) (hq0 : 0 ≤ q) (hq : q ≤ 1000000) (hr0 : 0 ≤ r) (hr : r ≤ 1000000000) :
    0 ≤ p * r ∧ p * r ≤ 1000000000000000 ∧ 0 ≤ min (up (p * r) 1000000) f ∧ min (up (p * r) 1000000) f ≤ 1000000 ∧ 0 ≤ q * min (up (p * r) 1000000) f ∧ q * min (up (p * r) 1000000) f ≤ 1000000000000 ∧ 0 ≤ endHi p f q r ∧ endHi p f q r ≤ 1000000 := by
  have a := mul_bounds hp0 hp hr0 hr
  have hu := down_le_up (p * r) (show (0 : Int) < 1000000 by omega)
  have b := mn_bounds (a := up (p * r) 1000000) (b := f) (n := 1000000) (by omega) hf0 hf
  have c := mul_bounds hq0 hq b.1 b.2
  have d := down_le_up (q * min (up (p * r) 1000000) f) (show (0 : Int) < 1000000 by omega)
  have e := (up_le (a := 1000000) (n := q * min (up (p * r) 1000000) f) (show (0 : Int) < 1000000 by omega)).2 (by omega)
  unfold endHi
  refine ⟨a.1, by omega, b.1, b.2, c.1, by omega, by omega, by omega⟩
end Go.Proofs.YtlfaglkkeahamaaGreat.I
