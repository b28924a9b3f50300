/- Growth of glass, as numbers. -/
import Derived.Test.YtpbadgghhiommaaGchk
set_option linter.unusedVariables false
set_option linter.unusedSimpArgs false
namespace Go.Proofs.Ytpbadgghhiommaa.I

structure ZOk (zs : List Zone) : Prop where
  pos : 0 < zs.length
  len : zs.length ≤ 16
  first : (zn zs 0).fr = 0
  asc : ∀ i, i + 1 < zs.length → (zn zs i).fr < (zn zs (i + 1)).fr
  fr : ∀ i, i < zs.length → 0 ≤ (zn zs i).fr ∧ (zn zs i).fr ≤ 2000
  gr : ∀ i, i < zs.length → 0 ≤ (zn zs i).gl ∧ (zn zs i).gl ≤ (zn zs i).gh ∧ (zn zs i).gh ≤ 100000
  re : ∀ i, i < zs.length → 0 ≤ (zn zs i).rl ∧ (zn zs i).rl ≤ (zn zs i).rh ∧ (zn zs i).rh ≤ 1000000
theorem rangeE_zero {a b m : Int} (h : rangeE a b m = 0) : 0 ≤ a ∧ a ≤ b ∧ b ≤ m := by
  unfold rangeE at h
  split at h
  · cases h
  · split at h
    · cases h
    · omega
theorem rangeE_ok {a b m : Int} (h0 : 0 ≤ a) (h1 : a ≤ b) (h2 : b ≤ m) : rangeE a b m = 0 := by
  unfold rangeE; rw [if_neg (by omega), if_neg (by omega)]
theorem zone_zero {zs : List Zone} {i : Nat} (h : zoneE zs i = 0) : (0 ≤ (zn zs i).fr ∧ (zn zs i).fr ≤ 2000) ∧ (i = 0 → (zn zs i).fr = 0) ∧ (0 < i → (zn zs (i - 1)).fr < (zn zs i).fr) ∧ (0 ≤ (zn zs i).gl ∧ (zn zs i).gl ≤ (zn zs i).gh ∧ (zn zs i).gh ≤ 100000) ∧ (0 ≤ (zn zs i).rl ∧ (zn zs i).rl ≤ (zn zs i).rh ∧ (zn zs i).rh ≤ 1000000) := by
  unfold zoneE at h
  split at h
  · cases h
  · rename_i h1
    split at h
    · cases h
    · rename_i h2
      split at h
      · rename_i h3; exact absurd h h3
      · rename_i h3
        have a := rangeE_zero (show rangeE (zn zs i).gl (zn zs i).gh 100000 = 0 from Classical.byContradiction h3)
        have b := rangeE_zero h
        refine ⟨by omega, fun q => ?_, fun q => ?_, a, b⟩
        · exact Classical.byContradiction fun c => h2 (.inl ⟨q, c⟩)
        · exact Classical.byContradiction fun c => h2 (.inr ⟨q, by omega⟩)
theorem check_zero {b : Int} {zs : List Zone} (h : checkE b zs = 0) : (1 ≤ b ∧ b ≤ 1000000000) ∧ ZOk zs := by
  unfold checkE at h
  split at h
  · cases h
  · rename_i h1
    split at h
    · cases h
    · rename_i h2
      split at h
      · cases h
      · rename_i h3
        have k := firstErr_zero.mp h
        refine ⟨by omega, by omega, by omega, (zone_zero (k 0 (by omega))).2.1 rfl, fun i hi => ?_, fun i hi => (zone_zero (k i hi)).1, fun i hi => (zone_zero (k i hi)).2.2.2.1, fun i hi => (zone_zero (k i hi)).2.2.2.2⟩
        exact (zone_zero (k (i + 1) hi)).2.2.1 (by omega)
theorem check_ok {b : Int} {zs : List Zone} (h0 : 1 ≤ b) (h1 : b ≤ 1000000000) (h : ZOk zs) : checkE b zs = 0 := by
  have := h.pos
  have := h.len
  unfold checkE
  rw [if_neg (by omega), if_neg (by omega), if_neg (by omega)]
  refine firstErr_zero.mpr fun i hi => ?_
  have a := h.fr i hi
  have b := h.gr i hi
  have c := h.re i hi
  unfold zoneE
  rw [if_neg (by omega), if_neg, if_neg (by rw [rangeE_ok b.1 b.2.1 b.2.2]; simp), rangeE_ok c.1 c.2.1 c.2.2]
  rintro (⟨rfl, q⟩ | ⟨q1, q2⟩)
  · exact q h.first
  · have := h.asc (i - 1) (by omega)
    rw [show i - 1 + 1 = i by omega] at this
    omega

def zoneN (zs : List Zone) (t : Int) : Nat → Zone
  | 0 => zn zs 0
  | n + 1 => if (zn zs n).fr ≤ t then zn zs n else zoneN zs t n
def zoneOf (zs : List Zone) (t : Int) : Zone := zoneN zs t zs.length
theorem ZOk.mono {zs : List Zone} (h : ZOk zs) {i j : Nat} (hij : i < j) (hj : j < zs.length) : (zn zs i).fr < (zn zs j).fr := by
  induction j with
  | zero => omega
  | succ j ih =>
    have := h.asc j hj
    rcases Nat.lt_or_ge i j with c | c
    · have := ih c (by omega); omega
    · obtain rfl : i = j := by omega
      omega
theorem zoneN_at {zs : List Zone} (h : ZOk zs) {t : Int} {i : Nat} (hi : i < zs.length) (h0 : (zn zs i).fr ≤ t) (h1 : i + 1 < zs.length → t < (zn zs (i + 1)).fr) : ∀ n, i < n → n ≤ zs.length → zoneN zs t n = zn zs i := by
  intro n
  induction n with
  | zero => intro q; omega
  | succ n ih =>
    intro q1 q2
    rw [zoneN]
    by_cases c : n = i
    · subst c; rw [if_pos h0]
    · have h2 : t < (zn zs n).fr := by
        have := h1 (by omega)
        by_cases c2 : n = i + 1
        · subst c2; exact this
        · have := h.mono (i := i + 1) (j := n) (by omega) (by omega); omega
      rw [if_neg (by omega)]
      exact ih (by omega) (by omega)
theorem zoneOf_at {zs : List Zone} (h : ZOk zs) {t : Int} {i : Nat} (hi : i < zs.length) (h0 : (zn zs i).fr ≤ t) (h1 : i + 1 < zs.length → t < (zn zs (i + 1)).fr) : zoneOf zs t = zn zs i := zoneN_at h hi h0 h1 _ hi (Nat.le_refl _)
theorem zoneN_in {zs : List Zone} (hp : 0 < zs.length) {t : Int} : ∀ n, n ≤ zs.length → ∃ i, i < zs.length ∧ zoneN zs t n = zn zs i := by
  intro n
  induction n with
  | zero => exact fun _ => ⟨0, hp, rfl⟩
  | succ n ih =>
    intro hn
    rw [zoneN]
    split
    · exact ⟨n, by omega, rfl⟩
    · exact ih (by omega)
theorem zoneOf_in {zs : List Zone} (hp : 0 < zs.length) (t : Int) : ∃ i, i < zs.length ∧ zoneOf zs t = zn zs i := zoneN_in hp _ (Nat.le_refl _)
theorem zoneOf_gr {zs : List Zone} (h : ZOk zs) (t : Int) : 0 ≤ (zoneOf zs t).gl ∧ (zoneOf zs t).gl ≤ (zoneOf zs t).gh ∧ (zoneOf zs t).gh ≤ 100000 := by
  obtain ⟨i, hi, e⟩ := zoneOf_in h.pos t
  rw [e]; exact h.gr i hi
theorem zoneOf_re {zs : List Zone} (h : ZOk zs) (t : Int) : 0 ≤ (zoneOf zs t).rl ∧ (zoneOf zs t).rl ≤ (zoneOf zs t).rh ∧ (zoneOf zs t).rh ≤ 1000000 := by
  obtain ⟨i, hi, e⟩ := zoneOf_in h.pos t
  rw [e]; exact h.re i hi

def sumG (f : Zone → Int) (zs : List Zone) (a : Int) : Nat → Int
  | 0 => 0
  | k + 1 => sumG f zs a k + f (zoneOf zs (a + k))
theorem sumG_bound {f : Zone → Int} {zs : List Zone} (h : ∀ t, 0 ≤ f (zoneOf zs t) ∧ f (zoneOf zs t) ≤ 100000) (a : Int) : ∀ k, 0 ≤ sumG f zs a k ∧ sumG f zs a k ≤ 100000 * k
  | 0 => ⟨Int.le_refl _, Int.le_refl _⟩
  | k + 1 => by
    have := sumG_bound h a k
    have := h (a + k)
    rw [sumG]
    omega
theorem sumG_const {f : Zone → Int} {zs : List Zone} {a : Int} {k : Nat} {c : Int} : ∀ m : Nat, (∀ t : Int, a + k ≤ t → t < a + k + m → f (zoneOf zs t) = c) → sumG f zs a (k + m) = sumG f zs a k + m * c
  | 0, _ => by simp
  | m + 1, h => by
    rw [show k + (m + 1) = (k + m) + 1 by omega, sumG, sumG_const m (fun t h0 h1 => h t h0 (by omega)), h (a + ((k + m : Nat) : Int)) (by omega) (by omega)]
    rw [show ((m + 1 : Nat) : Int) = (m : Int) + 1 by omega, Int.add_mul]
    omega
def gUp (f : Zone → Int) (zs : List Zone) (a b : Int) : Int := sumG f zs a (b - a).toNat
def gLo (zs : List Zone) (a b : Int) : Int := if a ≤ b then gUp Zone.gl zs a b else - gUp Zone.gh zs b a
def gHi (zs : List Zone) (a b : Int) : Int := if a ≤ b then gUp Zone.gh zs a b else - gUp Zone.gl zs b a
theorem gUp_bound {f : Zone → Int} {zs : List Zone} (h : ∀ t, 0 ≤ f (zoneOf zs t) ∧ f (zoneOf zs t) ≤ 100000) {a b : Int} (h0 : 0 ≤ a) (h1 : b ≤ 2000) : 0 ≤ gUp f zs a b ∧ gUp f zs a b ≤ 200000000 := by
  have := sumG_bound h a (b - a).toNat
  unfold gUp
  omega
/-- Where the zones ahead of the i-th end, between two heats. -/
def cut (zs : List Zone) (a b : Int) (i : Nat) : Int := if i = 0 then a else if i < zs.length then max a (min b (zn zs i).fr) else b
theorem gUp_step {f : Zone → Int} {zs : List Zone} (h : ZOk zs) {a b : Int} (ha : 0 ≤ a) (hab : a ≤ b) {i : Nat} (hi : i < zs.length) : cut zs a b i ≤ cut zs a b (i + 1) ∧ a ≤ cut zs a b i ∧ cut zs a b (i + 1) ≤ b ∧
    gUp f zs a (cut zs a b (i + 1)) = gUp f zs a (cut zs a b i) + (cut zs a b (i + 1) - cut zs a b i) * f (zn zs i) ∧
    (∀ e : Int, e = (if i + 1 < zs.length then min b (zn zs (i + 1)).fr else b) → (0 < e - max a (zn zs i).fr → cut zs a b (i + 1) - cut zs a b i = e - max a (zn zs i).fr) ∧ (e - max a (zn zs i).fr ≤ 0 → cut zs a b (i + 1) - cut zs a b i = 0)) := by
  have hf := h.fr i hi
  have h0 := h.first
  have hm : i + 1 < zs.length → (zn zs i).fr < (zn zs (i + 1)).fr := h.asc i
  have c0 : cut zs a b i = if i = 0 then a else max a (min b (zn zs i).fr) := by
    unfold cut; rw [if_pos hi]
  have c1 : cut zs a b (i + 1) = if i + 1 < zs.length then max a (min b (zn zs (i + 1)).fr) else b := by
    unfold cut; rw [if_neg (by omega)]
  have i0 : i = 0 → (zn zs i).fr = 0 := fun q => by rw [q]; exact h0
  have hle : cut zs a b i ≤ cut zs a b (i + 1) := by
    rw [c0, c1]
    split <;> split <;> omega
  have hge : a ≤ cut zs a b i := by rw [c0]; split <;> omega
  have hub : cut zs a b (i + 1) ≤ b := by rw [c1]; split <;> omega
  refine ⟨hle, hge, hub, ?_, fun e he => ?_⟩
  · unfold gUp
    have hk : (cut zs a b (i + 1) - a).toNat = (cut zs a b i - a).toNat + (cut zs a b (i + 1) - cut zs a b i).toNat := by omega
    rw [hk, sumG_const (c := f (zn zs i))]
    · congr 2
      omega
    · intro t t0 t1
      have hz : zoneOf zs t = zn zs i := by
        refine zoneOf_at h hi ?_ (fun q => ?_)
        · rw [c0] at t0
          split at t0
          · rename_i q; rw [i0 q]; omega
          · have : cut zs a b i < cut zs a b (i + 1) := by omega
            rw [c0, c1] at this
            rename_i q
            rw [if_neg q] at this
            split at this <;> omega
        · have : t < cut zs a b (i + 1) := by omega
          rw [c1, if_pos q] at this
          have h2 : cut zs a b i ≤ t := by omega
          omega
      rw [hz]
  · rw [c0, c1]
    subst he
    by_cases q : i = 0
    · have := i0 q
      rw [if_pos q]
      split <;> omega
    · rw [if_neg q]
      split <;> omega
theorem cut_last {zs : List Zone} (h : ZOk zs) (a b : Int) : cut zs a b zs.length = b := by
  have := h.pos
  unfold cut; rw [if_neg (by omega), if_neg (by omega)]
theorem gUp_nil (f : Zone → Int) (zs : List Zone) (a : Int) : gUp f zs a a = 0 := by
  unfold gUp; rw [Int.sub_self]; rfl
end Go.Proofs.Ytpbadgghhiommaa.I
