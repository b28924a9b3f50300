/- Families of currents, as numbers: lines, tables, what lies between. -/
import Derived.Test.YtlfaglkkeahamaaGreatMnum
set_option linter.unusedVariables false
set_option linter.unusedSimpArgs false
namespace Go.Proofs.YtlfaglkkeahamaaGreat.I

def firstErr (e : Nat → Int) : Nat → Int
  | 0 => 0
  | n + 1 => if firstErr e n ≠ 0 then firstErr e n else e n
theorem firstErr_succ {e : Nat → Int} {i : Nat} (h0 : firstErr e i = 0) (h1 : e i = 0) : firstErr e (i + 1) = 0 := by
  rw [firstErr, if_neg (by simpa using h0), h1]
theorem firstErr_stop {e : Nat → Int} {n i : Nat} (h0 : firstErr e i = 0) (h1 : e i ≠ 0) (h : i < n) : firstErr e n = e i := by
  induction n with
  | zero => omega
  | succ n ih =>
    rcases Nat.lt_or_ge i n with c | c
    · have := ih c
      rw [firstErr, if_pos (by rw [this]; exact h1), this]
    · obtain rfl : i = n := by omega
      rw [firstErr, if_neg (by simpa using h0)]
theorem firstErr_zero {e : Nat → Int} {n : Nat} : firstErr e n = 0 ↔ ∀ i, i < n → e i = 0 := by
  induction n with
  | zero => exact ⟨fun _ i h => by omega, fun _ => rfl⟩
  | succ n ih =>
    constructor
    · intro h
      rw [firstErr] at h
      split at h
      · contradiction
      · rename_i h0
        intro i hi
        rcases Nat.lt_or_ge i n with c | c
        · exact ih.mp (by simpa using h0) i c
        · obtain rfl : i = n := by omega
          exact h
    · intro h
      exact firstErr_succ (ih.mpr fun i hi => h i (by omega)) (h n (by omega))

/-- The k-th number of a list. -/
abbrev nth (l : List Int) (k : Nat) : Int := l.getD k 0
/-- Ascending. -/
def Asc (l : List Int) : Prop := ∀ i j, i < j → j < l.length → nth l i < nth l j
theorem asc_of_next {l : List Int} (h : ∀ k, 0 < k → k < l.length → nth l (k - 1) < nth l k) : Asc l := by
  intro i j hij hj
  induction j with
  | zero => omega
  | succ j ih =>
    have h1 := h (j + 1) (by omega) hj
    rw [Nat.add_sub_cancel] at h1
    rcases Nat.lt_or_ge i j with c | c
    · have := ih c (by omega); omega
    · obtain rfl : i = j := by omega
      exact h1
theorem Asc.lt_iff {l : List Int} (h : Asc l) {i j : Nat} (hi : i < l.length) (hj : j < l.length) : nth l i < nth l j ↔ i < j := by
  constructor
  · intro c
    rcases Nat.lt_trichotomy i j with a | a | a
    · exact a
    · subst a; omega
    · have := h j i a hi; omega
  · intro c; exact h i j c hj
theorem Asc.le_iff {l : List Int} (h : Asc l) {i j : Nat} (hi : i < l.length) (hj : j < l.length) : nth l i ≤ nth l j ↔ i ≤ j := by
  have := h.lt_iff hj hi; omega
/-- v lies behind the line at, by up of so many parts. -/
inductive Spot (l : List Int) (v : Int) : Int → Int → Int → Prop
  | low : v ≤ nth l 0 → Spot l v 0 0 1
  | on (i : Nat) : i < l.length → nth l i = v → Spot l v i 0 1
  | high : nth l (l.length - 1) ≤ v → Spot l v (l.length - 1 : Nat) 0 1
  | mid (i : Nat) : i + 1 < l.length → nth l i < v → v < nth l (i + 1) → Spot l v i (v - nth l i) (nth l (i + 1) - nth l i)
theorem Spot.unique {l : List Int} {v a u o a' u' o' : Int} (ha : Asc l) (h0 : 0 < l.length) (h : Spot l v a u o) (h' : Spot l v a' u' o') : a = a' ∧ u = u' ∧ o = o' := by
  have L : ∀ i j : Nat, i < l.length → j < l.length → nth l i ≤ nth l j → i ≤ j := fun i j hi hj => (ha.le_iff hi hj).1
  have S : ∀ i j : Nat, i < l.length → j < l.length → nth l i < nth l j → i < j := fun i j hi hj => (ha.lt_iff hi hj).1
  cases h with
  | low h =>
    cases h' with
    | low h' => exact ⟨rfl, rfl, rfl⟩
    | on i hi hv => have := L i 0 hi h0 (by omega); exact ⟨by omega, rfl, rfl⟩
    | high h' => have := L (l.length - 1) 0 (by omega) h0 (by omega); exact ⟨by omega, rfl, rfl⟩
    | mid i hi h1 h2 => have := S i 0 (by omega) h0 (by omega); omega
  | on i hi hv =>
    cases h' with
    | low h' => have := L i 0 hi h0 (by omega); exact ⟨by omega, rfl, rfl⟩
    | on j hj hv' => have := L i j hi hj (by omega); have := L j i hj hi (by omega); exact ⟨by omega, rfl, rfl⟩
    | high h' => have := L (l.length - 1) i (by omega) hi (by omega); exact ⟨by omega, rfl, rfl⟩
    | mid j hj h1 h2 => have := S j i (by omega) hi (by omega); have := S i (j + 1) hi hj (by omega); omega
  | high h =>
    cases h' with
    | low h' => have := L (l.length - 1) 0 (by omega) h0 (by omega); exact ⟨by omega, rfl, rfl⟩
    | on j hj hv' => have := L (l.length - 1) j (by omega) hj (by omega); exact ⟨by omega, rfl, rfl⟩
    | high h' => exact ⟨rfl, rfl, rfl⟩
    | mid j hj h1 h2 => have := S (l.length - 1) (j + 1) (by omega) hj (by omega); omega
  | mid i hi h1 h2 =>
    cases h' with
    | low h' => have := S i 0 (by omega) h0 (by omega); omega
    | on j hj hv' => have := S i j (by omega) hj (by omega); have := S j (i + 1) hj hi (by omega); omega
    | high h' => have := S (l.length - 1) (i + 1) (by omega) hi (by omega); omega
    | mid j hj h3 h4 =>
      have := S i (j + 1) (by omega) hj (by omega)
      have := S j (i + 1) (by omega) hi (by omega)
      obtain rfl : i = j := by omega
      exact ⟨rfl, rfl, rfl⟩
/-- What a place is bounded by. -/
theorem Spot.bounds {l : List Int} {v a u o lo hi : Int} (ha : Asc l) (h0 : 0 < l.length) (hb : ∀ i, i < l.length → lo ≤ nth l i ∧ nth l i ≤ hi) (h : Spot l v a u o) :
    0 ≤ a ∧ a < l.length ∧ (0 < u → a + 1 < l.length) ∧ 0 ≤ u ∧ u < o ∧ (o ≤ hi - lo ∨ o = 1) := by
  cases h with
  | low h => exact ⟨by omega, by omega, by omega, by omega, by omega, by omega⟩
  | on i hi hv => exact ⟨by omega, by omega, by omega, by omega, by omega, by omega⟩
  | high h => exact ⟨by omega, by omega, by omega, by omega, by omega, by omega⟩
  | mid i hi h1 h2 =>
    have b1 := hb i (by omega)
    have b2 := hb (i + 1) hi
    exact ⟨by omega, by omega, by omega, by omega, by omega, by omega⟩
theorem nth_ins (l : List Int) (n : Int) {P : Nat} (hP : P ≤ l.length) (i : Nat) :
    nth ((l.take P ++ [n]) ++ l.drop P) i = if i < P then nth l i else if i = P then n else nth l (i - 1) := by
  have hl : (l.take P).length = P := by rw [List.length_take]; omega
  unfold nth
  rw [List.getD_eq_getElem?_getD, List.getD_eq_getElem?_getD, List.getD_eq_getElem?_getD]
  by_cases h1 : i < P
  · rw [if_pos h1, List.append_assoc, List.getElem?_append_left (by omega), List.getElem?_take_of_lt h1]
  · rw [if_neg h1]
    by_cases h2 : i = P
    · rw [if_pos h2, List.getElem?_append_left (by simp; omega), List.getElem?_append_right (by omega), hl, h2]
      simp
    · rw [if_neg h2, List.getElem?_append_right (by simp; omega), List.getElem?_drop]
      congr 2
      simp only [List.length_append, hl, List.length_cons, List.length_nil]
      omega
/-- What a list of lines is. -/
structure LinesOk (lo hi : Int) (l : List Int) : Prop where
  asc : Asc l
  bnd : ∀ i, i < l.length → lo ≤ nth l i ∧ nth l i ≤ hi

/-- A number of a table. -/
abbrev vc (t : List (List Int)) (i k : Nat) : Int := (t.getD i []).getD k 0

structure TabOk (n m : Nat) (t : List (List Int)) : Prop where
  len : t.length = n
  row : ∀ i, i < n → (t.getD i []).length = m
/-- A family as it should be. -/
structure FamOk (grid plate : List Int) (lo hi : List (List Int)) : Prop where
  g : LinesOk (-1000000) 1000000 grid
  p : LinesOk 0 1000000 plate
  g0 : 1 ≤ grid.length
  g1 : grid.length ≤ 40
  p0 : 1 ≤ plate.length
  p1 : plate.length ≤ 40
  tl : TabOk grid.length plate.length lo
  th : TabOk grid.length plate.length hi
  cell : ∀ i k, i < grid.length → k < plate.length → 0 ≤ vc lo i k ∧ vc lo i k ≤ vc hi i k ∧ vc hi i k ≤ 1000000
  upG : ∀ i k, i + 1 < grid.length → k < plate.length → vc lo i k ≤ vc lo (i + 1) k ∧ vc hi i k ≤ vc hi (i + 1) k
  upP : ∀ i k, i < grid.length → k + 1 < plate.length → vc lo i k ≤ vc lo i (k + 1) ∧ vc hi i k ≤ vc hi i (k + 1)
theorem LinesOk.wide {lo hi lo' hi' : Int} {l : List Int} (h : LinesOk lo hi l) (h0 : lo' ≤ lo) (h1 : hi ≤ hi') : LinesOk lo' hi' l :=
  ⟨h.asc, fun i hi => by have := h.bnd i hi; omega⟩

def mixI (h : Nat → Int) (a u o : Int) : Int := (o - u) * h a.toNat + (if 0 < u then u * h (a + 1).toNat else 0)
theorem mixI_eq (h : Nat → Int) (a : Int) {u : Int} (o : Int) (hu : 0 ≤ u) : mixI h a u o = (o - u) * h a.toNat + u * h (a + 1).toNat := by
  unfold mixI
  split
  · rfl
  · obtain rfl : u = 0 := by omega
    rw [Int.zero_mul]
/-- A place's bounds. -/
def Plc (n : Nat) (a u o : Int) : Prop := 0 ≤ a ∧ a < n ∧ (0 < u → a + 1 < n) ∧ 0 ≤ u ∧ u < o
theorem mix_le {h h' : Nat → Int} {n : Nat} {a u o : Int} (s : Plc n a u o) (hh : ∀ i, i < n → h i ≤ h' i) : mixI h a u o ≤ mixI h' a u o := by
  obtain ⟨s0, s1, s2, s3, s4⟩ := s
  have h1 := Int.mul_le_mul_of_nonneg_left (hh a.toNat (by omega)) (show 0 ≤ o - u by omega)
  unfold mixI
  split
  · rename_i hu
    have := s2 hu
    have h3 := Int.mul_le_mul_of_nonneg_left (hh (a + 1).toNat (by omega)) s3
    omega
  · omega
theorem mix_const (c a : Int) {u : Int} (o : Int) (hu : 0 ≤ u) : mixI (fun _ => c) a u o = o * c := by
  rw [mixI_eq _ _ _ hu, Int.sub_mul]
  omega
theorem mix_mul (h : Nat → Int) (a u o c : Int) : mixI h a u o * c = mixI (fun i => h i * c) a u o := by
  unfold mixI
  split
  · rw [Int.add_mul, Int.mul_assoc, Int.mul_assoc]
  · rw [Int.add_mul, Int.mul_assoc, Int.zero_mul]
theorem mix_bounds {h : Nat → Int} {n : Nat} {a u o M : Int} (s : Plc n a u o) (hh : ∀ i, i < n → 0 ≤ h i ∧ h i ≤ M) : 0 ≤ mixI h a u o ∧ mixI h a u o ≤ o * M := by
  have h1 := mix_le (h := fun _ => 0) s (fun i hi => (hh i hi).1)
  have h2 := mix_le (h' := fun _ => M) s (fun i hi => (hh i hi).2)
  rw [mix_const _ _ _ s.2.2.2.1] at h1 h2
  omega
theorem mix_mono {h : Nat → Int} {n : Nat} (hm : ∀ i j, i ≤ j → j < n → h i ≤ h j) {a u o a' u' o' : Int} (s : Plc n a u o) (s' : Plc n a' u' o') (hl : a < a' ∨ (a = a' ∧ u = 0) ∨ (a = a' ∧ o = o' ∧ u ≤ u')) :
    mixI h a u o * o' ≤ mixI h a' u' o' * o := by
  obtain ⟨s0, s1, s2, s3, s4⟩ := s
  obtain ⟨t0, t1, t2, t3, t4⟩ := s'
  have up : o' * h a'.toNat ≤ mixI h a' u' o' := by
    rw [mixI_eq _ _ _ t3, Int.sub_mul]
    by_cases c : 0 < u'
    · have := t2 c
      have := Int.mul_le_mul_of_nonneg_left (hm a'.toNat (a' + 1).toNat (by omega) (by omega)) t3
      omega
    · obtain rfl : u' = 0 := by omega
      omega
  have join : mixI h a u o ≤ o * h a'.toNat → mixI h a u o * o' ≤ mixI h a' u' o' * o := fun hd => by
    have e1 := Int.mul_le_mul_of_nonneg_right hd (show 0 ≤ o' by omega)
    have e2 := Int.mul_le_mul_of_nonneg_right up (show 0 ≤ o by omega)
    have e3 : o * h a'.toNat * o' = o' * h a'.toNat * o := by rw [Int.mul_comm (o * _) o', Int.mul_comm o, ← Int.mul_assoc]
    omega
  rcases hl with c | ⟨rfl, rfl⟩ | ⟨rfl, rfl, c⟩
  · apply join
    rw [mixI_eq _ _ _ s3]
    have e1 := Int.mul_le_mul_of_nonneg_left (hm a.toNat a'.toNat (by omega) (by omega)) (show 0 ≤ o - u by omega)
    have e2 := Int.mul_le_mul_of_nonneg_left (hm (a + 1).toNat a'.toNat (by omega) (by omega)) s3
    have e3 : (o - u) * h a'.toNat = o * h a'.toNat - u * h a'.toNat := Int.sub_mul _ _ _
    omega
  · apply join
    rw [mixI_eq _ _ _ s3, Int.sub_mul]
    omega
  · refine Int.mul_le_mul_of_nonneg_right ?_ (by omega)
    rw [mixI_eq _ _ _ s3, mixI_eq _ _ _ t3]
    by_cases z : 0 < u'
    · have := t2 z
      have e1 := Int.mul_le_mul_of_nonneg_left (hm a.toNat (a + 1).toNat (by omega) (by omega)) (show 0 ≤ u' - u by omega)
      rw [Int.sub_mul, Int.sub_mul] at e1
      rw [Int.sub_mul, Int.sub_mul]
      omega
    · obtain rfl : u' = 0 := by omega
      obtain rfl : u = 0 := by omega
      omega
theorem Spot.le {l : List Int} {v v' a u o a' u' o' : Int} (ha : Asc l) (h0 : 0 < l.length) (hv : v ≤ v') (h : Spot l v a u o) (h' : Spot l v' a' u' o') : a < a' ∨ (a = a' ∧ u = 0) ∨ (a = a' ∧ o = o' ∧ u ≤ u') := by
  have L : ∀ i j : Nat, i < l.length → j < l.length → nth l i ≤ nth l j → i ≤ j := fun i j hi hj => (ha.le_iff hi hj).1
  have S : ∀ i j : Nat, i < l.length → j < l.length → nth l i < nth l j → i < j := fun i j hi hj => (ha.lt_iff hi hj).1
  have F : a ≤ a' → u = 0 → a < a' ∨ (a = a' ∧ u = 0) ∨ (a = a' ∧ o = o' ∧ u ≤ u') := fun p q => by omega
  cases h with
  | low h =>
    refine F ?_ rfl
    cases h' with
    | low h' => omega
    | on i hi hv => omega
    | high h' => omega
    | mid i hi h1 h2 => omega
  | on i hi hv =>
    refine F ?_ rfl
    cases h' with
    | low h' => have := L i 0 hi h0 (by omega); omega
    | on j hj hv' => have := L i j hi hj (by omega); omega
    | high h' => omega
    | mid j hj h1 h2 => have := S i (j + 1) hi hj (by omega); omega
  | high h =>
    refine F ?_ rfl
    cases h' with
    | low h' => have := L (l.length - 1) 0 (by omega) h0 (by omega); omega
    | on j hj hv' => have := L (l.length - 1) j (by omega) hj (by omega); omega
    | high h' => omega
    | mid j hj h1 h2 => have := S (l.length - 1) (j + 1) (by omega) hj (by omega); omega
  | mid i hi h1 h2 =>
    cases h' with
    | low h' => have := S i 0 (by omega) h0 (by omega); omega
    | on j hj hv' => have := S i j (by omega) hj (by omega); omega
    | high h' => omega
    | mid j hj h3 h4 =>
      have := S i (j + 1) (by omega) hj (by omega)
      rcases Nat.lt_or_ge i j with c | c
      · omega
      · obtain rfl : i = j := by omega
        omega
/-- A table's value at two places. -/
def vat (t : List (List Int)) (xa xu xo ya yu yo : Int) : Int := mixI (fun i => mixI (fun k => vc t i k) ya yu yo) xa xu xo
theorem vat_bounds {n m : Nat} {t : List (List Int)} (hc : ∀ i k, i < n → k < m → 0 ≤ vc t i k ∧ vc t i k ≤ 1000000) {xa xu xo ya yu yo : Int} (x : Plc n xa xu xo) (y : Plc m ya yu yo) : 0 ≤ vat t xa xu xo ya yu yo ∧ vat t xa xu xo ya yu yo ≤ xo * (yo * 1000000) :=
  mix_bounds x fun i hi => mix_bounds y fun k hk => hc i k hi hk
theorem Spot.plc {l : List Int} {v a u o lo hi : Int} (h : LinesOk lo hi l) (h0 : 1 ≤ l.length) (hb : hi - lo ≤ 2000000) (s : Spot l v a u o) : Plc l.length a u o ∧ (o ≤ hi - lo ∨ o = 1) := by
  obtain ⟨b0, b1, b2, b3, b4, b5⟩ := s.bounds h.asc h0 h.bnd
  exact ⟨⟨b0, b1, b2, b3, b4⟩, b5⟩
/-- A table that rises. -/
def Rises (n m : Nat) (t : List (List Int)) : Prop := (∀ i k, i + 1 < n → k < m → vc t i k ≤ vc t (i + 1) k) ∧ ∀ i k, i < n → k + 1 < m → vc t i k ≤ vc t i (k + 1)
theorem rises_to {f : Nat → Int} {n : Nat} (h : ∀ i, i + 1 < n → f i ≤ f (i + 1)) : ∀ i j, i ≤ j → j < n → f i ≤ f j := by
  intro i j hij
  induction j with
  | zero => intro _; obtain rfl : i = 0 := by omega
            exact Int.le_refl _
  | succ j ih =>
    intro hj
    rcases Nat.lt_or_ge j i with c | c
    · obtain rfl : i = j + 1 := by omega
      exact Int.le_refl _
    · exact Int.le_trans (ih c (by omega)) (h j hj)
theorem vat_grid {n m : Nat} {t : List (List Int)} (hr : Rises n m t) {xa xu xo xa' xu' xo' ya yu yo : Int} (x : Plc n xa xu xo) (x' : Plc n xa' xu' xo') (y : Plc m ya yu yo) (hl : xa < xa' ∨ (xa = xa' ∧ xu = 0) ∨ (xa = xa' ∧ xo = xo' ∧ xu ≤ xu')) :
    vat t xa xu xo ya yu yo * (xo' * yo) ≤ vat t xa' xu' xo' ya yu yo * (xo * yo) := by
  have h := mix_mono (h := fun i => mixI (fun k => vc t i k) ya yu yo) (fun i j hij hj => mix_le y fun k hk => rises_to (n := n) (f := fun i => vc t i k) (fun i hi => hr.1 i k hi hk) i j hij hj) x x' hl
  have h2 := Int.mul_le_mul_of_nonneg_right h (show 0 ≤ yo by have := y.2.2.2.1; have := y.2.2.2.2; omega)
  rw [Int.mul_assoc, Int.mul_assoc] at h2
  exact h2
theorem vat_plate {n m : Nat} {t : List (List Int)} (hr : Rises n m t) {xa xu xo ya yu yo ya' yu' yo' : Int} (x : Plc n xa xu xo) (y : Plc m ya yu yo) (y' : Plc m ya' yu' yo') (hl : ya < ya' ∨ (ya = ya' ∧ yu = 0) ∨ (ya = ya' ∧ yo = yo' ∧ yu ≤ yu')) :
    vat t xa xu xo ya yu yo * (xo * yo') ≤ vat t xa xu xo ya' yu' yo' * (xo * yo) := by
  have h : vat t xa xu xo ya yu yo * yo' ≤ vat t xa xu xo ya' yu' yo' * yo := by
    unfold vat
    rw [mix_mul, mix_mul]
    exact mix_le x fun i hi => mix_mono (fun k l hkl hl => rises_to (n := m) (f := fun k => vc t i k) (fun k hk => hr.2 i k hi hk) k l hkl hl) y y' hl
  have h2 := Int.mul_le_mul_of_nonneg_right h (show 0 ≤ xo by have := x.2.2.2.1; have := x.2.2.2.2; omega)
  rw [Int.mul_assoc, Int.mul_assoc, Int.mul_comm yo' xo, Int.mul_comm yo xo] at h2
  exact h2
theorem vat_le {n m : Nat} {t t' : List (List Int)} (h : ∀ i k, i < n → k < m → vc t i k ≤ vc t' i k) {xa xu xo ya yu yo : Int} (x : Plc n xa xu xo) (y : Plc m ya yu yo) : vat t xa xu xo ya yu yo ≤ vat t' xa xu xo ya yu yo :=
  mix_le x fun i hi => mix_le y fun k hk => h i k hi hk
theorem Plc.pos {n : Nat} {a u o : Int} (h : Plc n a u o) : 0 < o := by have := h.2.2.2.1; have := h.2.2.2.2; omega
/-- A table of the numbers of pairs of lines. -/
def tabOf (F : Int → Int → Int) (grid plate : List Int) : List (List Int) := grid.map fun g => plate.map (F g)
theorem tabOf_tab (F : Int → Int → Int) (grid plate : List Int) : TabOk grid.length plate.length (tabOf F grid plate) := by
  refine ⟨by simp [tabOf], fun i hi => ?_⟩
  unfold tabOf
  rw [List.getD_eq_getElem?_getD, List.getElem?_map, List.getElem?_eq_getElem hi]
  simp
theorem vc_tabOf (F : Int → Int → Int) {grid plate : List Int} {i k : Nat} (hi : i < grid.length) (hk : k < plate.length) : vc (tabOf F grid plate) i k = F (nth grid i) (nth plate k) := by
  unfold vc tabOf nth
  rw [List.getD_eq_getElem?_getD, List.getD_eq_getElem?_getD, List.getElem?_map, List.getElem?_eq_getElem hi]
  simp only [Option.map_some, Option.getD_some]
  rw [List.getElem?_map, List.getElem?_eq_getElem hk]
  simp only [Option.map_some, Option.getD_some]
  rw [List.getD_eq_getElem?_getD, List.getElem?_eq_getElem hi, List.getD_eq_getElem?_getD, List.getElem?_eq_getElem hk]
  rfl
/-- The error of a line. -/
def lineE (lo hi : Int) (l : List Int) (i : Nat) : Int := if lo ≤ nth l i ∧ nth l i ≤ hi then (if 0 < i ∧ nth l i ≤ nth l (i - 1) then 11 else 0) else 2
/-- The error of the lines of a family. -/
def linesErr (g p : List Int) : Int :=
  if g.length = 0 ∨ p.length = 0 then 6 else if 40 < g.length ∨ 40 < p.length then 8 else
  if firstErr (lineE (-1000000) 1000000 g) g.length ≠ 0 then firstErr (lineE (-1000000) 1000000 g) g.length else firstErr (lineE 0 1000000 p) p.length
/-- A table has so many rows, of so many numbers. -/
def Shaped (t : List (List Int)) (n m : Nat) : Prop := t.length = n ∧ ∀ r ∈ t, r.length = m
instance (t : List (List Int)) (n m : Nat) : Decidable (Shaped t n m) := by unfold Shaped; infer_instance
/-- The error of a place. -/
def cellE (lo hi : List (List Int)) (i k : Nat) : Int :=
  if vc lo i k < 0 ∨ 1000000 < vc lo i k ∨ vc hi i k < 0 ∨ 1000000 < vc hi i k then 2 else if vc hi i k < vc lo i k then 12 else
  if 0 < i ∧ (vc lo i k < vc lo (i - 1) k ∨ vc hi i k < vc hi (i - 1) k) then 11 else if 0 < k ∧ (vc lo i k < vc lo i (k - 1) ∨ vc hi i k < vc hi i (k - 1)) then 11 else 0
/-- The error of tables. -/
def tabErr (n m : Nat) (lo hi : List (List Int)) : Int := firstErr (fun i => firstErr (fun k => cellE lo hi i k) m) n
/-- The error of a family. -/
def famErr (g p : List Int) (lo hi : List (List Int)) : Int :=
  if linesErr g p ≠ 0 then linesErr g p else if Shaped lo g.length p.length ∧ Shaped hi g.length p.length then tabErr g.length p.length lo hi else 3
theorem lineE_zero {lo hi : Int} {l : List Int} (h : firstErr (lineE lo hi l) l.length = 0) : LinesOk lo hi l := by
  have h' := firstErr_zero.mp h
  refine ⟨asc_of_next fun k k0 hk => ?_, fun i hi' => ?_⟩
  · have := h' k hk
    unfold lineE at this
    split at this
    · split at this <;> omega
    · omega
  · have := h' i hi'
    unfold lineE at this
    split at this
    · assumption
    · omega
theorem lineE_ok {lo hi : Int} {l : List Int} (h : LinesOk lo hi l) : firstErr (lineE lo hi l) l.length = 0 := by
  refine firstErr_zero.mpr fun i hi' => ?_
  unfold lineE
  rw [if_pos (h.bnd i hi'), if_neg]
  rintro ⟨a, b⟩
  have := h.asc (i - 1) i (by omega) hi'
  omega
theorem Shaped.tab {t : List (List Int)} {n m : Nat} (h : Shaped t n m) : TabOk n m t := by
  refine ⟨h.1, fun i hi => ?_⟩
  obtain ⟨h1, h2⟩ := h
  have hi' : i < t.length := by omega
  rw [List.getD_eq_getElem?_getD, List.getElem?_eq_getElem hi', Option.getD_some]
  exact h2 _ (List.getElem_mem hi')
theorem TabOk.shaped {t : List (List Int)} {n m : Nat} (h : TabOk n m t) : Shaped t n m := by
  refine ⟨h.len, fun r hr => ?_⟩
  obtain ⟨i, hi, rfl⟩ := List.getElem_of_mem hr
  have := h.row i (by have := h.len; omega)
  rw [List.getD_eq_getElem?_getD, List.getElem?_eq_getElem hi, Option.getD_some] at this
  exact this
theorem famErr_zero {g p : List Int} {lo hi : List (List Int)} (h : famErr g p lo hi = 0) : FamOk g p lo hi := by
  unfold famErr at h
  split at h
  · contradiction
  · rename_i h0
    split at h
    · rename_i h1
      have h0' : linesErr g p = 0 := by simpa using h0
      unfold linesErr at h0'
      split at h0'
      · omega
      · split at h0'
        · omega
        · split at h0'
          · contradiction
          · rename_i a b c
            have c' : firstErr (lineE (-1000000) 1000000 g) g.length = 0 := by simpa using c
            have key : ∀ i k, i < g.length → k < p.length → cellE lo hi i k = 0 := fun i k hi hk => firstErr_zero.mp (firstErr_zero.mp h i hi) k hk
            have cell : ∀ i k, i < g.length → k < p.length → 0 ≤ vc lo i k ∧ vc lo i k ≤ vc hi i k ∧ vc hi i k ≤ 1000000 ∧ ¬ (0 < i ∧ (vc lo i k < vc lo (i - 1) k ∨ vc hi i k < vc hi (i - 1) k)) ∧ ¬ (0 < k ∧ (vc lo i k < vc lo i (k - 1) ∨ vc hi i k < vc hi i (k - 1))) := by
              intro i k hi' hk
              have := key i k hi' hk
              unfold cellE at this
              split at this
              · omega
              · split at this
                · omega
                · split at this
                  · omega
                  · split at this
                    · omega
                    · rename_i q1 q2 q3 q4
                      exact ⟨by omega, by omega, by omega, q3, q4⟩
            refine ⟨lineE_zero c', lineE_zero h0', by omega, by omega, by omega, by omega, h1.1.tab, h1.2.tab, fun i k hi hk => ⟨(cell i k hi hk).1, (cell i k hi hk).2.1, (cell i k hi hk).2.2.1⟩, fun i k hi hk => ?_, fun i k hi hk => ?_⟩
            · have := (cell (i + 1) k hi hk).2.2.2.1
              rw [Nat.add_sub_cancel] at this
              omega
            · have := (cell i (k + 1) hi hk).2.2.2.2
              rw [Nat.add_sub_cancel] at this
              omega
    · omega
theorem linesErr_ok {g p : List Int} (hg : LinesOk (-1000000) 1000000 g) (hp : LinesOk 0 1000000 p) (g0 : 1 ≤ g.length) (g1 : g.length ≤ 40) (p0 : 1 ≤ p.length) (p1 : p.length ≤ 40) : linesErr g p = 0 := by
  unfold linesErr
  rw [if_neg (by omega), if_neg (by omega), lineE_ok hg, lineE_ok hp]; simp
theorem linesErr_zero {g p : List Int} (h : linesErr g p = 0) : LinesOk (-1000000) 1000000 g ∧ LinesOk 0 1000000 p ∧ 1 ≤ g.length ∧ g.length ≤ 40 ∧ 1 ≤ p.length ∧ p.length ≤ 40 := by
  unfold linesErr at h
  split at h
  · omega
  · split at h
    · omega
    · split at h
      · contradiction
      · rename_i a b c
        exact ⟨lineE_zero (by simpa using c), lineE_zero h, by omega, by omega, by omega, by omega⟩
theorem FamOk.err {g p : List Int} {lo hi : List (List Int)} (h : FamOk g p lo hi) : famErr g p lo hi = 0 := by
  unfold famErr
  rw [linesErr_ok h.g h.p h.g0 h.g1 h.p0 h.p1, if_neg (by simp), if_pos ⟨h.tl.shaped, h.th.shaped⟩]
  refine firstErr_zero.mpr fun i hi' => firstErr_zero.mpr fun k hk => ?_
  have hc := h.cell i k hi' hk
  have h1 : ¬ (0 < i ∧ (vc lo i k < vc lo (i - 1) k ∨ vc hi i k < vc hi (i - 1) k)) := by
    rintro ⟨a, b⟩
    have := h.upG (i - 1) k (by omega) hk
    rw [show i - 1 + 1 = i by omega] at this
    omega
  have h2 : ¬ (0 < k ∧ (vc lo i k < vc lo i (k - 1) ∨ vc hi i k < vc hi i (k - 1))) := by
    rintro ⟨a, b⟩
    have := h.upP i (k - 1) hi' (by omega)
    rw [show k - 1 + 1 = k by omega] at this
    omega
  unfold cellE
  rw [if_neg (by omega), if_neg (by omega), if_neg h1, if_neg h2]

open Classical in
/-- Where a voltage lies among lines. -/
noncomputable def spot (l : List Int) (v : Int) : Int × Int × Int := if h : ∃ q : Int × Int × Int, Spot l v q.1 q.2.1 q.2.2 then Classical.choose h else (0, 0, 1)
theorem spot_eq {l : List Int} {v a u o : Int} (ha : Asc l) (h0 : 0 < l.length) (h : Spot l v a u o) : spot l v = (a, u, o) := by
  have hx : ∃ q : Int × Int × Int, Spot l v q.1 q.2.1 q.2.2 := ⟨(a, u, o), h⟩
  unfold spot
  rw [dif_pos hx]
  obtain ⟨h1, h2, h3⟩ := Spot.unique ha h0 (Classical.choose_spec hx) h
  exact Prod.ext h1 (Prod.ext h2 h3)

noncomputable def atLo (g p : List Int) (t : List (List Int)) (v w : Int) : Int := vat t (spot g v).1 (spot g v).2.1 (spot g v).2.2 (spot p w).1 (spot p w).2.1 (spot p w).2.2 / ((spot g v).2.2 * (spot p w).2.2)
noncomputable def atHi (g p : List Int) (t : List (List Int)) (v w : Int) : Int := up (vat t (spot g v).1 (spot g v).2.1 (spot g v).2.2 (spot p w).1 (spot p w).2.1 (spot p w).2.2) ((spot g v).2.2 * (spot p w).2.2)
/-- The error of a family and voltages. -/
def atErr (g p : List Int) (lo hi : List (List Int)) (v w : Int) : Int := if famErr g p lo hi ≠ 0 then famErr g p lo hi else if -1000000 ≤ v ∧ v ≤ 1000000 ∧ 0 ≤ w ∧ w ≤ 1000000 then 0 else 2
theorem at_spots {g p : List Int} {lo hi : List (List Int)} (h : FamOk g p lo hi) {v w xa xu xo ya yu yo : Int} (sx : Spot g v xa xu xo) (sy : Spot p w ya yu yo) (t : List (List Int)) :
    atLo g p t v w = vat t xa xu xo ya yu yo / (xo * yo) ∧ atHi g p t v w = up (vat t xa xu xo ya yu yo) (xo * yo) := by
  have e1 := spot_eq h.g.asc (by have := h.g0; omega) sx
  have e2 := spot_eq h.p.asc (by have := h.p0; omega) sy
  unfold atLo atHi
  rw [e1, e2]
  exact ⟨rfl, rfl⟩
theorem FamOk.cl {g p : List Int} {lo hi : List (List Int)} (h : FamOk g p lo hi) : ∀ i k, i < g.length → k < p.length → 0 ≤ vc lo i k ∧ vc lo i k ≤ 1000000 := fun i k a b => by have := h.cell i k a b; omega
theorem FamOk.ch {g p : List Int} {lo hi : List (List Int)} (h : FamOk g p lo hi) : ∀ i k, i < g.length → k < p.length → 0 ≤ vc hi i k ∧ vc hi i k ≤ 1000000 := fun i k a b => by have := h.cell i k a b; omega

theorem take_snoc {l : List Int} {i : Nat} (h : i < l.length) : l.take (i + 1) = l.take i ++ [nth l i] := by
  unfold nth
  rw [List.getD_eq_getElem?_getD, List.getElem?_eq_getElem h, Option.getD_some]
  exact List.take_succ_eq_append_getElem h
/-- So many rows of a table, so many numbers of a row. -/
def tabN (F : Int → Int → Int) (g p : List Int) (i : Nat) : List (List Int) := (g.take i).map fun a => p.map (F a)
def rowN (F : Int → Int → Int) (a : Int) (p : List Int) (k : Nat) : List Int := (p.take k).map (F a)
theorem rowN_succ {F : Int → Int → Int} {a : Int} {p : List Int} {k : Nat} (h : k < p.length) : rowN F a p (k + 1) = rowN F a p k ++ [F a (nth p k)] := by
  unfold rowN; rw [take_snoc h, List.map_append]; rfl
theorem rowN_len {F : Int → Int → Int} {a : Int} {p : List Int} {k : Nat} (h : k ≤ p.length) : (rowN F a p k).length = k := by
  unfold rowN; rw [List.length_map, List.length_take]; omega
theorem rowN_all {F : Int → Int → Int} {a : Int} {p : List Int} : rowN F a p p.length = p.map (F a) := by unfold rowN; rw [List.take_length]
theorem tabN_succ {F : Int → Int → Int} {g p : List Int} {i : Nat} (h : i < g.length) : tabN F g p (i + 1) = tabN F g p i ++ [p.map (F (nth g i))] := by
  unfold tabN; rw [take_snoc h, List.map_append]; rfl
theorem tabN_len {F : Int → Int → Int} {g p : List Int} {i : Nat} (h : i ≤ g.length) : (tabN F g p i).length = i := by
  unfold tabN; rw [List.length_map, List.length_take]; omega
theorem tabN_all {F : Int → Int → Int} {g p : List Int} : tabN F g p g.length = tabOf F g p := by unfold tabN tabOf; rw [List.take_length]

end Go.Proofs.YtlfaglkkeahamaaGreat.I
