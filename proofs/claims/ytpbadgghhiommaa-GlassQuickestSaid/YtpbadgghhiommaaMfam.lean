/- Families of currents, as numbers: lines, tables, what lies between. -/
import Derived.Test.YtpbadgghhiommaaMnum
set_option linter.unusedVariables false
set_option linter.unusedSimpArgs false
namespace Go.Proofs.Ytpbadgghhiommaa.I

def firstErr (e : Nat → Int) : Nat → Int
  | 0 => 0
  | n + 1 => if firstErr e n ≠ 0 then firstErr e n else e n
theorem firstErr_succ {e : Nat → Int} {i : Nat} (h0 : firstErr e i = 0) (h1 : e i = 0) : firstErr e (i + 1) = 0 := by
  rw [firstErr, if_neg (by simpa using h0), h1]
theorem firstErr_stop {e : Nat → Int} {n i : Nat} (h0 : firstErr e i = 0) (h1 : e i ≠ 0) (h : i < n) : firstErr e n = e i := by
  induction n with
  | zero => omega
  | succ n ih =>
    rcases Nat.lt_or_ge i n with c | c
    · have := ih c
      rw [firstErr, if_pos (by rw [this]; exact h1), this]
    · obtain rfl : i = n := by omega
      rw [firstErr, if_neg (by simpa using h0)]
theorem firstErr_zero {e : Nat → Int} {n : Nat} : firstErr e n = 0 ↔ ∀ i, i < n → e i = 0 := by
  induction n with
  | zero => exact ⟨fun _ i h => by omega, fun _ => rfl⟩
  | succ n ih =>
    constructor
    · intro h
      rw [firstErr] at h
      split at h
      · contradiction
      · rename_i h0
        intro i hi
        rcases Nat.lt_or_ge i n with c | c
        · exact ih.mp (by simpa using h0) i c
        · obtain rfl : i = n := by omega
          exact h
    · intro h
      exact firstErr_succ (ih.mpr fun i hi => h i (by omega)) (h n (by omega))

/-- The k-th number of a list. -/
abbrev nth (l : List Int) (k : Nat) : Int := l.getD k 0
/-- Ascending. -/
def Asc (l : List Int) : Prop := ∀ i j, i < j → j < l.length → nth l i < nth l j
theorem Asc.lt_iff {l : List Int} (h : Asc l) {i j : Nat} (hi : i < l.length) (hj : j < l.length) : nth l i < nth l j ↔ i < j := by
  constructor
  · intro c
    rcases Nat.lt_trichotomy i j with a | a | a
    · exact a
    · subst a; omega
    · have := h j i a hi; omega
  · intro c; exact h i j c hj
theorem Asc.le_iff {l : List Int} (h : Asc l) {i j : Nat} (hi : i < l.length) (hj : j < l.length) : nth l i ≤ nth l j ↔ i ≤ j := by
  have := h.lt_iff hj hi; omega
/-- v lies behind the line at, by up of so many parts. -/
inductive Spot (l : List Int) (v : Int) : Int → Int → Int → Prop
  | low : v ≤ nth l 0 → Spot l v 0 0 1
  | on (i : Nat) : i < l.length → nth l i = v → Spot l v i 0 1
  | high : nth l (l.length - 1) ≤ v → Spot l v (l.length - 1 : Nat) 0 1
  | mid (i : Nat) : i + 1 < l.length → nth l i < v → v < nth l (i + 1) → Spot l v i (v - nth l i) (nth l (i + 1) - nth l i)
/-- A number of a table. -/
abbrev vc (t : List (List Int)) (i k : Nat) : Int := (t.getD i []).getD k 0

theorem Spot.le {l : List Int} {v v' a u o a' u' o' : Int} (ha : Asc l) (h0 : 0 < l.length) (hv : v ≤ v') (h : Spot l v a u o) (h' : Spot l v' a' u' o') : a < a' ∨ (a = a' ∧ u = 0) ∨ (a = a' ∧ o = o' ∧ u ≤ u') := by
  have L : ∀ i j : Nat, i < l.length → j < l.length → nth l i ≤ nth l j → i ≤ j := fun i j hi hj => (ha.le_iff hi hj).1
  have S : ∀ i j : Nat, i < l.length → j < l.length → nth l i < nth l j → i < j := fun i j hi hj => (ha.lt_iff hi hj).1
  have F : a ≤ a' → u = 0 → a < a' ∨ (a = a' ∧ u = 0) ∨ (a = a' ∧ o = o' ∧ u ≤ u') := fun p q => by omega
  cases h with
  | low h =>
    refine F ?_ rfl
    cases h' with
    | low h' => omega
    | on i hi hv => omega
    | high h' => omega
    | mid i hi h1 h2 => omega
  | on i hi hv =>
    refine F ?_ rfl
    cases h' with
    | low h' => have := L i 0 hi h0 (by omega); omega
    | on j hj hv' => have := L i j hi hj (by omega); omega
    | high h' => omega
    | mid j hj h1 h2 => have := S i (j + 1) hi hj (by omega); omega
  | high h =>
    refine F ?_ rfl
    cases h' with
    | low h' => have := L (l.length - 1) 0 (by omega) h0 (by omega); omega
    | on j hj hv' => have := L (l.length - 1) j (by omega) hj (by omega); omega
    | high h' => omega
    | mid j hj h1 h2 => have := S (l.length - 1) (j + 1) (by omega) hj (by omega); omega
  | mid i hi h1 h2 =>
    cases h' with
    | low h' => have := S i 0 (by omega) h0 (by omega); omega
    | on j hj hv' => have := S i j (by omega) hj (by omega); omega
    | high h' => omega
    | mid j hj h3 h4 =>
      have := S i (j + 1) (by omega) hj (by omega)
      rcases Nat.lt_or_ge i j with c | c
      · omega
      · obtain rfl : i = j := by omega
        omega
/-- A table has so many rows, of so many numbers. -/
def Shaped (t : List (List Int)) (n m : Nat) : Prop := t.length = n ∧ ∀ r ∈ t, r.length = m
instance (t : List (List Int)) (n m : Nat) : Decidable (Shaped t n m) := by unfold Shaped; infer_instance
open Classical in
/-- Where a voltage lies among lines. -/
noncomputable def spot (l : List Int) (v : Int) : Int × Int × Int := if h : ∃ q : Int × Int × Int, Spot l v q.1 q.2.1 q.2.2 then Classical.choose h else (0, 0, 1)
def rowN (F : Int → Int → Int) (a : Int) (p : List Int) (k : Nat) : List Int := (p.take k).map (F a)
/-- A row of which so many numbers are made. -/
def rowZ (F : Int → Int → Int) (a : Int) (p : List Int) (k : Nat) : List Int := rowN F a p k ++ List.replicate (p.length - k) 0
end Go.Proofs.Ytpbadgghhiommaa.I
