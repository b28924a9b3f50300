/- Lists of digits in their order; the best of them. -/
import Derived.Test.YtpbadgghhiommaaGjm
import Derived.Test.YtpbadgghhiommaaGgood
set_option linter.unusedVariables false
set_option maxHeartbeats 4000000
set_option linter.unusedSimpArgs false
namespace Go.Proofs.Ytpbadgghhiommaa.I
open Go.Ideal

/-- The m digits of j, the greatest first. -/
def digs (b : Nat) : Nat → Nat → List Int
  | 0, _ => []
  | m + 1, j => digs b m (j / b) ++ [((j % b : Nat) : Int)]
theorem digs_len (b : Nat) : ∀ (m j : Nat), (digs b m j).length = m
  | 0, _ => rfl
  | m + 1, j => by rw [digs, List.length_append, digs_len b m]; rfl
theorem digs_in {b : Nat} (hb : 0 < b) : ∀ (m j : Nat), ∀ x ∈ digs b m j, 0 ≤ x ∧ x < b
  | 0, _, x, h => by cases h
  | m + 1, j, x, h => by
    rw [digs] at h
    rcases List.mem_append.mp h with h | h
    · exact digs_in hb m _ x h
    · obtain rfl := List.mem_singleton.mp h
      have := Nat.mod_lt j hb
      omega
theorem digs_ne {b m : Nat} (hm : 0 < m) (j : Nat) : digs b m j ≠ [] := by
  intro h
  have := digs_len b m j
  rw [h] at this
  simp at this
  omega
theorem digs_zero {b : Nat} (hb : 0 < b) : ∀ m : Nat, digs b m 0 = List.replicate m 0
  | 0 => rfl
  | m + 1 => by rw [digs, Nat.zero_div, Nat.zero_mod, digs_zero hb m, List.replicate_succ']; rfl
theorem digs_shift {b : Nat} (hb : 0 < b) : ∀ (r m x : Nat), digs b (m + r) (x * b ^ r) = digs b m x ++ List.replicate r 0
  | 0, m, x => by simp
  | r + 1, m, x => by
    show digs b (m + r) (x * b ^ (r + 1) / b) ++ [((x * b ^ (r + 1) % b : Nat) : Int)] = _
    rw [Nat.pow_succ, ← Nat.mul_assoc, Nat.mul_div_cancel _ hb, Nat.mul_mod_left, digs_shift hb r m x, List.append_assoc, List.replicate_succ']
    rfl
/-- A digit that may grow grows. -/
theorem digs_next {b m j : Nat} (h : j % b + 1 < b) : digs b (m + 1) (j + 1) = digs b m (j / b) ++ [((j % b : Nat) : Int) + 1] := by
  have hb : 0 < b := by omega
  have e := Nat.div_add_mod j b
  have h1 : (j + 1) / b = j / b := by
    rw [Nat.div_eq_iff hb]
    have : j / b * b = b * (j / b) := Nat.mul_comm ..
    constructor
    · omega
    · omega
  have h2 : (j + 1) % b = j % b + 1 := by
    have := Nat.div_add_mod (j + 1) b
    rw [h1] at this
    omega
  rw [digs, h1, h2]
  simp
/-- One that may not becomes 0. -/
theorem digs_carry {b j : Nat} (hb : 0 < b) (h : ¬ j % b + 1 < b) : j + 1 = (j / b + 1) * b := by
  have e := Nat.div_add_mod j b
  have h3 := Nat.mod_lt j hb
  rw [Nat.add_mul, Nat.one_mul, Nat.mul_comm (j / b) b]
  omega

/-- What the digits are while the next list is made: the first q of them are those of i, the others are 0. -/
structure Odo (b m j q i : Nat) : Prop where
  le : q ≤ m
  lt : i < b ^ q
  eq : j + 1 = (i + 1) * b ^ (m - q)
def odoL (b m q i : Nat) : List Int := digs b q i ++ List.replicate (m - q) 0
theorem Odo.init {b m j : Nat} (h : j < b ^ m) : Odo b m j m j := ⟨Nat.le_refl _, h, by simp⟩
theorem odoL_init (b m j : Nat) : odoL b m m j = digs b m j := by simp [odoL]
theorem odoL_len {b m q i : Nat} (h : q ≤ m) : (odoL b m q i).length = m := by rw [odoL, List.length_append, digs_len, List.length_replicate]; omega
theorem Odo.zero {b m j i : Nat} (h : Odo b m j 0 i) : j + 1 = b ^ m := by
  have h1 := h.lt
  have h2 := h.eq
  obtain rfl : i = 0 := by simpa using h1
  simpa using h2
theorem odoL_at {b m q i : Nat} (h : q + 1 ≤ m) : at' (odoL b m (q + 1) i) (q : Int) = ((i % b : Nat) : Int) := by
  rw [at'_get (show q < (odoL b m (q + 1) i).length by rw [odoL_len h]; omega)]
  have e : (odoL b m (q + 1) i)[q]? = some ((i % b : Nat) : Int) := by
    unfold odoL
    rw [List.getElem?_append_left (by rw [digs_len]; omega), digs, List.getElem?_append_right (by rw [digs_len]; omega), digs_len]
    simp
  rw [List.getElem?_eq_getElem (by rw [odoL_len h]; omega)] at e
  exact Option.some.inj e
theorem odoL_set {b m q i : Nat} (h : q + 1 ≤ m) (y : Int) : (odoL b m (q + 1) i).set q y = digs b q (i / b) ++ [y] ++ List.replicate (m - (q + 1)) 0 := by
  unfold odoL
  rw [List.set_append_left _ _ (by rw [digs_len]; omega), digs, List.set_append_right _ _ (by rw [digs_len]; omega), digs_len, Nat.sub_self]
  rfl
theorem odoL_at2 {b m q i : Nat} (h : q + 1 ≤ m) (y : Int) : at' (digs b q (i / b) ++ [y] ++ List.replicate (m - (q + 1)) 0) (q : Int) = y := by
  have hl : (digs b q (i / b) ++ [y] ++ List.replicate (m - (q + 1)) (0 : Int)).length = m := by rw [List.length_append, List.length_append, digs_len, List.length_replicate]; simp; omega
  rw [at'_get (show q < (digs b q (i / b) ++ [y] ++ List.replicate (m - (q + 1)) (0 : Int)).length by omega)]
  have e : (digs b q (i / b) ++ [y] ++ List.replicate (m - (q + 1)) (0 : Int))[q]? = some y := by
    rw [List.getElem?_append_left (by rw [List.length_append, digs_len]; simp), List.getElem?_append_right (by rw [digs_len]; omega), digs_len]
    simp
  rw [List.getElem?_eq_getElem (by omega)] at e
  exact Option.some.inj e
theorem odoL_set2 {b m q i : Nat} (h : q + 1 ≤ m) (y : Int) : (digs b q (i / b) ++ [y] ++ List.replicate (m - (q + 1)) 0).set q 0 = odoL b m q (i / b) := by
  rw [List.set_append_left _ _ (by rw [List.length_append, digs_len]; simp), List.set_append_right _ _ (by rw [digs_len]; omega), digs_len, Nat.sub_self]
  unfold odoL
  rw [List.append_assoc]
  congr 1
  rw [show m - q = m - (q + 1) + 1 by omega, List.replicate_succ]
  rfl
theorem Odo.div {b m j q i : Nat} (hb : 0 < b) (h : Odo b m j (q + 1) i) : i / b < b ^ q := by
  rw [Nat.div_lt_iff_lt_mul hb, ← Nat.pow_succ]
  exact h.lt
theorem Odo.carry {b m j q i : Nat} (hb : 0 < b) (h : Odo b m j (q + 1) i) (hc : ¬ i % b + 1 < b) : Odo b m j q (i / b) := by
  have hle := h.le
  refine ⟨by omega, h.div hb, ?_⟩
  rw [h.eq, digs_carry hb hc, show m - q = m - (q + 1) + 1 by omega, Nat.pow_succ, Nat.mul_assoc, Nat.mul_comm b]
theorem Odo.next {b m j q i : Nat} (hb : 0 < b) (h : Odo b m j (q + 1) i) (hc : i % b + 1 < b) : j + 1 < b ^ m ∧ digs b m (j + 1) = digs b q (i / b) ++ [((i % b : Nat) : Int) + 1] ++ List.replicate (m - (q + 1)) 0 := by
  have hle := h.le
  have e := Nat.div_add_mod i b
  have hd := h.div hb
  have hlt : i + 1 < b ^ (q + 1) := by
    have h1 : b * (i / b + 1) ≤ b * b ^ q := Nat.mul_le_mul_left _ hd
    rw [Nat.mul_add, Nat.mul_one] at h1
    rw [Nat.pow_succ, Nat.mul_comm (b ^ q)]
    omega
  constructor
  · rw [h.eq]
    have : b ^ m = b ^ (q + 1) * b ^ (m - (q + 1)) := by rw [← Nat.pow_add]; congr 1; omega
    rw [this]
    exact Nat.mul_lt_mul_of_pos_right hlt (Nat.pow_pos hb)
  · rw [h.eq]
    have := digs_shift hb (m - (q + 1)) (q + 1) (i + 1)
    rw [show q + 1 + (m - (q + 1)) = m by omega] at this
    rw [this, digs_next hc]

def ext (o : List Int) (n : Nat) : List (List Int) := (List.range n).map fun (i : Nat) => o ++ [(i : Int)]
theorem ext_len (o : List Int) (n : Nat) : (ext o n).length = n := by simp [ext]
theorem ext_succ (o : List Int) (n : Nat) : ext o (n + 1) = ext o n ++ [o ++ [(n : Int)]] := by simp [ext, List.range_succ]
def extL (b : Nat) (L : List (List Int)) : Nat → List (List Int)
  | 0 => []
  | k + 1 => extL b L k ++ ext (at' L (k : Int)) b
theorem extL_len (b : Nat) (L : List (List Int)) : ∀ k, (extL b L k).length = k * b
  | 0 => by simp [extL]
  | k + 1 => by rw [extL, List.length_append, extL_len b L k, ext_len, Nat.add_mul, Nat.one_mul]
theorem extL_get (b : Nat) (L : List (List Int)) : ∀ (K k n : Nat), k < K → n < b → (extL b L K)[k * b + n]? = some (at' L (k : Int) ++ [(n : Int)])
  | 0, k, n, h, _ => by omega
  | K + 1, k, n, h, hn => by
    rw [extL]
    have hl := extL_len b L K
    by_cases q : k < K
    · have : k * b + n < K * b := by
        have : (k + 1) * b ≤ K * b := Nat.mul_le_mul_right _ q
        rw [Nat.add_mul] at this
        omega
      rw [List.getElem?_append_left (by omega)]
      exact extL_get b L K k n q hn
    · obtain rfl : k = K := by omega
      rw [List.getElem?_append_right (by omega), hl]
      simp [ext, hn]
def listsL (b : Nat) : Nat → List (List Int)
  | 0 => [[]]
  | m + 1 => extL b (listsL b m) (listsL b m).length
theorem listsL_len (b : Nat) : ∀ m, (listsL b m).length = b ^ m
  | 0 => rfl
  | m + 1 => by rw [listsL, extL_len, listsL_len b m, Nat.pow_succ]
theorem listsL_get {b : Nat} (hb : 0 < b) : ∀ (m j : Nat), j < b ^ m → (listsL b m)[j]? = some (digs b m j)
  | 0, j, h => by
    obtain rfl : j = 0 := by simpa using h
    rfl
  | m + 1, j, h => by
    have hj : j / b < b ^ m := by rw [Nat.div_lt_iff_lt_mul hb, ← Nat.pow_succ]; exact h
    have ih := listsL_get hb m (j / b) hj
    rw [listsL]
    have e := Nat.div_add_mod j b
    have := extL_get b (listsL b m) (listsL b m).length (j / b) (j % b) (by rw [listsL_len]; exact hj) (Nat.mod_lt _ hb)
    rw [Nat.mul_comm, e] at this
    rw [this, digs]
    congr 2
    have hl : j / b < (listsL b m).length := by rw [listsL_len]; exact hj
    rw [at'_get hl]
    rw [List.getElem?_eq_getElem hl] at ih
    exact Option.some.inj ih
theorem listsL_at {b : Nat} (hb : 0 < b) {m j : Nat} (h : j < b ^ m) : at' (listsL b m) (j : Int) = digs b m j := by
  have hl : j < (listsL b m).length := by rw [listsL_len]; exact h
  rw [at'_get hl]
  have := listsL_get hb m j h
  rw [List.getElem?_eq_getElem hl] at this
  exact Option.some.inj this

section
variable (ps st : List Int)
/-- The legs of a programme with these paces; its ticks. -/
def legN (o : List Int) : Nat → List Leg
  | 0 => []
  | n + 1 => legN o n ++ [⟨at' ps (at' o (n : Int)), at' st (n : Int)⟩]
def tickN (o : List Int) : Nat → Int
  | 0 => 0
  | n + 1 => tickN o n + at' ps (at' o (n : Int))
theorem legN_len (o : List Int) : ∀ n, (legN ps st o n).length = n
  | 0 => rfl
  | n + 1 => by rw [legN, List.length_append, legN_len o n]; rfl
theorem legN_at (o : List Int) : ∀ (n i : Nat), i < n → at' (legN ps st o n) (i : Int) = ⟨at' ps (at' o (i : Int)), at' st (i : Int)⟩
  | 0, i, h => by omega
  | n + 1, i, h => by
    rw [legN]
    by_cases q : i < n
    · rw [at_snoc_lt (by rw [legN_len]; exact q), legN_at o n i q]
    · obtain rfl : i = n := by omega
      have := @at_snoc_eq Leg _ (legN ps st o i) ⟨at' ps (at' o (i : Int)), at' st (i : Int)⟩
      rwa [legN_len] at this
variable (S : List Int → Prop)
open Classical in
/-- The best of the first j lists: the first of those with the least ticks, of those that are sure. -/
noncomputable def bestF (b m : Nat) : Nat → List Int × Int
  | 0 => ([], 0)
  | j + 1 => if ((bestF b m j).1 = [] ∨ tickN ps (digs b m j) m < (bestF b m j).2) ∧ S (digs b m j) then (digs b m j, tickN ps (digs b m j) m) else bestF b m j
theorem bestF_take {b m j : Nat} (h : (bestF ps S b m j).1 = [] ∨ tickN ps (digs b m j) m < (bestF ps S b m j).2) (hs : S (digs b m j)) : bestF ps S b m (j + 1) = (digs b m j, tickN ps (digs b m j) m) := by
  rw [bestF, if_pos ⟨h, hs⟩]
theorem bestF_skip {b m j : Nat} (h : ¬ ((bestF ps S b m j).1 = [] ∨ tickN ps (digs b m j) m < (bestF ps S b m j).2)) : bestF ps S b m (j + 1) = bestF ps S b m j := by
  rw [bestF, if_neg (fun q => h q.1)]
theorem bestF_not {b m j : Nat} (h : ¬ S (digs b m j)) : bestF ps S b m (j + 1) = bestF ps S b m j := by
  rw [bestF, if_neg (fun q => h q.2)]
theorem bestF_len (b m : Nat) : ∀ j, (bestF ps S b m j).1.length ≤ m
  | 0 => Nat.zero_le _
  | j + 1 => by
    rw [bestF]
    split
    · exact Nat.le_of_eq (digs_len b m j)
    · exact bestF_len b m j
theorem tickN_in {o : List Int} {m : Nat} (h : ∀ i : Nat, i < m → 0 ≤ at' ps (at' o (i : Int)) ∧ at' ps (at' o (i : Int)) ≤ 1000) : ∀ n, n ≤ m → 0 ≤ tickN ps o n ∧ tickN ps o n ≤ 1000 * n
  | 0, _ => by simp [tickN]
  | n + 1, hn => by
    have := tickN_in h n (by omega)
    have := h n (by omega)
    rw [tickN]
    omega
end

end Go.Proofs.Ytpbadgghhiommaa.I
