/- The dice deal a One sooner or later. -/
import Derived.Test.YtpbadgghhiommaaGdice
set_option linter.unusedVariables false
set_option maxHeartbeats 400000
set_option linter.unusedSimpArgs false
namespace Go.Proofs.Ytpbadgghhiommaa.I
open Go.Ideal

theorem mix_0 : dmix3 (dmix2 (dmix1 0)) % 30 = 0 := by decide +kernel
theorem mix_47 : dmix3 (dmix2 (dmix1 47)) % 30 = 0 := by decide +kernel
theorem one_0 {s : Int} (h : dnext s = 0) : dUpto s 30 = 0 := by
  unfold dUpto dout
  rw [if_neg (by omega), h]
  exact mix_0
theorem one_47 {s : Int} (h : dnext s = 47) : dUpto s 30 = 0 := by
  unfold dUpto dout
  rw [if_neg (by omega), h]
  exact mix_47

def dealT (w : Int) : Int := ((if w % 2 = 0 then 0 else 47) - w) % 18446744073709551616
def dealU (w : Int) : Int := (dealT w / 2 * 8205140576077050685) % 9223372036854775808
theorem deal_half (w : Int) : dealT w / 2 = (((if w % 2 = 0 then 0 else 47) - w) / 2) % 9223372036854775808 := by
  unfold dealT; split <;> omega
theorem deal_inv (u : Int) : (u - 11400714819323198485) * 8205140576077050685 = (u * 8205140576077050685 - 1) + 9223372036854775808 * (-10142111516973019353) := by omega
theorem deal_even (v : Int) : (0 - (2 * v + 22801429638646396970) % 18446744073709551616) / 2 % 9223372036854775808 = ((0 - 2 * v) / 2 % 9223372036854775808 - 11400714819323198485) % 9223372036854775808 := by
  have a : (2 * v + 22801429638646396970) % 18446744073709551616 = 2 * ((v + 11400714819323198485) % 9223372036854775808) := by omega
  rw [a]
  have b : (0 - 2 * ((v + 11400714819323198485) % 9223372036854775808)) / 2 = - ((v + 11400714819323198485) % 9223372036854775808) := by omega
  rw [b]
  have c : (0 - 2 * v) / 2 = - v := by omega
  rw [c, Int.emod_sub_emod]
  omega
theorem deal_odd (v : Int) : (47 - (2 * v + 1 + 22801429638646396970) % 18446744073709551616) / 2 % 9223372036854775808 = ((47 - (2 * v + 1)) / 2 % 9223372036854775808 - 11400714819323198485) % 9223372036854775808 := by
  have a : (2 * v + 1 + 22801429638646396970) % 18446744073709551616 = 2 * ((v + 11400714819323198485) % 9223372036854775808) + 1 := by omega
  rw [a]
  have b : (47 - (2 * ((v + 11400714819323198485) % 9223372036854775808) + 1)) / 2 = 23 - ((v + 11400714819323198485) % 9223372036854775808) := by omega
  rw [b]
  have c : (47 - (2 * v + 1)) / 2 = 23 - v := by omega
  rw [c, Int.emod_sub_emod]
  omega
theorem dealU_next (w : Int) : dealU ((w + 22801429638646396970) % 18446744073709551616) = (dealU w - 1) % 9223372036854775808 := by
  have e : dealT ((w + 22801429638646396970) % 18446744073709551616) / 2 = (dealT w / 2 - 11400714819323198485) % 9223372036854775808 := by
    rw [deal_half, deal_half]
    rcases (show w % 2 = 0 ∨ w % 2 = 1 by omega) with h | h
    · rw [if_pos h, if_pos (by omega)]
      obtain ⟨v, rfl⟩ : ∃ v, w = 2 * v := ⟨w / 2, by omega⟩
      exact deal_even v
    · rw [if_neg (by omega), if_neg (by omega)]
      obtain ⟨v, rfl⟩ : ∃ v, w = 2 * v + 1 := ⟨w / 2, by omega⟩
      exact deal_odd v
  unfold dealU
  rw [e]
  generalize dealT w / 2 = u
  rw [show ((u - 11400714819323198485) % 9223372036854775808 * 8205140576077050685) % 9223372036854775808 = ((u - 11400714819323198485) * 8205140576077050685) % 9223372036854775808 by rw [Int.mul_emod, Int.emod_emod_of_dvd _ (Int.dvd_refl _), ← Int.mul_emod], deal_inv, Int.add_mul_emod_self_left, Int.emod_sub_emod]

theorem deal_b1 {w : Int} (h0 : 0 ≤ w) (h1 : w < 18446744073709551616) (h : w % 2 = 0) (hu : (0 - w) % 18446744073709551616 / 2 = 0) : w = 0 := by
  omega
theorem deal_b2 {w : Int} (h0 : 0 ≤ w) (h1 : w < 18446744073709551616) (h : w % 2 = 1) (hu : (47 - w) % 18446744073709551616 / 2 = 0) : w = 47 := by
  obtain ⟨r, hr⟩ : ∃ r, (47 - w) % 18446744073709551616 = r := ⟨_, rfl⟩
  rw [hr] at hu
  have : r = 0 ∨ r = 1 := by omega
  rcases this with rfl | rfl <;> omega
theorem deal_c {u q : Int} (ht : 0 ≤ u ∧ u < 9223372036854775808) (h : u = 9223372036854775808 * q) : u = 0 := by omega
theorem deal_d {u k : Int} (hk : u * 8205140576077050685 = 9223372036854775808 * k) : u = 9223372036854775808 * (k * 11400714819323198485 - u * 10142111516973019353) := by
  have e : (8205140576077050685 * 11400714819323198485 : Int) = 1 + 9223372036854775808 * 10142111516973019353 := by decide
  have : u * 8205140576077050685 * 11400714819323198485 = 9223372036854775808 * k * 11400714819323198485 := by rw [hk]
  rw [Int.mul_assoc, e, Int.mul_add, Int.mul_one] at this
  rw [Int.mul_sub, ← Int.mul_assoc, ← this]
  rw [show u * (9223372036854775808 * 10142111516973019353) = 9223372036854775808 * (u * 10142111516973019353) by rw [Int.mul_left_comm]]
  exact (Int.add_sub_cancel _ _).symm
theorem deal_t (x : Int) : 0 ≤ x % 18446744073709551616 / 2 ∧ x % 18446744073709551616 / 2 < 9223372036854775808 := by omega
theorem dealT_eq (w : Int) : dealT w = ((if w % 2 = 0 then 0 else 47) - w) % 18446744073709551616 := by unfold dealT; rfl
theorem dealU_eq (w : Int) : dealU w = (dealT w / 2 * 8205140576077050685) % 9223372036854775808 := by unfold dealU; rfl
theorem dealU_zero {w : Int} (h0 : 0 ≤ w) (h1 : w < 18446744073709551616) (h : dealU w = 0) : w = 0 ∨ w = 47 := by
  have ht : 0 ≤ dealT w / 2 ∧ dealT w / 2 < 9223372036854775808 := by rw [dealT_eq]; exact deal_t _
  rw [dealU_eq] at h
  have hd := Int.dvd_of_emod_eq_zero h
  have hu : dealT w / 2 = 0 := by
    cases hd with
    | intro k hk => exact deal_c ht (deal_d hk)
  clear h hd ht
  rw [dealT_eq] at hu
  by_cases h : w % 2 = 0
  · rw [if_pos h] at hu
    exact .inl (deal_b1 h0 h1 h hu)
  · rw [if_neg h] at hu
    exact .inr (deal_b2 h0 h1 (by omega) hu)

theorem dnext_eq (s : Int) : dnext s = (s + 11400714819323198485) % 18446744073709551616 := by
  unfold dnext
  generalize s + 11400714819323198485 = t
  simp only [IntKind.wrap, IntKind.bits, IntKind.signed]
  all_goals simp
theorem dnext2_eq (s : Int) : dnext (dnext s) = (s + 22801429638646396970) % 18446744073709551616 := by
  rw [dnext_eq, dnext_eq, Int.emod_add_emod, Int.add_assoc]
  rfl
/-- How many rounds there are at most until one of the dice's truths. -/
def dealN (s : Int) : Nat := (dealU (dnext (dnext s))).toNat
theorem dealU_range (w : Int) : 0 ≤ dealU w ∧ dealU w < 9223372036854775808 := by
  rw [dealU_eq]
  exact ⟨Int.emod_nonneg _ (by decide), Int.emod_lt_of_pos _ (by decide)⟩
theorem dealN_lt (s : Int) : dealN s < 9223372036854775808 := by
  have := dealU_range (dnext (dnext s))
  unfold dealN
  omega
theorem deal_step (s : Int) : dUpto (dnext s) 30 = 0 ∨ dealN (dnext (dnext s)) < dealN s := by
  have hr := dealU_range (dnext (dnext s))
  have hw : 0 ≤ dnext (dnext s) ∧ dnext (dnext s) < 18446744073709551616 := by
    rw [dnext_eq (dnext s)]
    exact ⟨Int.emod_nonneg _ (by decide), Int.emod_lt_of_pos _ (by decide)⟩
  have hn := dealU_next (dnext (dnext s))
  rw [← dnext2_eq] at hn
  have hz := @dealU_zero (dnext (dnext s)) hw.1 hw.2
  have h0 := @one_0 (dnext s)
  have h47 := @one_47 (dnext s)
  unfold dealN
  generalize dealU (dnext (dnext (dnext (dnext s)))) = u' at *
  generalize dealU (dnext (dnext s)) = u at *
  by_cases q : u = 0
  · left
    rcases hz q with h | h
    · exact h0 h
    · exact h47 h
  · right
    omega

/-- A number dealt, then perhaps a truth. -/
theorem deal_round (s n : Int) (hn : n ≤ 9223372036854775807) : ∃ (v s1 : Int) (w : Bool) (s2 : Int), (w = false → dealN s2 < dealN s) ∧
    (∀ (H : Heap) (b : Nat), H b = S1 s → Ev T (.call (.func (.func 26) [] []) [.ptr b 0 0, .int .i64 n] H) (.call (.int .i64 v) (H.set b (S1 s1)))) ∧
    (∀ (H : Heap) (b : Nat), H b = S1 s1 → Ev T (.call (.func (.func 25) [] []) [.ptr b 0 0, .int .i64 30] H) (.call (.bool w) (H.set b (S1 s2)))) := by
  refine ⟨dUpto s n, dnext s, dUpto (dnext s) 30 == 0, dnext (dnext s), fun h => ?_, fun H b hb => Upto_ok s n hn H hb, fun H b hb => One_ok (dnext s) 30 (by decide) H hb⟩
  rcases deal_step s with q | q
  · rw [q] at h; cases h
  · exact q

end Go.Proofs.Ytpbadgghhiommaa.I
