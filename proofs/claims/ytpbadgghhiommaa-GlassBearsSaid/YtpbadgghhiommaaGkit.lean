/- Dice, stuffs made of numbers. -/
import Derived.Test.YtpbadgghhiommaaGstr
set_option linter.unusedVariables false
set_option maxHeartbeats 16000000
set_option linter.unusedSimpArgs false
namespace Go.Proofs.Ytpbadgghhiommaa.I
open Go.Ideal

theorem NewDice_ok (l : List Int) (hl : l.length ≤ 9223372036854775807) : ∃ s : Int, ∀ (H : Heap) (n : Nat), H n = .free → Ev T (.call (.func (.func 21) [] []) [sl l] H) (.call (.ptr n 0 0) (H.set n (S1 s))) := by
  have key := run_new T21 (args := [sl l]) (P := fun v k s => v = .ptr 0 0 0 ∧ k = 0 ∧ ∃ n, s = S1 n) (nn_cons (sl_no _) nn_none) (by
    conv => whnf
    refine .u64 (by simp) (by simp; omega) ?_
    conv => whnf
    refine .wrap ?_
    generalize IntKind.u64.wrap _ = w
    conv => whnf
    refine loop_rule (X := Nat × Int) (fun x => [(0, sl l), (3, .ptr 0 0 0), (4, .int .i64 x.1)]) (fun x => [S1 x.2]) (fun x => l.length - x.1) (fun x => x.1 ≤ l.length) (0, w)
      (Nat.zero_le _) ⟨rfl, rfl, rfl, trivial⟩ rfl (fun _ _ => rfl) (fun x hx => ?_)
    obtain ⟨i, s⟩ := x
    simp only at hx
    dsimp only
    conv => whnf
    refine condP.dec (fun h => ?_) (fun h => ?_)
    · have hlt : (i : Int) < l.length := by simpa using h
      conv => whnf
      refine onSome.intro (idx_fs rfl rfl (Int.natCast_nonneg _) hlt (fun _ => rfl)) ?_
      conv => whnf
      refine onSome.intro (load_fs (v := .int .i64 (at' l i)) rfl (Int.natCast_nonneg _) hlt rfl) ?_
      conv => whnf
      refine .wrap ?_
      conv => whnf
      refine CallP.one (fun H hb => next_ok _ H hb) rfl ?_
      conv => whnf
      refine .i64 (by omega) (by omega) ?_
      conv => whnf
      exact .more (i + 1, _) rfl (by simp only; omega) (by simp only; omega) ⟨rfl, rfl, rfl, trivial⟩ rfl ⟨(sl_no _).inn _, .ptr _ _ _ (by simp), .int _ _, trivial⟩ ⟨fun j k h h' => (S1_no _ _ (List.getElem_mem h) _ (List.getElem_mem h')).inn _, trivial⟩
    · conv => whnf
      refine .done (by simp) ?_
      conv => whnf
      exact .intro (.ptr 0 0 0) 0 (S1 s) ⟨rfl, rfl, s, rfl⟩ (.inl rfl) rfl rfl (S1_no s) (.ptr _ _ _ rfl))
  obtain ⟨v, k, s, ⟨rfl, rfl, n, rfl⟩, _, h⟩ := key
  refine ⟨n, fun H m hm => ?_⟩
  have := h H m hm
  simpa [IV.ren, sw] using this

/-- A valid law. -/

def modI (n m : Int) : Int := if m < 1 then 0 else n % m
theorem modI_in (n : Int) {m : Int} (h : 1 ≤ m) : 0 ≤ modI n m ∧ modI n m < m := by
  unfold modI
  rw [if_neg (by omega)]
  exact ⟨Int.emod_nonneg _ (by omega), Int.emod_lt_of_pos _ (by omega)⟩
theorem tmod_emod (n : Int) {m : Int} (h : 0 < m) : n % m = if n.tmod m < 0 then n.tmod m + m else n.tmod m := by
  have h1 := Int.mul_tdiv_add_tmod n m
  have h2 := Int.tmod_lt_of_pos n h
  have h3 : -m < n.tmod m := by
    have := Int.tmod_lt_of_pos (-n) h
    rw [Int.neg_tmod] at this
    omega
  have e : ∀ r : Int, 0 ≤ r → r < m → ∀ q, n = m * q + r → n % m = r := fun r a b q hq => by
    rw [hq, Int.add_comm, Int.add_mul_emod_self_left]
    exact Int.emod_eq_of_lt a b
  split
  · refine e _ (by omega) (by omega) (n.tdiv m - 1) ?_
    rw [Int.mul_sub]; omega
  · exact e _ (by omega) (by omega) (n.tdiv m) (by omega)
theorem Mod_ok (n m : Int) (h0 : -9223372036854775808 ≤ n) (h1 : n ≤ 9223372036854775807) (hm : m ≤ 9000000000000000000) (hm0 : -9000000000000000000 ≤ m) (H : Heap) : Ev T (.call (.func (.func 44) [] []) [.int .i64 n, .int .i64 m] H) (.call (.int .i64 (modI n m)) H) := by
  refine run_pure T44 (nn_int _ _) (nn_cons (nn_int _ _) (nn_cons (nn_int _ _) nn_none)) ?_ H
  unfold modI
  by_cases c : m < 1
  · rw [if_pos c]
    conv => whnf
    refine condP.dec (fun _ => ?_) (fun h => absurd c h)
    conv => whnf
    exact .intro (.int .i64 0) (.inl rfl) rfl (.refl _)
  · rw [if_neg c]
    have e := tmod_emod n (m := m) (by omega)
    have h2 := Int.tmod_lt_of_pos n (show 0 < m by omega)
    have h3 := Int.emod_nonneg n (show m ≠ 0 by omega)
    have h4 := Int.emod_lt_of_pos n (show 0 < m by omega)
    conv => whnf
    refine condP.dec (fun h => absurd h c) (fun _ => ?_)
    conv => whnf
    refine onTrue.intro (by simp; omega) ?_
    conv => whnf
    refine condP.dec (fun h => ?_) (fun h => ?_)
    · rw [if_pos h] at e
      conv => whnf
      refine .i64 (by omega) (by omega) ?_
      conv => whnf
      exact .intro (.int .i64 (n.tmod m + m)) (.inl rfl) rfl (frz_int e.symm)
    · rw [if_neg h] at e
      conv => whnf
      exact .intro (.int .i64 (n.tmod m)) (.inl rfl) rfl (frz_int e.symm)

end Go.Proofs.Ytpbadgghhiommaa.I
