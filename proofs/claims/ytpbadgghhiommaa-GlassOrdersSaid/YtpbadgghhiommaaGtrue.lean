/- What truly grows. -/
import Derived.Test.YtpbadgghhiommaaGseal
set_option linter.unusedVariables false
set_option maxHeartbeats 8000000
set_option linter.unusedSimpArgs false
namespace Go.Proofs.Ytpbadgghhiommaa.I
open Go.Ideal

theorem gUp_add (f : Zone → Int) (zs : List Zone) {a b c : Int} (h1 : a ≤ b) (h2 : b ≤ c) : gUp f zs a c = gUp f zs a b + gUp f zs b c := by
  unfold gUp
  rw [show (c - a).toNat = (b - a).toNat + (c - b).toNat by omega, sumG_add, show a + (((b - a).toNat : Nat) : Int) = b by omega]
theorem gLo_up {zs : List Zone} {u v : Int} (h : u ≤ v) : gLo zs u v = gUp Zone.gl zs u v := if_pos h
theorem gHi_up {zs : List Zone} {u v : Int} (h : u ≤ v) : gHi zs u v = gUp Zone.gh zs u v := if_pos h
theorem gLo_down {zs : List Zone} {u v : Int} (h : v ≤ u) : gLo zs u v = - gUp Zone.gh zs v u := by
  unfold gLo
  split
  · obtain rfl : u = v := by omega
    rw [gUp_nil, gUp_nil]; rfl
  · rfl
theorem gHi_down {zs : List Zone} {u v : Int} (h : v ≤ u) : gHi zs u v = - gUp Zone.gl zs v u := by
  unfold gHi
  split
  · obtain rfl : u = v := by omega
    rw [gUp_nil, gUp_nil]; rfl
  · rfl
theorem gLo_add {zs : List Zone} {u m v : Int} (h : (u ≤ m ∧ m ≤ v) ∨ (v ≤ m ∧ m ≤ u)) : gLo zs u v = gLo zs u m + gLo zs m v := by
  rcases h with ⟨h1, h2⟩ | ⟨h1, h2⟩
  · rw [gLo_up h1, gLo_up h2, gLo_up (by omega), gUp_add _ _ h1 h2]
  · rw [gLo_down h2, gLo_down h1, gLo_down (by omega), gUp_add _ _ h1 h2]; omega
theorem gHi_add {zs : List Zone} {u m v : Int} (h : (u ≤ m ∧ m ≤ v) ∨ (v ≤ m ∧ m ≤ u)) : gHi zs u v = gHi zs u m + gHi zs m v := by
  rcases h with ⟨h1, h2⟩ | ⟨h1, h2⟩
  · rw [gHi_up h1, gHi_up h2, gHi_up (by omega), gUp_add _ _ h1 h2]
  · rw [gHi_down h2, gHi_down h1, gHi_down (by omega), gUp_add _ _ h1 h2]; omega

def tsum (l : List Int) (a : Int) : Nat → Int
  | 0 => 0
  | k + 1 => tsum l a k + at' l (a + k)
def grownV (l : List Int) (u v : Int) : Int := if u ≤ v then tsum l u (v - u).toNat else - tsum l v (u - v).toNat
structure TrueL (zs : List Zone) (l : List Int) : Prop where
  len : l.length = 2001
  at_ : ∀ t : Int, 0 ≤ t → t ≤ 2000 → (zoneOf zs t).gl ≤ at' l t ∧ at' l t ≤ (zoneOf zs t).gh
theorem tsum_in {zs : List Zone} {l : List Int} (h : TrueL zs l) {a : Int} (ha : 0 ≤ a) : ∀ k : Nat, a + k ≤ 2001 → sumG Zone.gl zs a k ≤ tsum l a k ∧ tsum l a k ≤ sumG Zone.gh zs a k
  | 0, _ => ⟨Int.le_refl _, Int.le_refl _⟩
  | k + 1, hk => by
    have h1 := tsum_in h ha k (by omega)
    have h2 := h.at_ (a + k) (by omega) (by omega)
    rw [sumG, sumG, tsum]
    omega
theorem grown_in {zs : List Zone} {l : List Int} (h : TrueL zs l) {u v : Int} (hu : 0 ≤ u) (hu1 : u ≤ 2000) (hv : 0 ≤ v) (hv1 : v ≤ 2000) : gLo zs u v ≤ grownV l u v ∧ grownV l u v ≤ gHi zs u v := by
  unfold grownV
  split
  · rename_i c
    rw [gLo_up c, gHi_up c]
    exact tsum_in h hu _ (by omega)
  · rename_i c
    have := tsum_in h hv (u - v).toNat (by omega)
    rw [gLo_down (by omega), gHi_down (by omega)]
    unfold gUp
    omega

end Go.Proofs.Ytpbadgghhiommaa.I
