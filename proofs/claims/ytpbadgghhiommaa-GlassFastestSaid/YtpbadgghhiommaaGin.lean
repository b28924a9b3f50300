/- Arguments, as lists. -/
import Derived.Test.YtpbadgghhiommaaGoven
import Derived.Test.YtpbadgghhiommaaI3
set_option linter.unusedVariables false
set_option linter.unusedSimpArgs false
namespace Go.Proofs.Ytpbadgghhiommaa.I
open Go.Ideal Go.RowKit

theorem condP.same1 {a : Int} {A B : Prop} (h : A) : condP (a == a) A B := condP.intro (fun _ => h) (fun q => absurd q (by simp))
theorem condP.differ1 {a : Int} {A B : Prop} (h : B) : condP (a != a) A B := condP.intro (fun q => absurd q (by simp)) (fun _ => h)

abbrev ctZ : List CT := [.i .i64, .i .i64, .i .i64, .i .i64, .i .i64]
theorem five {α : Type} {l : List α} (h : l.length = 5) : ∃ a b c d e, l = [a, b, c, d, e] := by
  match l, h with
  | [a, b, c, d, e], _ => exact ⟨a, b, c, d, e, rfl⟩
theorem two {α : Type} {l : List α} (h : l.length = 2) : ∃ a b, l = [a, b] := by
  match l, h with
  | [a, b], _ => exact ⟨a, b, rfl⟩
theorem okZone {e : List IV} (hl : e.length = 5) (hk : ∀ (k : Nat) (hk : k < e.length) (hk' : k < ctZ.length), OkI ctZ[k] e[k]) : ∃ z : Zone, e = zr z := by
  obtain ⟨a, b, c, d, f, rfl⟩ := five hl
  obtain ⟨n0, e0, _⟩ := (hk 0 (by simp) (by simp)).int
  obtain ⟨n1, e1, _⟩ := (hk 1 (by simp) (by simp)).int
  obtain ⟨n2, e2, _⟩ := (hk 2 (by simp) (by simp)).int
  obtain ⟨n3, e3, _⟩ := (hk 3 (by simp) (by simp)).int
  obtain ⟨n4, e4, _⟩ := (hk 4 (by simp) (by simp)).int
  simp only [List.getElem_cons_zero, List.getElem_cons_succ] at e0 e1 e2 e3 e4
  exact ⟨⟨n0, n1, n2, n3, n4⟩, by rw [e0, e1, e2, e3, e4]; rfl⟩
theorem okZones {x : IV} (h : OkI (.sl ctZ) x) : ∃ zs : List Zone, x = zsl zs ∧ zs.length ≤ maxLen := by
  obtain ⟨l, h1, h2, _⟩ := h.slice (enc := zr) (Q := fun _ => True) (fun e hl hk => by
    obtain ⟨z, hz⟩ := okZone hl hk
    exact ⟨z, hz, trivial⟩)
  exact ⟨l, h1, h2⟩
structure Fire where
  heat : Int
  hold : Int
  aft : List Int
  deriving Inhabited
end Go.Proofs.Ytpbadgghhiommaa.I
