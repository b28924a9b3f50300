/- Arguments, as lists. -/
import Derived.Test.YtpbadgghhiommaaGoven
import Derived.Test.YtpbadgghhiommaaI3
set_option linter.unusedVariables false
set_option linter.unusedSimpArgs false
namespace Go.Proofs.Ytpbadgghhiommaa.I
open Go.Ideal Go.RowKit

theorem condP.same2 {a b : Int} {A B : Prop} (h : A) : condP (a == a && (b == b && true)) A B := condP.intro (fun _ => h) (fun q => absurd q (by simp))
theorem condP.rg {a b c d : Int} {A B : Prop} (h1 : a = c ∧ b = d → A) (h2 : ¬ (a = c ∧ b = d) → B) : condP (a == c && (b == d && true)) A B := condP.intro (fun q => h1 (by simpa using q)) (fun q => h2 (by simpa using q))
theorem condP.same1 {a : Int} {A B : Prop} (h : A) : condP (a == a) A B := condP.intro (fun _ => h) (fun q => absurd q (by simp))
theorem condP.differ1 {a : Int} {A B : Prop} (h : B) : condP (a != a) A B := condP.intro (fun q => absurd q (by simp)) (fun _ => h)

abbrev ctZ : List CT := [.i .i64, .i .i64, .i .i64, .i .i64, .i .i64]
theorem five {α : Type} {l : List α} (h : l.length = 5) : ∃ a b c d e, l = [a, b, c, d, e] := by
  match l, h with
  | [a, b, c, d, e], _ => exact ⟨a, b, c, d, e, rfl⟩
theorem three {α : Type} {l : List α} (h : l.length = 3) : ∃ a b c, l = [a, b, c] := by
  match l, h with
  | [a, b, c], _ => exact ⟨a, b, c, rfl⟩
theorem two {α : Type} {l : List α} (h : l.length = 2) : ∃ a b, l = [a, b] := by
  match l, h with
  | [a, b], _ => exact ⟨a, b, rfl⟩
theorem okZone {e : List IV} (hl : e.length = 5) (hk : ∀ (k : Nat) (hk : k < e.length) (hk' : k < ctZ.length), OkI ctZ[k] e[k]) : ∃ z : Zone, e = zr z := by
  obtain ⟨a, b, c, d, f, rfl⟩ := five hl
  obtain ⟨n0, e0, _⟩ := (hk 0 (by simp) (by simp)).int
  obtain ⟨n1, e1, _⟩ := (hk 1 (by simp) (by simp)).int
  obtain ⟨n2, e2, _⟩ := (hk 2 (by simp) (by simp)).int
  obtain ⟨n3, e3, _⟩ := (hk 3 (by simp) (by simp)).int
  obtain ⟨n4, e4, _⟩ := (hk 4 (by simp) (by simp)).int
  simp only [List.getElem_cons_zero, List.getElem_cons_succ] at e0 e1 e2 e3 e4
  exact ⟨⟨n0, n1, n2, n3, n4⟩, by rw [e0, e1, e2, e3, e4]; rfl⟩
theorem okZones {x : IV} (h : OkI (.sl ctZ) x) : ∃ zs : List Zone, x = zsl zs ∧ zs.length ≤ maxLen := by
  obtain ⟨l, h1, h2, _⟩ := h.slice (enc := zr) (Q := fun _ => True) (fun e hl hk => by
    obtain ⟨z, hz⟩ := okZone hl hk
    exact ⟨z, hz, trivial⟩)
  exact ⟨l, h1, h2⟩
def stR (p : Int × List Zone) : List IV := [.int .i64 p.1, zsl p.2]
theorem stR_no (p : Int × List Zone) : ∀ x ∈ stR p, Noname x := stuff_row _ _
def stsl (l : List (Int × List Zone)) : IV := .fslice (l.map stR)
theorem stsl_no (l : List (Int × List Zone)) : Noname (stsl l) := nn_fs (fun _ _ => stR_no _)
theorem okStuffs {x : IV} (h : OkI (.sl [.i .i64, .sl ctZ]) x) : ∃ l : List (Int × List Zone), x = stsl l ∧ l.length ≤ maxLen ∧ ∀ p ∈ l, p.2.length ≤ maxLen :=
  h.slice (enc := stR) (Q := fun p => p.2.length ≤ maxLen) (fun e hl hk => by
    obtain ⟨a, b, rfl⟩ := two hl
    obtain ⟨n, e0, _⟩ := (hk 0 (by simp) (by simp)).int
    obtain ⟨zs, e1, hz⟩ := okZones (hk 1 (by simp) (by simp))
    simp only [List.getElem_cons_zero, List.getElem_cons_succ] at e0 e1
    exact ⟨(n, zs), by rw [e0, e1]; rfl, hz⟩)
theorem okLegs {x : IV} (h : OkI (.sl [.i .i64, .i .i64]) x) : ∃ ls : List Leg, x = lsl ls ∧ ls.length ≤ maxLen := by
  obtain ⟨l, h1, h2, _⟩ := h.slice (enc := lr) (Q := fun _ => True) (fun e hl hk => by
    obtain ⟨a, b, rfl⟩ := two hl
    obtain ⟨n, e0, _⟩ := (hk 0 (by simp) (by simp)).int
    obtain ⟨m, e1, _⟩ := (hk 1 (by simp) (by simp)).int
    simp only [List.getElem_cons_zero, List.getElem_cons_succ] at e0 e1
    exact ⟨⟨n, m⟩, by rw [e0, e1]; rfl, trivial⟩)
  exact ⟨l, h1, h2⟩
structure Fire where
  heat : Int
  hold : Int
  aft : List Int
  deriving Inhabited
def frR (f : Fire) : List IV := [.int .i64 f.heat, .int .i64 f.hold, sl f.aft]
theorem frR_no (f : Fire) : ∀ x ∈ frR f, Noname x := nn_cons (.int _ _) (nn_cons (.int _ _) (nn_cons (sl_no _) nn_none))
def frsl (l : List Fire) : IV := .fslice (l.map frR)
theorem frsl_no (l : List Fire) : Noname (frsl l) := nn_fs (fun _ _ => frR_no _)
theorem okFires {x : IV} (h : OkI (.sl [.i .i64, .i .i64, .sl [.i .i64]]) x) : ∃ l : List Fire, x = frsl l ∧ l.length ≤ maxLen ∧ ∀ f ∈ l, f.aft.length ≤ maxLen :=
  h.slice (enc := frR) (Q := fun f => f.aft.length ≤ maxLen) (fun e hl hk => by
    obtain ⟨a, b, c, rfl⟩ := three hl
    obtain ⟨n, e0, _⟩ := (hk 0 (by simp) (by simp)).int
    obtain ⟨m, e1, _⟩ := (hk 1 (by simp) (by simp)).int
    obtain ⟨r, e2, hr⟩ := (hk 2 (by simp) (by simp)).ints
    simp only [List.getElem_cons_zero, List.getElem_cons_succ] at e0 e1 e2
    exact ⟨⟨n, m, r⟩, by rw [e0, e1, e2]; rfl, hr⟩)

end Go.Proofs.Ytpbadgghhiommaa.I
