/- The pair of stages that look at each other; made. -/
import Derived.Test.YtlfaglkkeahamaaGreatNnetof
set_option linter.unusedVariables false
set_option maxHeartbeats 64000000
set_option linter.unusedSimpArgs false
namespace Go.Proofs.YtlfaglkkeahamaaGreat.I
open Go.Ideal

inductive MvE (kept : List Nat) (H H' : Heap) : Els → Els → Prop
  | nil : MvE kept H H' [] []
  | cons {x y : List IV} {xs ys : Els} (h : MvL kept H H' x y) (k : MvE kept H H' xs ys) : MvE kept H H' (x :: xs) (y :: ys)
theorem MvE.len {kept : List Nat} {H H' : Heap} {l l' : Els} (h : MvE kept H H' l l') : l'.length = l.length := by
  induction h with
  | nil => rfl
  | cons _ _ ih => simp [ih]
theorem MvE.get {kept : List Nat} {H H' : Heap} {l l' : Els} (h : MvE kept H H' l l') : ∀ (i : Nat) (h1 : i < l.length) (h2 : i < l'.length), MvL kept H H' l[i] l'[i] := by
  induction h with
  | nil => intro i h; simp at h
  | cons h _ ih =>
    intro i h1 h2
    cases i with
    | zero => exact h
    | succ i => exact ih i (by simpa using h1) (by simpa using h2)
theorem MvS.rows {kept : List Nat} {H H' : Heap} {sz : Nat} {r r' : Els} (h : MvE kept H H' r r') : MvS kept H H' (.live sz r) (.live sz r') :=
  .live h.len (fun j a b => (h.get j a b).len) (fun j k a b c d => (h.get j a b).get k c d)
end Go.Proofs.YtlfaglkkeahamaaGreat.I
