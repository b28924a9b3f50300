/- Nets as the machine has them; arguments, as lists. -/
import Derived.Test.YtlfaglkkeahamaaGreatNnet
import Derived.Test.YtlfaglkkeahamaaGreatKat
import Derived.Test.YtlfaglkkeahamaaGreatI3
set_option linter.unusedVariables false
set_option linter.unusedSimpArgs false
namespace Go.Proofs.YtlfaglkkeahamaaGreat.I
open Go.Ideal Go.RowKit

theorem condP.rg {a b c d : Int} {A B : Prop} (h1 : a = c ∧ b = d → A) (h2 : ¬ (a = c ∧ b = d) → B) : condP (a == c && (b == d && true)) A B := condP.intro (fun q => h1 (by simpa using q)) (fun q => h2 (by simpa using q))
abbrev i6 (n : Int) : IV := .int .i64 n
theorem row_inn {S : Nat → Prop} {r : List IV} (h : ∀ x ∈ r, Noname x) : ∀ (j k : Nat) (hj : j < [r].length) (hk : k < ([r][j]).length), Inn S ([r][j][k]) := fun j k hj hk =>
  (noS_row (sz := 0) h _ (List.getElem_mem hj) _ (List.getElem_mem hk)).inn _

def Fam.R (F : Fam) : List IV := [sl F.g, sl F.p, sll F.lo, sll F.hi]
def Fam.I (F : Fam) : IV := famI F.g F.p F.lo F.hi
def Rg.R (r : Rg) : List IV := [.int .i64 r.lo, .int .i64 r.hi]
def Rg.I (r : Rg) : IV := rgI r.lo r.hi
def Tap.R (t : Tap) : List IV := [.int .i64 t.node, .int .i64 t.num, .int .i64 t.den]
def Tap.I (t : Tap) : IV := .agg t.R
def tapsI (l : List Tap) : IV := .fslice (l.map Tap.R)
def Stg.R (s : Stg) : List IV := [.int .i64 s.tube, .int .i64 s.su.lo, .int .i64 s.su.hi, .int .i64 s.ld.lo, .int .i64 s.ld.hi, .int .i64 s.bi.lo, .int .i64 s.bi.hi, tapsI s.taps]
def Stg.I (s : Stg) : IV := .agg s.R
def famsI (l : List Fam) : IV := .fslice (l.map Fam.R)
def stgsI (l : List Stg) : IV := .fslice (l.map Stg.R)
def rgsI (l : List Rg) : IV := .fslice (l.map Rg.R)
def Net.R (n : Net) : List IV := [famsI n.tubes, .int .i64 n.ins, stgsI n.stages]
def Net.I (n : Net) : IV := .agg n.R
theorem Fam.R_no (F : Fam) : ∀ x ∈ F.R, Noname x := nn_cons (sl_no _) (nn_cons (sl_no _) (nn_cons (sll_no _) (nn_cons (sll_no _) nn_none)))
theorem Fam.I_no (F : Fam) : Noname F.I := famI_no ..
theorem Rg.R_no (r : Rg) : ∀ x ∈ r.R, Noname x := nn_cons (.int _ _) (nn_cons (.int _ _) nn_none)
theorem Rg.I_no (r : Rg) : Noname r.I := nn_agg r.R_no
theorem Tap.R_no (r : Tap) : ∀ x ∈ r.R, Noname x := nn_cons (.int _ _) (nn_cons (.int _ _) (nn_cons (.int _ _) nn_none))
theorem Tap.I_no (r : Tap) : Noname r.I := nn_agg r.R_no
theorem tapsI_no (l : List Tap) : Noname (tapsI l) := nn_fs (fun _ _ => Tap.R_no _)
theorem Stg.R_no (s : Stg) : ∀ x ∈ s.R, Noname x := nn_cons (.int _ _) (nn_cons (.int _ _) (nn_cons (.int _ _) (nn_cons (.int _ _) (nn_cons (.int _ _) (nn_cons (.int _ _) (nn_cons (.int _ _) (nn_cons (tapsI_no _) nn_none)))))))
theorem Stg.I_no (s : Stg) : Noname s.I := nn_agg s.R_no
theorem famsI_no (l : List Fam) : Noname (famsI l) := nn_fs (fun _ _ => Fam.R_no _)
theorem stgsI_no (l : List Stg) : Noname (stgsI l) := nn_fs (fun _ _ => Stg.R_no _)
theorem rgsI_no (l : List Rg) : Noname (rgsI l) := nn_fs (fun _ _ => Rg.R_no _)
theorem Net.R_no (n : Net) : ∀ x ∈ n.R, Noname x := nn_cons (famsI_no _) (nn_cons (.int _ _) (nn_cons (stgsI_no _) nn_none))
theorem Net.I_no (n : Net) : Noname n.I := nn_agg n.R_no

theorem four {α : Type} {l : List α} (h : l.length = 4) : ∃ a b c d, l = [a, b, c, d] := by
  match l, h with
  | [a, b, c, d], _ => exact ⟨a, b, c, d, rfl⟩
structure Win where
  node : Int
  r : Rg
  deriving Inhabited
structure Cas where
  ins : List Rg
  wins : List Win
  deriving Inhabited
def Win.R (w : Win) : List IV := [.int .i64 w.node, .int .i64 w.r.lo, .int .i64 w.r.hi]
def winsI (l : List Win) : IV := .fslice (l.map Win.R)
def Cas.R (c : Cas) : List IV := [rgsI c.ins, winsI c.wins]
def casI (l : List Cas) : IV := .fslice (l.map Cas.R)
theorem Win.R_no (w : Win) : ∀ x ∈ w.R, Noname x := nn_cons (.int _ _) (nn_cons (.int _ _) (nn_cons (.int _ _) nn_none))
theorem winsI_no (l : List Win) : Noname (winsI l) := nn_fs (fun _ _ => Win.R_no _)
theorem Cas.R_no (c : Cas) : ∀ x ∈ c.R, Noname x := nn_cons (rgsI_no _) (nn_cons (winsI_no _) nn_none)
theorem casI_no (l : List Cas) : Noname (casI l) := nn_fs (fun _ _ => Cas.R_no _)
end Go.Proofs.YtlfaglkkeahamaaGreat.I
