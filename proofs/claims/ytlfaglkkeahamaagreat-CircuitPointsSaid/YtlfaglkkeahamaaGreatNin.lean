/- Nets as the machine has them; arguments, as lists. -/
import Derived.Test.YtlfaglkkeahamaaGreatNnet
import Derived.Test.YtlfaglkkeahamaaGreatKat
import Derived.Test.YtlfaglkkeahamaaGreatI3
set_option linter.unusedVariables false
set_option linter.unusedSimpArgs false
namespace Go.Proofs.YtlfaglkkeahamaaGreat.I
open Go.Ideal Go.RowKit

theorem condP.rg {a b c d : Int} {A B : Prop} (h1 : a = c ∧ b = d → A) (h2 : ¬ (a = c ∧ b = d) → B) : condP (a == c && (b == d && true)) A B := condP.intro (fun q => h1 (by simpa using q)) (fun q => h2 (by simpa using q))
abbrev i6 (n : Int) : IV := .int .i64 n
theorem row_inn {S : Nat → Prop} {r : List IV} (h : ∀ x ∈ r, Noname x) : ∀ (j k : Nat) (hj : j < [r].length) (hk : k < ([r][j]).length), Inn S ([r][j][k]) := fun j k hj hk =>
  (noS_row (sz := 0) h _ (List.getElem_mem hj) _ (List.getElem_mem hk)).inn _

def Fam.R (F : Fam) : List IV := [sl F.g, sl F.p, sll F.lo, sll F.hi]
def Fam.I (F : Fam) : IV := famI F.g F.p F.lo F.hi
def Rg.R (r : Rg) : List IV := [.int .i64 r.lo, .int .i64 r.hi]
def Rg.I (r : Rg) : IV := rgI r.lo r.hi
def Tap.R (t : Tap) : List IV := [.int .i64 t.node, .int .i64 t.num, .int .i64 t.den]
def Tap.I (t : Tap) : IV := .agg t.R
def tapsI (l : List Tap) : IV := .fslice (l.map Tap.R)
def Stg.R (s : Stg) : List IV := [.int .i64 s.tube, .int .i64 s.su.lo, .int .i64 s.su.hi, .int .i64 s.ld.lo, .int .i64 s.ld.hi, .int .i64 s.bi.lo, .int .i64 s.bi.hi, tapsI s.taps]
def Stg.I (s : Stg) : IV := .agg s.R
def famsI (l : List Fam) : IV := .fslice (l.map Fam.R)
def stgsI (l : List Stg) : IV := .fslice (l.map Stg.R)
def rgsI (l : List Rg) : IV := .fslice (l.map Rg.R)
def Net.R (n : Net) : List IV := [famsI n.tubes, .int .i64 n.ins, stgsI n.stages]
def Net.I (n : Net) : IV := .agg n.R
theorem Fam.R_no (F : Fam) : ∀ x ∈ F.R, Noname x := nn_cons (sl_no _) (nn_cons (sl_no _) (nn_cons (sll_no _) (nn_cons (sll_no _) nn_none)))
theorem Fam.I_no (F : Fam) : Noname F.I := famI_no ..
theorem Rg.R_no (r : Rg) : ∀ x ∈ r.R, Noname x := nn_cons (.int _ _) (nn_cons (.int _ _) nn_none)
theorem Rg.I_no (r : Rg) : Noname r.I := nn_agg r.R_no
theorem Tap.R_no (r : Tap) : ∀ x ∈ r.R, Noname x := nn_cons (.int _ _) (nn_cons (.int _ _) (nn_cons (.int _ _) nn_none))
theorem Tap.I_no (r : Tap) : Noname r.I := nn_agg r.R_no
theorem tapsI_no (l : List Tap) : Noname (tapsI l) := nn_fs (fun _ _ => Tap.R_no _)
theorem Stg.R_no (s : Stg) : ∀ x ∈ s.R, Noname x := nn_cons (.int _ _) (nn_cons (.int _ _) (nn_cons (.int _ _) (nn_cons (.int _ _) (nn_cons (.int _ _) (nn_cons (.int _ _) (nn_cons (.int _ _) (nn_cons (tapsI_no _) nn_none)))))))
theorem Stg.I_no (s : Stg) : Noname s.I := nn_agg s.R_no
theorem famsI_no (l : List Fam) : Noname (famsI l) := nn_fs (fun _ _ => Fam.R_no _)
theorem stgsI_no (l : List Stg) : Noname (stgsI l) := nn_fs (fun _ _ => Stg.R_no _)
theorem rgsI_no (l : List Rg) : Noname (rgsI l) := nn_fs (fun _ _ => Rg.R_no _)
theorem Net.R_no (n : Net) : ∀ x ∈ n.R, Noname x := nn_cons (famsI_no _) (nn_cons (.int _ _) (nn_cons (stgsI_no _) nn_none))
theorem Net.I_no (n : Net) : Noname n.I := nn_agg n.R_no

theorem two {α : Type} {l : List α} (h : l.length = 2) : ∃ a b, l = [a, b] := by
  match l, h with
  | [a, b], _ => exact ⟨a, b, rfl⟩
theorem three {α : Type} {l : List α} (h : l.length = 3) : ∃ a b c, l = [a, b, c] := by
  match l, h with
  | [a, b, c], _ => exact ⟨a, b, c, rfl⟩
theorem four {α : Type} {l : List α} (h : l.length = 4) : ∃ a b c d, l = [a, b, c, d] := by
  match l, h with
  | [a, b, c, d], _ => exact ⟨a, b, c, d, rfl⟩
theorem eight {α : Type} {l : List α} (h : l.length = 8) : ∃ a b c d e f g k, l = [a, b, c, d, e, f, g, k] := by
  match l, h with
  | [a, b, c, d, e, f, g, k], _ => exact ⟨a, b, c, d, e, f, g, k, rfl⟩
abbrev ctF : List CT := [.sl [.i .i64], .sl [.i .i64], .sl [.sl [.i .i64]], .sl [.sl [.i .i64]]]
abbrev ctS : List CT := [.i .i64, .i .i64, .i .i64, .i .i64, .i .i64, .i .i64, .i .i64, .sl [.i .i64, .i .i64, .i .i64]]
abbrev ctN : List CT := [.sl ctF, .i .i64, .sl ctS]
/-- What has a length. -/
structure Fam.Len (F : Fam) : Prop where
  g : F.g.length ≤ 9223372036854775807
  p : F.p.length ≤ 9223372036854775807
  lo : F.lo.length ≤ 9223372036854775807
  hi : F.hi.length ≤ 9223372036854775807
  lr : ∀ r ∈ F.lo, r.length ≤ 9223372036854775807
  hr : ∀ r ∈ F.hi, r.length ≤ 9223372036854775807
structure Rg.Len (r : Rg) : Prop where
  a0 : -9223372036854775808 ≤ r.lo
  a1 : r.lo ≤ 9223372036854775807
  b0 : -9223372036854775808 ≤ r.hi
  b1 : r.hi ≤ 9223372036854775807
structure Tap.Len (t : Tap) : Prop where
  n0 : -9223372036854775808 ≤ t.node
  n1 : t.node ≤ 9223372036854775807
  u0 : -9223372036854775808 ≤ t.num
  u1 : t.num ≤ 9223372036854775807
  d0 : -9223372036854775808 ≤ t.den
  d1 : t.den ≤ 9223372036854775807
structure Stg.Len (s : Stg) : Prop where
  t0 : -9223372036854775808 ≤ s.tube
  t1 : s.tube ≤ 9223372036854775807
  su : s.su.Len
  ld : s.ld.Len
  bi : s.bi.Len
  tl : s.taps.length ≤ 9223372036854775807
  taps : ∀ t ∈ s.taps, t.Len
structure Net.Len (n : Net) : Prop where
  tl : n.tubes.length ≤ 9223372036854775807
  tubes : ∀ F ∈ n.tubes, F.Len
  i0 : -9223372036854775808 ≤ n.ins
  i1 : n.ins ≤ 9223372036854775807
  sn : n.stages.length ≤ 9223372036854775807
  stages : ∀ s ∈ n.stages, s.Len
theorem mkRg {x y : IV} (h : OkI (.i .i64) x) (k : OkI (.i .i64) y) : ∃ r : Rg, x = .int .i64 r.lo ∧ y = .int .i64 r.hi ∧ r.Len := by
  obtain ⟨a, rfl, a0, a1⟩ := h.int
  obtain ⟨b, rfl, b0, b1⟩ := k.int
  exact ⟨⟨a, b⟩, rfl, rfl, ⟨a0, a1, b0, b1⟩⟩
theorem okRange {e : List IV} (hl : e.length = 2) (hk : ∀ (k : Nat) (hk : k < e.length) (hk' : k < [CT.i .i64, .i .i64].length), OkI [CT.i .i64, .i .i64][k] e[k]) : ∃ r : Rg, e = r.R ∧ r.Len := by
  obtain ⟨a, b, rfl⟩ := two hl
  obtain ⟨r, rfl, rfl, hr⟩ := mkRg (hk 0 (by simp) (by simp)) (hk 1 (by simp) (by simp))
  exact ⟨r, rfl, hr⟩
theorem okRanges {x : IV} (h : OkI (.sl [.i .i64, .i .i64]) x) : ∃ l : List Rg, x = rgsI l ∧ l.length ≤ 9223372036854775807 ∧ ∀ r ∈ l, r.Len :=
  h.slice (enc := Rg.R) (Q := Rg.Len) (fun e hl hk => okRange hl hk)
theorem okTaps {x : IV} (h : OkI (.sl [.i .i64, .i .i64, .i .i64]) x) : ∃ l : List Tap, x = tapsI l ∧ l.length ≤ 9223372036854775807 ∧ ∀ r ∈ l, r.Len :=
  h.slice (enc := Tap.R) (Q := Tap.Len) (fun e hl hk => by
    obtain ⟨a, b, c, rfl⟩ := three hl
    obtain ⟨n0, e0, a0, a1⟩ := (hk 0 (by simp) (by simp)).int
    obtain ⟨n1, e1, b0, b1⟩ := (hk 1 (by simp) (by simp)).int
    obtain ⟨n2, e2, c0, c1⟩ := (hk 2 (by simp) (by simp)).int
    simp only [List.getElem_cons_zero, List.getElem_cons_succ] at e0 e1 e2
    exact ⟨⟨n0, n1, n2⟩, by rw [e0, e1, e2]; rfl, ⟨a0, a1, b0, b1, c0, c1⟩⟩)
theorem okFam {e : List IV} (hl : e.length = 4) (hk : ∀ (k : Nat) (hk : k < e.length) (hk' : k < ctF.length), OkI ctF[k] e[k]) : ∃ F : Fam, e = F.R ∧ F.Len := by
  obtain ⟨a, b, c, d, rfl⟩ := four hl
  obtain ⟨g, e0, a0⟩ := (hk 0 (by simp) (by simp)).ints
  obtain ⟨p, e1, a1⟩ := (hk 1 (by simp) (by simp)).ints
  obtain ⟨lo, e2, a2, b2⟩ := (hk 2 (by simp) (by simp)).rows
  obtain ⟨hi, e3, a3, b3⟩ := (hk 3 (by simp) (by simp)).rows
  simp only [List.getElem_cons_zero, List.getElem_cons_succ] at e0 e1 e2 e3
  exact ⟨⟨g, p, lo, hi⟩, by rw [e0, e1, e2, e3]; rfl, ⟨a0, a1, a2, a3, b2, b3⟩⟩
theorem okFams {x : IV} (h : OkI (.sl ctF) x) : ∃ l : List Fam, x = famsI l ∧ l.length ≤ 9223372036854775807 ∧ ∀ r ∈ l, r.Len :=
  h.slice (enc := Fam.R) (Q := Fam.Len) (fun e hl hk => okFam hl hk)
theorem okStage {e : List IV} (hl : e.length = 8) (hk : ∀ (k : Nat) (hk : k < e.length) (hk' : k < ctS.length), OkI ctS[k] e[k]) : ∃ s : Stg, e = s.R ∧ s.Len := by
  obtain ⟨t, s0, s1, l0, l1, b0, b1, tp, rfl⟩ := eight hl
  obtain ⟨n, e0, t0, t1⟩ := (hk 0 (by simp) (by simp)).int
  obtain ⟨su, e1, e2, hsu⟩ := mkRg (hk 1 (by simp) (by simp)) (hk 2 (by simp) (by simp))
  obtain ⟨ld, e3, e4, hld⟩ := mkRg (hk 3 (by simp) (by simp)) (hk 4 (by simp) (by simp))
  obtain ⟨bi, e5, e6, hbi⟩ := mkRg (hk 5 (by simp) (by simp)) (hk 6 (by simp) (by simp))
  obtain ⟨l, e7, a7, b7⟩ := okTaps (hk 7 (by simp) (by simp))
  simp only [List.getElem_cons_zero, List.getElem_cons_succ] at e0 e1 e2 e3 e4 e5 e6 e7
  exact ⟨⟨n, su, ld, bi, l⟩, by rw [e0, e1, e2, e3, e4, e5, e6, e7]; rfl, ⟨t0, t1, hsu, hld, hbi, a7, b7⟩⟩
theorem okStages {x : IV} (h : OkI (.sl ctS) x) : ∃ l : List Stg, x = stgsI l ∧ l.length ≤ 9223372036854775807 ∧ ∀ r ∈ l, r.Len :=
  h.slice (enc := Stg.R) (Q := Stg.Len) (fun e hl hk => okStage hl hk)
theorem okNet {e : List IV} (hl : e.length = 3) (hk : ∀ (k : Nat) (hk : k < ctN.length) (hk' : k < e.length), OkI ctN[k] e[k]) : ∃ n : Net, e = n.R ∧ n.Len := by
  obtain ⟨a, b, c, rfl⟩ := three hl
  obtain ⟨t, e0, a0, b0⟩ := okFams (hk 0 (by simp) (by simp))
  obtain ⟨i, e1, a1, b1⟩ := (hk 1 (by simp) (by simp)).int
  obtain ⟨s, e2, a2, b2⟩ := okStages (hk 2 (by simp) (by simp))
  simp only [List.getElem_cons_zero, List.getElem_cons_succ] at e0 e1 e2
  exact ⟨⟨t, i, s⟩, by rw [e0, e1, e2]; rfl, ⟨a0, b0, a1, b1, a2, b2⟩⟩

structure Win where
  node : Int
  r : Rg
  deriving Inhabited
structure Cas where
  ins : List Rg
  wins : List Win
  deriving Inhabited
def Win.R (w : Win) : List IV := [.int .i64 w.node, .int .i64 w.r.lo, .int .i64 w.r.hi]
def winsI (l : List Win) : IV := .fslice (l.map Win.R)
def Cas.R (c : Cas) : List IV := [rgsI c.ins, winsI c.wins]
def casI (l : List Cas) : IV := .fslice (l.map Cas.R)
theorem Win.R_no (w : Win) : ∀ x ∈ w.R, Noname x := nn_cons (.int _ _) (nn_cons (.int _ _) (nn_cons (.int _ _) nn_none))
theorem winsI_no (l : List Win) : Noname (winsI l) := nn_fs (fun _ _ => Win.R_no _)
theorem Cas.R_no (c : Cas) : ∀ x ∈ c.R, Noname x := nn_cons (rgsI_no _) (nn_cons (winsI_no _) nn_none)
theorem casI_no (l : List Cas) : Noname (casI l) := nn_fs (fun _ _ => Cas.R_no _)
structure Win.Len (w : Win) : Prop where
  n0 : -9223372036854775808 ≤ w.node
  n1 : w.node ≤ 9223372036854775807
  r : w.r.Len
structure Cas.Len (c : Cas) : Prop where
  il : c.ins.length ≤ 9223372036854775807
  ins : ∀ r ∈ c.ins, r.Len
  wl : c.wins.length ≤ 9223372036854775807
  wins : ∀ w ∈ c.wins, w.Len
end Go.Proofs.YtlfaglkkeahamaaGreat.I
