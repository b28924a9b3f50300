/- Nets, plain: what they are, and their errors. -/
import Derived.Test.YtlfaglkkeahamaaGreatMfam
set_option linter.unusedVariables false
set_option linter.unusedSimpArgs false
namespace Go.Proofs.YtlfaglkkeahamaaGreat.I
open Go.Ideal

structure Fam where
  g : List Int
  p : List Int
  lo : List (List Int)
  hi : List (List Int)
  deriving Inhabited
structure Rg where
  lo : Int
  hi : Int
  deriving Inhabited, DecidableEq
structure Tap where
  node : Int
  num : Int
  den : Int
  deriving Inhabited, DecidableEq
structure Stg where
  tube : Int
  su : Rg
  ld : Rg
  bi : Rg
  taps : List Tap
  deriving Inhabited
structure Net where
  tubes : List Fam
  ins : Int
  stages : List Stg
  deriving Inhabited

def Fam.Ok (F : Fam) : Prop := FamOk F.g F.p F.lo F.hi
def Fam.err (F : Fam) : Int := famErr F.g F.p F.lo F.hi
def Out3 (n lo hi : Int) : Prop := n < lo ∨ hi < n
instance (n lo hi : Int) : Decidable (Out3 n lo hi) := by unfold Out3; exact inferInstance
def rgE (r : Rg) (lo hi : Int) : Int := if Out3 r.lo lo hi ∨ Out3 r.hi lo hi then 2 else if r.hi < r.lo then 11 else 0
def tapE (m : Int) (l : List Tap) (i : Nat) : Int :=
  if Out3 (at' l (i : Int)).node 0 (m - 1) ∨ Out3 (at' l (i : Int)).num 0 1000 ∨ Out3 (at' l (i : Int)).den 1 1000 then 2 else if 0 < i ∧ (at' l (i : Int)).node ≤ (at' l ((i : Int) - 1)).node then 11 else 0
def tapsE (m : Int) (l : List Tap) : Int := if 4 < l.length then 8 else firstErr (tapE m l) l.length
def stE (nt m : Int) (s : Stg) : Int :=
  if Out3 s.tube 0 (nt - 1) then 2 else if rgE s.su 0 1000000 ≠ 0 then rgE s.su 0 1000000 else if rgE s.ld 1 1000000 ≠ 0 then rgE s.ld 1 1000000 else if rgE s.bi (-1000000) 1000000 ≠ 0 then rgE s.bi (-1000000) 1000000 else tapsE m s.taps
def tubesE (l : List Fam) (i : Nat) : Int := (at' l (i : Int)).err
def stagesE (n : Net) (i : Nat) : Int := stE n.tubes.length (n.ins + n.stages.length) (at' n.stages (i : Int))
def netE (n : Net) : Int :=
  if n.tubes.length = 0 then 6 else if 4 < n.tubes.length then 8 else if firstErr (tubesE n.tubes) n.tubes.length ≠ 0 then firstErr (tubesE n.tubes) n.tubes.length else
  if Out3 n.ins 0 4 then 2 else if n.stages.length = 0 then 6 else if 6 < n.stages.length then 8 else firstErr (stagesE n) n.stages.length
def rgsE (l : List Rg) (many lo hi : Int) : Int := if (l.length : Int) ≠ many then 3 else firstErr (fun i => rgE (at' l (i : Int)) lo hi) l.length

structure Rg.Ok (r : Rg) (lo hi : Int) : Prop where
  a : lo ≤ r.lo
  b : r.lo ≤ r.hi
  c : r.hi ≤ hi
theorem rgE_zero {r : Rg} {lo hi : Int} : rgE r lo hi = 0 ↔ r.Ok lo hi := by
  unfold rgE Out3
  constructor
  · intro h
    split at h
    · cases h
    · split at h
      · cases h
      · exact ⟨by omega, by omega, by omega⟩
  · rintro ⟨a, b, c⟩
    rw [if_neg (by omega), if_neg (by omega)]
structure Tap.Ok (t : Tap) (m : Int) : Prop where
  n0 : 0 ≤ t.node
  n1 : t.node < m
  u0 : 0 ≤ t.num
  u1 : t.num ≤ 1000
  d0 : 1 ≤ t.den
  d1 : t.den ≤ 1000
structure TapsOk (m : Int) (l : List Tap) : Prop where
  len : l.length ≤ 4
  ok : ∀ i : Nat, i < l.length → (at' l (i : Int)).Ok m
  asc : ∀ i : Nat, 0 < i → i < l.length → (at' l ((i : Int) - 1)).node < (at' l (i : Int)).node
theorem tapsE_zero {m : Int} {l : List Tap} : tapsE m l = 0 ↔ TapsOk m l := by
  unfold tapsE
  constructor
  · intro h
    split at h
    · cases h
    rename_i hl
    rw [firstErr_zero] at h
    refine ⟨by omega, fun i hi => ?_, fun i h0 hi => ?_⟩
    all_goals
      have := h i hi
      unfold tapE Out3 at this
      split at this
      · cases this
      split at this
      · cases this
    · exact ⟨by omega, by omega, by omega, by omega, by omega, by omega⟩
    · omega
  · rintro ⟨h1, h2, h3⟩
    rw [if_neg (by omega), firstErr_zero]
    intro i hi
    obtain ⟨a, b, c, d, e, f⟩ := h2 i hi
    unfold tapE Out3
    rw [if_neg (by omega), if_neg]
    rintro ⟨g0, g1⟩
    have := h3 i g0 hi
    omega
structure Stg.Ok (s : Stg) (nt m : Int) : Prop where
  t0 : 0 ≤ s.tube
  t1 : s.tube < nt
  su : s.su.Ok 0 1000000
  ld : s.ld.Ok 1 1000000
  bi : s.bi.Ok (-1000000) 1000000
  taps : TapsOk m s.taps
theorem stE_zero {nt m : Int} {s : Stg} : stE nt m s = 0 ↔ s.Ok nt m := by
  unfold stE
  constructor
  · intro h
    split at h
    · cases h
    rename_i h0
    split at h
    · exact absurd h (by assumption)
    split at h
    · exact absurd h (by assumption)
    split at h
    · exact absurd h (by assumption)
    rename_i h1 h2 h3
    unfold Out3 at h0
    exact ⟨by omega, by omega, rgE_zero.mp (Classical.byContradiction h1), rgE_zero.mp (Classical.byContradiction h2), rgE_zero.mp (Classical.byContradiction h3), tapsE_zero.mp h⟩
  · rintro ⟨a, b, c, d, e, f⟩
    rw [if_neg (show ¬ Out3 s.tube 0 (nt - 1) by unfold Out3; omega), rgE_zero.mpr c, rgE_zero.mpr d, rgE_zero.mpr e, tapsE_zero.mpr f]
    rfl
structure Net.Ok (n : Net) : Prop where
  t0 : 1 ≤ n.tubes.length
  t1 : n.tubes.length ≤ 4
  fam : ∀ i : Nat, i < n.tubes.length → (at' n.tubes (i : Int)).Ok
  i0 : 0 ≤ n.ins
  i1 : n.ins ≤ 4
  s0 : 1 ≤ n.stages.length
  s1 : n.stages.length ≤ 6
  st : ∀ i : Nat, i < n.stages.length → (at' n.stages (i : Int)).Ok n.tubes.length (n.ins + n.stages.length)
theorem netE_zero {n : Net} : netE n = 0 ↔ n.Ok := by
  unfold netE
  constructor
  · intro h
    split at h
    · cases h
    split at h
    · cases h
    split at h
    · exact absurd h (by assumption)
    rename_i h1 h2 h3
    split at h
    · cases h
    split at h
    · cases h
    split at h
    · cases h
    rename_i h4 h5 h6
    unfold Out3 at h4
    rw [firstErr_zero] at h
    have h3 : firstErr (tubesE n.tubes) n.tubes.length = 0 := Classical.byContradiction h3
    rw [firstErr_zero] at h3
    exact ⟨by omega, by omega, fun i hi => famErr_zero (h3 i hi), by omega, by omega, by omega, by omega, fun i hi => stE_zero.mp (h i hi)⟩
  · rintro ⟨a, b, c, d, e, f, g, k⟩
    have h3 : firstErr (tubesE n.tubes) n.tubes.length = 0 := firstErr_zero.mpr fun i hi => FamOk.err (c i hi)
    have h4 : firstErr (stagesE n) n.stages.length = 0 := firstErr_zero.mpr fun i hi => stE_zero.mpr (k i hi)
    rw [h3, h4, if_neg (by omega), if_neg (by omega), if_neg (by simp), if_neg (show ¬ Out3 n.ins 0 4 by unfold Out3; omega), if_neg (by omega), if_neg (by omega)]
structure RgsOk (l : List Rg) (many lo hi : Int) : Prop where
  len : (l.length : Int) = many
  ok : ∀ i : Nat, i < l.length → (at' l (i : Int)).Ok lo hi
theorem rgsE_zero {l : List Rg} {many lo hi : Int} : rgsE l many lo hi = 0 ↔ RgsOk l many lo hi := by
  unfold rgsE
  constructor
  · intro h
    split at h
    · cases h
    rename_i h0
    rw [firstErr_zero] at h
    exact ⟨by omega, fun i hi => rgE_zero.mp (h i hi)⟩
  · rintro ⟨a, b⟩
    rw [if_neg (by omega), firstErr_zero]
    exact fun i hi => rgE_zero.mpr (b i hi)

def cutV (n : Int) : Int := max (-1000000) (min 1000000 n)
def gLo (x : List Rg) (l : List Tap) (b : Int) : Nat → Int
  | 0 => b
  | k + 1 => gLo x l b k + (at' l (k : Int)).num * (at' x (at' l (k : Int)).node).lo / (at' l (k : Int)).den
def gHi (x : List Rg) (l : List Tap) (b : Int) : Nat → Int
  | 0 => b
  | k + 1 => gHi x l b k + up ((at' l (k : Int)).num * (at' x (at' l (k : Int)).node).hi) (at' l (k : Int)).den
def Stg.grid (s : Stg) (x : List Rg) : Rg := ⟨cutV (gLo x s.taps s.bi.lo s.taps.length), cutV (gHi x s.taps s.bi.hi s.taps.length)⟩

/-- The first number below n that has a property; n, if none has. -/
noncomputable def least (P : Nat → Prop) : Nat → Nat
  | 0 => 0
  | n + 1 => open Classical in if least P n < n then least P n else if P n then n else n + 1
theorem least_spec (P : Nat → Prop) (n : Nat) : least P n ≤ n ∧ (∀ j, j < least P n → ¬ P j) ∧ (least P n < n → P (least P n)) := by
  induction n with
  | zero => exact ⟨Nat.le_refl _, fun j h => absurd h (Nat.not_lt_zero _), fun h => absurd h (Nat.lt_irrefl _)⟩
  | succ n ih =>
    obtain ⟨h1, h2, h3⟩ := ih
    rw [least]
    split
    · rename_i h
      exact ⟨by omega, h2, fun _ => h3 h⟩
    · rename_i h
      have e : least P n = n := by omega
      rw [e] at h2
      split
      · rename_i hp
        exact ⟨by omega, h2, fun _ => hp⟩
      · rename_i hp
        refine ⟨by omega, fun j hj => ?_, fun h => by omega⟩
        rcases Nat.lt_or_ge j n with c | c
        · exact h2 j c
        · obtain rfl : j = n := by omega
          exact hp
theorem least_eq {P : Nat → Prop} {n k : Nat} (h : k ≤ n) (h1 : ∀ j, j < k → ¬ P j) (h2 : k < n → P k) : least P n = k := by
  obtain ⟨a, b, c⟩ := least_spec P n
  rcases Nat.lt_trichotomy (least P n) k with q | q | q
  · exact absurd (c (by omega)) (h1 _ q)
  · exact q
  · exact absurd (h2 (by omega)) (b _ q)
theorem least_mono {P Q : Nat → Prop} {n m : Nat} (h : ∀ j, j < n → P j → Q j) (hm : n ≥ m) : least Q m ≤ least P n := by
  obtain ⟨a, b, c⟩ := least_spec P n
  obtain ⟨a', b', c'⟩ := least_spec Q m
  rcases Nat.lt_or_ge (least P n) (least Q m) with q | q
  · exact absurd (h _ (by omega) (c (by omega))) (b' _ q)
  · exact q
noncomputable def Fam.cLo (F : Fam) (v w : Int) : Int := atLo F.g F.p F.lo v w
noncomputable def Fam.cHi (F : Fam) (v w : Int) : Int := atHi F.g F.p F.hi v w
def overP (F : Fam) (s : Stg) (g : Int) (v : Nat) : Prop := 1000 * s.su.lo < 1000 * (v : Int) + s.ld.hi * F.cHi g v
def enP (F : Fam) (s : Stg) (g : Int) (v : Nat) : Prop := 1000 * s.su.hi ≤ 1000 * (v : Int) + s.ld.lo * F.cLo g v
noncomputable def overN (F : Fam) (s : Stg) (g : Int) : Nat := least (overP F s g) (s.su.lo + 1).toNat
noncomputable def enN (F : Fam) (s : Stg) (g : Int) : Nat := least (enP F s g) s.su.hi.toNat
noncomputable def Stg.plate (s : Stg) (F : Fam) (g : Rg) : Rg := ⟨max 0 ((overN F s g.hi : Int) - 1), enN F s g.lo⟩

def nextR (a p : Rg) : Rg := ⟨max a.lo p.lo, min a.hi p.hi⟩
noncomputable def Net.F (n : Net) (i : Nat) (x : List Rg) : Rg := (at' n.stages (i : Int)).plate (at' n.tubes (at' n.stages (i : Int)).tube) ((at' n.stages (i : Int)).grid x)
/-- After so many stages of a sweep. -/
noncomputable def Net.part (n : Net) (x : List Rg) : Nat → List Rg
  | 0 => x
  | k + 1 => (n.part x k).set (n.ins.toNat + k) (nextR (at' (n.part x k) (n.ins + k)) (n.F k (n.part x k)))
/-- .. nothing has changed. -/
noncomputable def Net.same (n : Net) (x : List Rg) : Nat → Bool
  | 0 => true
  | k + 1 => n.same x k && decide (nextR (at' (n.part x k) (n.ins + k)) (n.F k (n.part x k)) = at' (n.part x k) (n.ins + k))
noncomputable def Net.sweep (n : Net) (x : List Rg) : List Rg := n.part x n.stages.length
noncomputable def Net.rest (n : Net) (x : List Rg) : Nat → List Rg × Nat × Bool
  | 0 => (x, 0, false)
  | k + 1 => if (n.rest x k).2.2 then n.rest x k else (n.sweep (n.rest x k).1, (n.rest x k).2.1 + 1, n.same (n.rest x k).1 n.stages.length)
def Net.start (n : Net) (inputs : List Rg) : List Rg := inputs ++ n.stages.map fun s => ⟨0, s.su.hi⟩
noncomputable def Net.settle (n : Net) (inputs : List Rg) (k : Nat) : List Rg × Nat × Bool := n.rest (n.start inputs) k

end Go.Proofs.YtlfaglkkeahamaaGreat.I
