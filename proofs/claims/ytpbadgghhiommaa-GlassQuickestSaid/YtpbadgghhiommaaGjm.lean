/- Programmes, tick by tick: heats, strains, verdicts. -/
import Derived.Test.YtpbadgghhiommaaGstrain
import Derived.Test.YtpbadgghhiommaaGref
set_option linter.unusedVariables false
set_option maxHeartbeats 8000000
set_option linter.unusedSimpArgs false
namespace Go.Proofs.Ytpbadgghhiommaa.I
open Go.Ideal

def totT (ls : List Leg) : Nat → Nat
  | 0 => 0
  | n + 1 => totT ls n + (ln ls n).ti.toNat
def ovT (f : Int) (ls : List Leg) : Nat → Int
  | 0 => f
  | n + 1 => heatAt (ovT f ls n) (ln ls n).he (ln ls n).ti ((ln ls n).ti.toNat : Int)
def legH (first lh lt : Int) : Nat → List Int
  | 0 => []
  | j + 1 => legH first lh lt j ++ [heatAt first lh lt ((j : Int) + 1)]
def allH (f : Int) (ls : List Leg) : Nat → List Int
  | 0 => [f]
  | n + 1 => allH f ls n ++ legH (ovT f ls n) (ln ls n).he (ln ls n).ti (ln ls n).ti.toNat
def partH (f : Int) (ls : List Leg) (n j : Nat) : List Int := allH f ls n ++ legH (ovT f ls n) (ln ls n).he (ln ls n).ti j
theorem legH_len (first lh lt : Int) : ∀ j, (legH first lh lt j).length = j
  | 0 => rfl
  | j + 1 => by rw [legH, List.length_append, legH_len first lh lt j]; rfl
theorem allH_len (f : Int) (ls : List Leg) : ∀ n, (allH f ls n).length = totT ls n + 1
  | 0 => rfl
  | n + 1 => by rw [allH, List.length_append, allH_len f ls n, legH_len, totT]; omega
theorem partH_len (f : Int) (ls : List Leg) (n j : Nat) : (partH f ls n j).length = totT ls n + 1 + j := by rw [partH, List.length_append, allH_len, legH_len]
theorem totT_mono (ls : List Leg) {n m : Nat} (h : n ≤ m) : totT ls n ≤ totT ls m := by
  induction m with
  | zero => obtain rfl : n = 0 := by omega
            exact Nat.le_refl _
  | succ m ih =>
    by_cases q : n = m + 1
    · subst q; exact Nat.le_refl _
    · have := ih (by omega)
      rw [totT]; omega
theorem totT_le {f : Int} {ls : List Leg} (h : OOk f ls) : ∀ n, n ≤ ls.length → totT ls n ≤ 2000 * n
  | 0, _ => Nat.le_refl _
  | n + 1, hn => by
    have := totT_le h n (by omega)
    have := h.leg n (by omega)
    rw [totT]; omega
theorem legS_t (zs : List Zone) (k first lh lt : Int) (s : St) (j : Nat) : (legS zs k first lh lt (j + 1) s).t = heatAt first lh lt ((j : Int) + 1) := rfl
theorem ovenS_t {zs : List Zone} {k f : Int} {ls : List Leg} (h : OOk f ls) : ∀ n, n ≤ ls.length → (ovenS zs k f ls n).t = ovT f ls n
  | 0, _ => rfl
  | n + 1, hn => by
    have := h.leg n (by omega)
    have e : (ln ls n).ti.toNat = ((ln ls n).ti.toNat - 1) + 1 := by omega
    rw [ovenS, ovT, ← ovenS_t h n (by omega), e, legS_t]
    congr 1
theorem at_left {l r : List Int} {i : Int} (h0 : 0 ≤ i) (h : i < l.length) : at' (l ++ r) i = at' l i := by
  unfold at'
  rw [List.getD_eq_getElem?_getD, List.getD_eq_getElem?_getD, List.getElem?_append_left (by omega)]
theorem at_snoc {l : List Int} {a : Int} {i : Int} (h : i = l.length) : at' (l ++ [a]) i = a := by
  subst h
  unfold at'
  rw [List.getD_eq_getElem?_getD, List.getElem?_append_right (by omega)]
  simp
theorem partH_next (f : Int) (ls : List Leg) (n j : Nat) : partH f ls n (j + 1) = partH f ls n j ++ [heatAt (ovT f ls n) (ln ls n).he (ln ls n).ti ((j : Int) + 1)] := by rw [partH, legH, ← List.append_assoc]; rfl
theorem partH_zero (f : Int) (ls : List Leg) (n : Nat) : partH f ls n 0 = allH f ls n := by rw [partH, legH, List.append_nil]
theorem partH_full (f : Int) (ls : List Leg) (n : Nat) : partH f ls n (ln ls n).ti.toNat = allH f ls (n + 1) := rfl
theorem allH_last (f : Int) (ls : List Leg) (h : OOk f ls) : ∀ n, n ≤ ls.length → at' (allH f ls n) (totT ls n) = ovT f ls n
  | 0, _ => rfl
  | n + 1, hn => by
    have := h.leg n (by omega)
    have e : (ln ls n).ti.toNat = ((ln ls n).ti.toNat - 1) + 1 := by omega
    rw [← partH_full, e, partH_next, at_snoc (by rw [partH_len, totT, e]; omega), ovT]
    congr 1
    omega
/-- A heat stands where it stood. -/
theorem allH_at {f : Int} {ls : List Leg} {n : Nat} : ∀ {m : Nat}, n ≤ m → ∀ {i : Int}, 0 ≤ i → i ≤ totT ls n → at' (allH f ls m) i = at' (allH f ls n) i := by
  intro m
  induction m with
  | zero => intro h i _ _; obtain rfl : n = 0 := by omega
            rfl
  | succ m ih =>
    intro h i h0 h1
    by_cases q : n = m + 1
    · subst q; rfl
    · have := totT_mono ls (show n ≤ m by omega)
      rw [allH, at_left h0 (by rw [allH_len]; omega), ih (by omega) h0 h1]
theorem partH_at {f : Int} {ls : List Leg} {n j : Nat} (hj : j ≤ (ln ls n).ti.toNat) {i : Int} (h0 : 0 ≤ i) (h1 : i ≤ totT ls n + j) : at' (allH f ls (n + 1)) i = at' (partH f ls n j) i := by
  have key : ∀ m, j ≤ m → at' (partH f ls n m) i = at' (partH f ls n j) i := by
    intro m
    induction m with
    | zero => intro h; obtain rfl : j = 0 := by omega
              rfl
    | succ m ih =>
      intro h
      by_cases q : j = m + 1
      · subst q; rfl
      · rw [partH_next, at_left h0 (by rw [partH_len]; omega), ih (by omega)]
  rw [← partH_full]
  exact key _ hj

def rs (zs : List Zone) (k : Int) (hs : List Int) : Nat → Int × Int
  | 0 => (0, 0)
  | i + 1 => (stepLo (zoneOf zs (at' hs ((i : Int) + 1))) k (rs zs k hs i).1 (max (at' hs ((i : Int) + 1) - at' hs i) (at' hs i - at' hs ((i : Int) + 1))),
      stepHi (zoneOf zs (at' hs ((i : Int) + 1))) k (rs zs k hs i).2 (max (at' hs ((i : Int) + 1) - at' hs i) (at' hs i - at' hs ((i : Int) + 1))))
def gS (zs : List Zone) (k f : Int) (ls : List Leg) (m : Nat) : St := ⟨at' (allH f ls ls.length) m, (rs zs k (allH f ls ls.length) m).1, (rs zs k (allH f ls ls.length) m).2⟩
theorem gS_leg {zs : List Zone} {k f : Int} {ls : List Leg} (h : OOk f ls) {n : Nat} (hn : n < ls.length) (hs : ovenS zs k f ls n = gS zs k f ls (totT ls n)) : ∀ j : Nat, j ≤ (ln ls n).ti.toNat → legS zs k (ovenS zs k f ls n).t (ln ls n).he (ln ls n).ti j (ovenS zs k f ls n) = gS zs k f ls (totT ls n + j)
  | 0, _ => hs
  | j + 1, hj => by
    have ih := gS_leg h hn hs j (by omega)
    have et := ovenS_t (zs := zs) (k := k) h n (by omega)
    have e1 : at' (allH f ls ls.length) ((totT ls n : Int) + ((j : Int) + 1)) = heatAt (ovT f ls n) (ln ls n).he (ln ls n).ti ((j : Int) + 1) := by
      have := totT_mono ls (show n + 1 ≤ ls.length by omega)
      rw [allH_at (n := n + 1) (by omega) (by omega) (by rw [totT]; omega), partH_at hj (by omega) (by omega), partH_next, at_snoc (by rw [partH_len]; omega)]
    rw [legS, ih, et, tickS]
    unfold gS
    rw [show totT ls n + (j + 1) = (totT ls n + j) + 1 by omega, rs]
    rw [show (((totT ls n + j : Nat) : Int) + 1) = (totT ls n : Int) + ((j : Int) + 1) by omega, show (((totT ls n + j + 1 : Nat)) : Int) = (totT ls n : Int) + ((j : Int) + 1) by omega, e1]
    rw [show (((j + 1 : Nat)) : Int) = (j : Int) + 1 by omega]
theorem gS_oven {zs : List Zone} {k f : Int} {ls : List Leg} (h : OOk f ls) : ∀ n, n ≤ ls.length → ovenS zs k f ls n = gS zs k f ls (totT ls n)
  | 0, _ => by
    unfold gS
    rw [totT, allH_at (n := 0) (by omega) (by omega) (by omega)]
    rfl
  | n + 1, hn => by
    have ih := gS_oven (zs := zs) (k := k) h n (by omega)
    rw [ovenS, gS_leg h (by omega) ih _ (Nat.le_refl _), totT]
theorem gS_ok {zs : List Zone} (hz : ZOk zs) {k f : Int} {ls : List Leg} (hk : 0 ≤ k) (hk1 : k ≤ 1000) (h : OOk f ls) : ∀ n, n ≤ ls.length → ∀ m, m ≤ totT ls n → StOk (gS zs k f ls m)
  | 0, hn, m, hm => by
    obtain rfl : m = 0 := by rw [totT] at hm; omega
    have := ovenS_ok hz hk hk1 h 0 (by omega)
    rwa [gS_oven h 0 (by omega)] at this
  | n + 1, hn, m, hm => by
    by_cases q : m ≤ totT ls n
    · exact gS_ok hz hk hk1 h n (by omega) m q
    · rw [totT] at hm
      have hl := h.leg n (by omega)
      have hs := ovenS_ok hz hk hk1 h n (by omega)
      have e := gS_leg (zs := zs) (k := k) h (show n < ls.length by omega) (gS_oven h n (by omega)) (m - totT ls n) (by omega)
      rw [show totT ls n + (m - totT ls n) = m by omega] at e
      rw [← e]
      exact leg_ok hz hk hk1 hl.1 hl.2.1 hs.t.1 hs.t.2 hl.2.2.1 hl.2.2.2 hs _ (by omega)

def limA (b left : Int) (N m : Nat) : Int := if m = N then min b left else b
def jG (p : Nat → Int × Int) (b left : Int) (N : Nat) : Nat → Nat → Int → Int → Int × Int
  | 0, _, v, a => (v, a)
  | n + 1, m, v, a => if limA b left N m < (p m).1 then (2, (m : Int)) else if v = 1 ∧ limA b left N m < (p m).2 then jG p b left N n (m + 1) 3 m else jG p b left N n (m + 1) v a
def judgeV (b : Int) (zs : List Zone) (k f : Int) (ls : List Leg) (left : Int) : Int × Int := jG (rs zs k (allH f ls ls.length)) b left (totT ls ls.length) (totT ls ls.length) 1 1 0
def judgeE (b : Int) (zs : List Zone) (k f : Int) (ls : List Leg) (left : Int) : Int := if wallE b zs k f ls ≠ 0 then wallE b zs k f ls else if Outs left 1099511627776 then 2 else 0
end Go.Proofs.Ytpbadgghhiommaa.I
