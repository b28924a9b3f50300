/- Tables within others, made row by row. -/
import Derived.Test.YtbomgfbfnkfamaaMof
set_option linter.unusedVariables false
set_option maxHeartbeats 1000000
set_option linter.unusedSimpArgs false
namespace Go.Proofs.Ytbomgfbfnkfamaa.I
open Go.Ideal

structure PlaceIn (wl wh : List (List Int)) (i : Nat) (tl th : List (List Int)) (rl rh : List Int) (k : Nat) : Prop where
  lo : vc wl i k ≤ nth rl k
  hi : nth rl k ≤ nth rh k ∧ nth rh k ≤ vc wh i k
  up : 0 < i → vc tl (i - 1) k ≤ nth rl k ∧ vc th (i - 1) k ≤ nth rh k
  left : 0 < k → nth rl (k - 1) ≤ nth rl k ∧ nth rh (k - 1) ≤ nth rh k
structure RowIn (wl wh : List (List Int)) (i : Nat) (tl th : List (List Int)) (rl rh : List Int) : Prop where
  len : rh.length = rl.length
  at_ : ∀ k, k < rl.length → PlaceIn wl wh i tl th rl rh k
structure TabsIn (wl wh : List (List Int)) (m : Nat) (tl th : List (List Int)) : Prop where
  len : th.length = tl.length
  lo : ∀ i, i < tl.length → (tl.getD i []).length = m
  row : ∀ i, i < tl.length → RowIn wl wh i tl th (tl.getD i []) (th.getD i [])
theorem RowIn.nil (wl wh : List (List Int)) (i : Nat) (tl th : List (List Int)) : RowIn wl wh i tl th [] [] := ⟨rfl, fun k h => by simp at h⟩
theorem RowIn.snoc {wl wh : List (List Int)} {i : Nat} {tl th : List (List Int)} {rl rh : List Int} (h : RowIn wl wh i tl th rl rh) {a b : Int} (h1 : vc wl i rl.length ≤ a) (h2 : a ≤ b ∧ b ≤ vc wh i rl.length)
    (h3 : 0 < i → vc tl (i - 1) rl.length ≤ a ∧ vc th (i - 1) rl.length ≤ b) (h4 : 0 < rl.length → nth rl (rl.length - 1) ≤ a ∧ nth rh (rl.length - 1) ≤ b) : RowIn wl wh i tl th (rl ++ [a]) (rh ++ [b]) := by
  have hl := h.len
  refine ⟨by simp [hl], fun k hk => ?_⟩
  simp only [List.length_append, List.length_cons, List.length_nil] at hk
  rcases Nat.lt_or_ge k rl.length with c | c
  · obtain ⟨p1, p2, p3, p4⟩ := h.at_ k c
    refine ⟨?_, ?_, fun q => ?_, fun q => ?_⟩
    · rw [nth_snoc c]; exact p1
    · rw [nth_snoc c, nth_snoc (by omega)]; exact p2
    · rw [nth_snoc c, nth_snoc (by omega)]; exact p3 q
    · rw [nth_snoc c, nth_snoc (by omega), nth_snoc (by omega), nth_snoc (by omega)]; exact p4 q
  · obtain rfl : k = rl.length := by omega
    have e1 : nth (rl ++ [a]) rl.length = a := nth_last
    have e2 : nth (rh ++ [b]) rl.length = b := by rw [← hl]; exact nth_last
    refine ⟨?_, ?_, fun q => ?_, fun q => ?_⟩
    · rw [e1]; exact h1
    · rw [e1, e2]; exact h2
    · rw [e1, e2]; exact h3 q
    · rw [e1, e2, nth_snoc (by omega), nth_snoc (by omega)]; exact h4 q
theorem TabsIn.nil (wl wh : List (List Int)) (m : Nat) : TabsIn wl wh m [] [] := ⟨rfl, fun i h => by simp at h, fun i h => by simp at h⟩
theorem TabsIn.snoc {wl wh : List (List Int)} {m : Nat} {tl th : List (List Int)} (h : TabsIn wl wh m tl th) {rl rh : List Int} (hr : RowIn wl wh tl.length tl th rl rh) (hm : rl.length = m) : TabsIn wl wh m (tl ++ [rl]) (th ++ [rh]) := by
  have hl := h.len
  have keep : ∀ i, i < tl.length + 1 → ∀ a b, RowIn wl wh i tl th a b → RowIn wl wh i (tl ++ [rl]) (th ++ [rh]) a b := by
    intro i hi a b hab
    refine ⟨hab.len, fun k hk => ?_⟩
    obtain ⟨p1, p2, p3, p4⟩ := hab.at_ k hk
    refine ⟨p1, p2, fun q => ?_, p4⟩
    unfold vc
    rw [getD_snoc (by omega), getD_snoc (by omega)]
    exact p3 q
  refine ⟨by simp [hl], fun i hi => ?_, fun i hi => ?_⟩
  · simp only [List.length_append, List.length_cons, List.length_nil] at hi
    rcases Nat.lt_or_ge i tl.length with c | c
    · rw [getD_snoc c]; exact h.lo i c
    · obtain rfl : i = tl.length := by omega
      rw [getD_last]; exact hm
  · simp only [List.length_append, List.length_cons, List.length_nil] at hi
    rcases Nat.lt_or_ge i tl.length with c | c
    · rw [getD_snoc c, getD_snoc (by omega)]; exact keep i (by omega) _ _ (h.row i c)
    · obtain rfl : i = tl.length := by omega
      rw [getD_last, show (th ++ [rh]).getD tl.length [] = rh by rw [← hl]; exact getD_last]
      exact keep _ (by omega) _ _ hr
theorem TabsIn.fam {g p : List Int} {wl wh tl th : List (List Int)} (F : FamOk g p wl wh) (h : TabsIn wl wh p.length tl th) (hn : tl.length = g.length) :
    FamOk g p tl th ∧ ∀ i k, i < g.length → k < p.length → vc wl i k ≤ vc tl i k ∧ vc th i k ≤ vc wh i k := by
  have hl := h.len
  have hh : ∀ i, i < tl.length → (th.getD i []).length = p.length := fun i hi => by rw [(h.row i hi).len, h.lo i hi]
  have at_ : ∀ i k, i < g.length → k < p.length → PlaceIn wl wh i tl th (tl.getD i []) (th.getD i []) k := fun i k hi hk => (h.row i (by omega)).at_ k (by rw [h.lo i (by omega)]; exact hk)
  refine ⟨⟨F.g, F.p, F.g0, F.g1, F.p0, F.p1, ⟨hn, fun i hi => h.lo i (by omega)⟩, ⟨by omega, fun i hi => hh i (by omega)⟩, fun i k hi hk => ?_, fun i k hi hk => ?_, fun i k hi hk => ?_⟩, fun i k hi hk => ?_⟩
  · obtain ⟨q1, q2, _, _⟩ := at_ i k hi hk
    have := F.cell i k hi hk
    unfold vc at *
    unfold nth at q1 q2
    omega
  · obtain ⟨_, _, q3, _⟩ := at_ (i + 1) k hi hk
    exact q3 (by omega)
  · obtain ⟨_, _, _, q4⟩ := at_ i (k + 1) hi hk
    exact q4 (by omega)
  · obtain ⟨q1, q2, _, _⟩ := at_ i k hi hk
    unfold vc at *
    unfold nth at q1 q2
    omega
end Go.Proofs.Ytbomgfbfnkfamaa.I
