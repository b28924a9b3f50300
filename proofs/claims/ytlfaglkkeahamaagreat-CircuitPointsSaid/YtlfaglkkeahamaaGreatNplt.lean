/- A plate, asked for: circuit.Plate. -/
import Derived.Test.YtlfaglkkeahamaaGreatNrests
set_option linter.unusedVariables false
set_option maxHeartbeats 16000000
set_option linter.unusedSimpArgs false
namespace Go.Proofs.YtlfaglkkeahamaaGreat.I
open Go.Ideal

def pltE (n : Net) (i : Int) (g : Rg) : Int := if netE n ≠ 0 then netE n else if Out3 i 0 (n.stages.length - 1) then 2 else rgE g (-1000000) 1000000
noncomputable def pltV (n : Net) (i : Int) (g : Rg) : Rg := if pltE n i g = 0 then (at' n.stages i).plate (at' n.tubes (at' n.stages i).tube) g else ⟨0, 0⟩
theorem pltE_zero {n : Net} {i : Int} {g : Rg} : pltE n i g = 0 ↔ n.Ok ∧ 0 ≤ i ∧ i < n.stages.length ∧ g.Ok (-1000000) 1000000 := by
  unfold pltE
  constructor
  · intro h
    split at h
    · exact absurd h (by assumption)
    split at h
    · cases h
    rename_i h1 h2
    unfold Out3 at h2
    exact ⟨netE_zero.mp (Classical.byContradiction h1), by omega, by omega, rgE_zero.mp h⟩
  · rintro ⟨h1, h2, h3, h4⟩
    rw [netE_zero.mpr h1, rgE_zero.mpr h4, if_neg (by simp), if_neg (by unfold Out3; omega)]
theorem c9Plate_ok {n : Net} (hn : n.Sz) (i : Int) (g : Rg) (H : Heap) :
    Ev T (.call (.func (.func 34) [] []) [n.I, .int .i64 i, g.I] H) (.call (.tuple [(pltV n i g).I, .int .i64 (pltE n i g)]) H) := by
  refine run_pure T34 (nn_tuple (nn_cons (Rg.I_no _) (nn_cons (nn_int _ _) nn_none))) (nn_cons n.I_no (nn_cons (nn_int _ _) (nn_cons (Rg.I_no _) nn_none))) ?_ H
  have kC := c9check_ok n hn
  have kR := c9rng_ok g (-1000000) 1000000
  have z0 := @pltE_zero n i g
  have e2 : (n.stages.map Stg.R).length = n.stages.length := List.length_map ..
  have hz : ((n.stages.length : Int) - 1 = (((n.stages.map Stg.R).length : Nat) : Int) - 1) := by omega
  have hE : ∃ e, e = pltE n i g := ⟨_, rfl⟩
  obtain ⟨e, he⟩ := hE
  have hV : ∃ w, w = pltV n i g := ⟨_, rfl⟩
  obtain ⟨w, hw⟩ := hV
  have hs := hn.s
  rw [← he, ← hw]
  unfold pltV at hw
  rw [← he] at hw z0
  unfold pltE at he
  rw [hz] at he
  generalize netE n = x1 at *
  generalize rgE g (-1000000) 1000000 = x2 at *
  repeat' ((conv => whnf); first | (refine CallP.pure kC ?_) | (refine CallP.pure kR ?_) | (refine CallP.dec (c9out_ok _ _ _) (fun h => ?_) (fun h => ?_)) | (first | refine condP.dec (fun h => ?_) (fun h => ?_) | refine condP.eq (fun h => ?_) (fun h => ?_) | refine condP.ne (fun h => ?_) (fun h => ?_)) | (refine .i64 (by omega) (by omega) ?_) | (refine onSome.intro (idx_fs rfl rfl (by omega) (by omega) (fun _ => rfl)) ?_) | (refine onSome.intro (load_fs rfl (by omega) (by omega) rfl) ?_) | (refine And.intro rfl ?_))
  all_goals first
    | (conv => whnf
       have he2 : e ≠ 0 := by
         rw [he]
         repeat' split
         all_goals first | assumption | omega
       rw [if_neg he2] at hw
       refine .intro (.tuple [.agg [.int .i64 0, .int .i64 0], .int .i64 _]) (.inl rfl) rfl (.tupleL (.cons (frz_eq (by rw [hw]; rfl)) (.cons (frz_int ?_) .nil)))
       rw [he]
       repeat' split
       all_goals first | rfl | omega)
    | skip
  have he0 : e = 0 := by
    rw [he]
    repeat' split
    all_goals first | rfl | omega | (exfalso; first | omega | (rename_i h _; exact absurd ‹_› h))
  rw [he0, if_pos rfl] at hw
  obtain ⟨h1, h2, h3, h4⟩ := z0.mp he0
  have kS := c9plate_ok h1 (i := i.toNat) (by omega) h4
  rw [Int.toNat_of_nonneg h2] at kS
  rw [← hw] at kS
  rw [he0]
  repeat' ((conv => whnf); first | (refine CallP.pure kS ?_) | (first | refine condP.dec (fun h => ?_) (fun h => ?_) | refine condP.eq (fun h => ?_) (fun h => ?_) | refine condP.ne (fun h => ?_) (fun h => ?_)) | (refine .i64 (by omega) (by omega) ?_) | (refine onSome.intro (idx_fs rfl rfl (by omega) (by omega) (fun _ => rfl)) ?_) | (refine onSome.intro (load_fs rfl (by omega) (by omega) rfl) ?_) | (refine And.intro rfl ?_))
  conv => whnf
  exact .intro (.tuple [w.I, .int .i64 0]) (.inl rfl) rfl (.refl _)

end Go.Proofs.YtlfaglkkeahamaaGreat.I
