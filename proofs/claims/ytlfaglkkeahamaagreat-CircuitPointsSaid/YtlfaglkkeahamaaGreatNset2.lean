/- Nets that come to rest: Settle. -/
import Derived.Test.YtlfaglkkeahamaaGreatNsettle
set_option linter.unusedVariables false
set_option maxHeartbeats 16000000
set_option linter.unusedSimpArgs false
namespace Go.Proofs.YtlfaglkkeahamaaGreat.I
open Go.Ideal

def setE (n : Net) (l : List Rg) (sw : Int) : Int := if netE n ≠ 0 then netE n else if rgsE l n.ins (-1000000) 1000000 ≠ 0 then rgsE l n.ins (-1000000) 1000000 else if Out3 sw 0 30 then 2 else 0
noncomputable def setV (n : Net) (l : List Rg) (sw : Int) : IV := if setE n l sw = 0 then setI (n.settle l sw.toNat) else setI ([], 0, false)
theorem setE_zero {n : Net} {l : List Rg} {sw : Int} : setE n l sw = 0 ↔ n.Ok ∧ RgsOk l n.ins (-1000000) 1000000 ∧ 0 ≤ sw ∧ sw ≤ 30 := by
  unfold setE
  constructor
  · intro h
    split at h
    · exact absurd h (by assumption)
    split at h
    · exact absurd h (by assumption)
    split at h
    · cases h
    rename_i h1 h2 h3
    unfold Out3 at h3
    exact ⟨netE_zero.mp (Classical.byContradiction h1), rgsE_zero.mp (Classical.byContradiction h2), by omega, by omega⟩
  · rintro ⟨h1, h2, h3, h4⟩
    rw [netE_zero.mpr h1, rgsE_zero.mpr h2, if_neg (by simp), if_neg (by simp), if_neg (by unfold Out3; omega)]
/-- An argument that is a list of ranges. -/
structure RArg (v : IV) (l : List Rg) : Prop where
  no : Noname v
  clone : Clones 136 2 Rg.R v l
  volts : ∀ (many low : Int) (H : Heap), Ev T (.call (.func (.func 85) [] []) [v, .int .i64 many, .int .i64 low] H) (.call (.int .i64 (rgsE l many low 1000000)) H)
theorem RArg.ol {l : List Rg} (hl : l.length ≤ 1000000) : RArg (ol Rg.R l) l := by
  refine ⟨ol_no (fun r => r.R_no) l, cloneR_ok l hl, fun many low H => ?_⟩
  cases l with
  | cons a l => exact c9volts_ok (a :: l) many low (by omega) H
  | nil =>
    refine run_pure T85 (nn_int _ _) (nn_cons .nilslice (nn_cons (nn_int _ _) (nn_cons (nn_int _ _) nn_none))) ?_ H
    have hx : ∃ r, r = rgsE [] many low 1000000 := ⟨_, rfl⟩
    obtain ⟨r, hr⟩ := hx
    rw [← hr]
    unfold rgsE at hr
    repeat' ((conv => whnf); first | (first | refine condP.dec (fun h => ?_) (fun h => ?_) | refine condP.eq (fun h => ?_) (fun h => ?_) | refine condP.ne (fun h => ?_) (fun h => ?_)) | (refine .i64 (by omega) (by omega) ?_) | (refine onSome.intro (idx_fs rfl rfl (by omega) (by omega) (fun _ => rfl)) ?_) | (refine onSome.intro (load_fs rfl (by omega) (by omega) rfl) ?_) | (refine And.intro rfl ?_))
    all_goals conv => whnf
    · exact .intro (.int .i64 3) (.inl rfl) rfl (frz_int (by rw [hr, if_pos (by simp; omega)]))
    · rw [if_neg (by simp; omega)] at hr
      refine loop_step ?_
      conv => whnf
      exact .intro (.int .i64 0) (.inl rfl) rfl (frz_int hr.symm)
theorem c9Settle_ok {n : Net} (hn : n.Sz) {l : List Rg} {v : IV} (hv : RArg v l) (sw : Int) (H : Heap) :
    Ev T (.call (.func (.func 28) [] []) [n.I, v, .int .i64 sw] H) (.call (.tuple [setV n l sw, .int .i64 (setE n l sw)]) H) := by
  have hno : Noname (setV n l sw) := by unfold setV; split <;> exact setI_no _
  refine run_pure T28 (nn_tuple (nn_cons hno (nn_cons (nn_int _ _) nn_none))) (nn_cons n.I_no (nn_cons hv.no (nn_cons (nn_int _ _) nn_none))) ?_ H
  have kC := c9check_ok n hn
  have kV := hv.volts n.ins (-1000000)
  have z0 := @setE_zero n l sw
  have hE : ∃ e, e = setE n l sw := ⟨_, rfl⟩
  obtain ⟨e, he⟩ := hE
  have hV : ∃ w, w = setV n l sw := ⟨_, rfl⟩
  obtain ⟨w, hw⟩ := hV
  rw [← he, ← hw]
  unfold setV at hw
  rw [← he] at hw z0
  unfold setE at he
  generalize netE n = x1 at *
  generalize rgsE l n.ins (-1000000) 1000000 = x2 at *
  repeat' ((conv => whnf); first | (refine CallP.pure kC ?_) | (refine CallP.pure kV ?_) | (refine CallP.dec (c9out_ok _ _ _) (fun h => ?_) (fun h => ?_)) | (refine forceC_in (v := v) ?_) | (refine force_in (v := v) ?_) | (first | refine condP.dec (fun h => ?_) (fun h => ?_) | refine condP.eq (fun h => ?_) (fun h => ?_) | refine condP.ne (fun h => ?_) (fun h => ?_)) | (refine .i64 (by omega) (by omega) ?_) | (refine onSome.intro (idx_fs rfl rfl (by omega) (by omega) (fun _ => rfl)) ?_) | (refine onSome.intro (load_fs rfl (by omega) (by omega) rfl) ?_) | (refine And.intro rfl ?_))
  all_goals first
    | (conv => whnf
       have he2 : e ≠ 0 := by
         rw [he]
         repeat' split
         all_goals first | assumption | omega
       rw [if_neg he2] at hw
       refine .intro (.tuple [.agg [.nilslice, .int .i64 0, .bool false], .int .i64 _]) (.inl rfl) rfl (.tupleL (.cons (by rw [hw]; exact .aggL (.cons .nil (.cons (.refl _) (.cons (.refl _) .nil)))) (.cons (frz_int ?_) .nil)))
       rw [he]
       repeat' split
       all_goals first | rfl | omega)
    | skip
  have he0 : e = 0 := by
    rw [he]
    repeat' split
    all_goals first | rfl | omega | (exfalso; first | omega | (rename_i h _; exact absurd ‹_› h))
  rw [he0, if_pos rfl] at hw
  obtain ⟨h1, h2, h3, h4⟩ := z0.mp he0
  have kS := c9settle_ok h1 h2 hv.no hv.clone (sw := sw.toNat) (by omega)
  rw [Int.toNat_of_nonneg h3] at kS
  rw [he0]
  generalize n.settle l sw.toNat = q at *
  obtain ⟨y, c, st⟩ := q
  repeat' ((conv => whnf); first | (refine CallP.pure kS ?_) | (refine forceC_in (v := v) ?_) | (refine force_in (v := v) ?_) | (first | refine condP.dec (fun h => ?_) (fun h => ?_) | refine condP.eq (fun h => ?_) (fun h => ?_) | refine condP.ne (fun h => ?_) (fun h => ?_)) | (refine .i64 (by omega) (by omega) ?_) | (refine onSome.intro (idx_fs rfl rfl (by omega) (by omega) (fun _ => rfl)) ?_) | (refine onSome.intro (load_fs rfl (by omega) (by omega) rfl) ?_) | (refine And.intro rfl ?_))
  conv => whnf
  exact .intro (.tuple [setI (y, c, st), .int .i64 0]) (.inl rfl) rfl (.tupleL (.cons (frz_eq hw.symm) (.cons (.refl _) .nil)))

end Go.Proofs.YtlfaglkkeahamaaGreat.I
