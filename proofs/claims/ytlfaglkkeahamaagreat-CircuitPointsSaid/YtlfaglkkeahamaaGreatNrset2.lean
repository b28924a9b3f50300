/- Nets that come to rest: the reference's Settle. -/
import Derived.Test.YtlfaglkkeahamaaGreatNrsettle
set_option linter.unusedVariables false
set_option maxHeartbeats 16000000
set_option linter.unusedSimpArgs false
namespace Go.Proofs.YtlfaglkkeahamaaGreat.I
open Go.Ideal

/-- An argument of the reference that is a list of ranges. -/
structure RRef (v : IV) (l : List Rg) : Prop where
  no : Noname v
  els : ∀ H, elsOf H v = some (l.map Rg.R)
  volts : ∀ (many low high : Int) (H : Heap), Ev T (.call (.func (.func 102) [] []) [v, .int .i64 many, .int .i64 low, .int .i64 high] H) (.call (.int .i64 (rgsE l many low high)) H)
theorem RRef.fs {l : List Rg} (hl : l.length ≤ 9223372036854775807) : RRef (rgsI l) l := ⟨rgsI_no l, fun _ => rfl, fun many low high H => r9volts_ok l many low high hl H⟩
theorem RRef.ol {l : List Rg} (hl : l.length ≤ 1000000) : RRef (ol Rg.R l) l := by
  refine ⟨ol_no (fun r => r.R_no) l, fun H => by cases l <;> rfl, fun many low high H => ?_⟩
  cases l with
  | cons a l => exact r9volts_ok (a :: l) many low high (by omega) H
  | nil =>
    refine run_pure T102 (nn_int _ _) (nn_cons .nilslice (nn_cons (nn_int _ _) (nn_cons (nn_int _ _) (nn_cons (nn_int _ _) nn_none)))) ?_ H
    have hx : ∃ r, r = rgsE [] many low high := ⟨_, rfl⟩
    obtain ⟨r, hr⟩ := hx
    rw [← hr]
    unfold rgsE at hr
    repeat' ((conv => whnf); first | (first | refine condP.dec (fun h => ?_) (fun h => ?_) | refine condP.eq (fun h => ?_) (fun h => ?_) | refine condP.ne (fun h => ?_) (fun h => ?_)) | (refine .i64 (by omega) (by omega) ?_) | (refine onSome.intro (idx_fs rfl rfl (by omega) (by omega) (fun _ => rfl)) ?_) | (refine onSome.intro (load_fs rfl (by omega) (by omega) rfl) ?_) | (refine And.intro rfl ?_))
    all_goals conv => whnf
    · exact .intro (.int .i64 3) (.inl rfl) rfl (frz_int (by rw [hr, if_pos (by simp; omega)]))
    · rw [if_neg (by simp; omega)] at hr
      refine loop_step ?_
      conv => whnf
      exact .intro (.int .i64 0) (.inl rfl) rfl (frz_int hr.symm)
theorem r9chkset_ok {n : Net} (hn : n.Sz) {l : List Rg} {v : IV} (hv : RRef v l) (sw : Int) (H : Heap) :
    Ev T (.call (.func (.func 89) [] []) [n.I, v, .int .i64 sw] H) (.call (.int .i64 (setE n l sw)) H) := by
  refine run_pure T89 (nn_int _ _) (nn_cons n.I_no (nn_cons hv.no (nn_cons (nn_int _ _) nn_none))) ?_ H
  have kC := r9check_ok n hn
  have kV := hv.volts n.ins (-1000000) 1000000
  have hE : ∃ e, e = setE n l sw := ⟨_, rfl⟩
  obtain ⟨e, he⟩ := hE
  rw [← he]
  unfold setE at he
  generalize netE n = x1 at *
  generalize rgsE l n.ins (-1000000) 1000000 = x2 at *
  repeat' ((conv => whnf); first | (refine CallP.pure kC ?_) | (refine CallP.pure kV ?_) | (refine CallP.dec (r9out_ok _ _ _) (fun h => ?_) (fun h => ?_)) | (refine forceC_in (v := v) ?_) | (refine force_in (v := v) ?_) | (first | refine condP.dec (fun h => ?_) (fun h => ?_) | refine condP.eq (fun h => ?_) (fun h => ?_) | refine condP.ne (fun h => ?_) (fun h => ?_)) | (refine .i64 (by omega) (by omega) ?_) | (refine onSome.intro (idx_fs rfl rfl (by omega) (by omega) (fun _ => rfl)) ?_) | (refine onSome.intro (load_fs rfl (by omega) (by omega) rfl) ?_) | (refine And.intro rfl ?_))
  all_goals conv => whnf
  all_goals
    refine .intro (.int .i64 _) (.inl rfl) rfl (frz_int ?_)
    rw [he]
    repeat' split
    all_goals first | rfl | omega | (exfalso; first | omega | (rename_i h _; exact absurd ‹_› h))
theorem r9Settle_ok {n : Net} (hn : n.Sz) {l : List Rg} {v : IV} (hv : RRef v l) (sw : Int) (H : Heap) :
    Ev T (.call (.func (.func 38) [] []) [n.I, v, .int .i64 sw] H) (.call (.tuple [setV n l sw, .int .i64 (setE n l sw)]) H) := by
  have hno : Noname (setV n l sw) := by unfold setV; split <;> exact setI_no _
  refine run_pure T38 (nn_tuple (nn_cons hno (nn_cons (nn_int _ _) nn_none))) (nn_cons n.I_no (nn_cons hv.no (nn_cons (nn_int _ _) nn_none))) ?_ H
  have kC := r9chkset_ok hn hv sw
  have z0 := @setE_zero n l sw
  by_cases he0 : setE n l sw = 0
  · obtain ⟨h1, h2, h3, h4⟩ := z0.mp he0
    have kS := r9settle_ok h1 h2 hv.no hv.els (sw := sw.toNat) (by omega)
    rw [Int.toNat_of_nonneg h3] at kS
    unfold setV
    rw [he0] at kC ⊢
    rw [if_pos rfl]
    generalize n.settle l sw.toNat = q at *
    obtain ⟨y, c, st⟩ := q
    repeat' ((conv => whnf); first | (refine CallP.pure kC ?_) | (refine CallP.pure kS ?_) | (refine forceC_in (v := v) ?_) | (refine force_in (v := v) ?_) | (first | refine condP.dec (fun h => ?_) (fun h => ?_) | refine condP.eq (fun h => ?_) (fun h => ?_) | refine condP.ne (fun h => ?_) (fun h => ?_)) | (refine .i64 (by omega) (by omega) ?_) | (refine onSome.intro (idx_fs rfl rfl (by omega) (by omega) (fun _ => rfl)) ?_) | (refine onSome.intro (load_fs rfl (by omega) (by omega) rfl) ?_) | (refine And.intro rfl ?_))
    all_goals first | (exfalso; omega) | skip
    conv => whnf
    exact .intro (.tuple [setI (y, c, st), .int .i64 0]) (.inl rfl) rfl (.refl _)
  · unfold setV
    rw [if_neg he0]
    generalize setE n l sw = e at *
    repeat' ((conv => whnf); first | (refine CallP.pure kC ?_) | (refine forceC_in (v := v) ?_) | (refine force_in (v := v) ?_) | (refine condP.dec (fun _ => ?_) (fun h => absurd (by omega) h)) | (first | refine condP.dec (fun h => ?_) (fun h => ?_) | refine condP.eq (fun h => ?_) (fun h => ?_) | refine condP.ne (fun h => ?_) (fun h => ?_)) | (refine .i64 (by omega) (by omega) ?_) | (refine onSome.intro (idx_fs rfl rfl (by omega) (by omega) (fun _ => rfl)) ?_) | (refine onSome.intro (load_fs rfl (by omega) (by omega) rfl) ?_) | (refine And.intro rfl ?_))
    all_goals first | (exfalso; omega) | skip
    conv => whnf
    exact .intro (.tuple [.agg [.nilslice, .int .i64 0, .bool false], .int .i64 e]) (.inl rfl) rfl (.tupleL (.cons (.aggL (.cons .nil (.cons (.refl _) (.cons (.refl _) .nil)))) (.cons (.refl _) .nil)))

end Go.Proofs.YtlfaglkkeahamaaGreat.I
