/- The program's First. -/
import Derived.Test.YtpbadgghhiommaaGorders2
set_option linter.unusedVariables false
set_option maxHeartbeats 16000000
set_option linter.unusedSimpArgs false
namespace Go.Proofs.Ytpbadgghhiommaa.I
open Go.Ideal

theorem FirstL_ok (l : List Fire) (hl : l.length ≤ 100000) (ha : ∀ i : Nat, i < l.length → (at' l (i : Int)).aft.length ≤ 9000000000000000000) (H : Heap) :
    Ev T (.call (.func (.func 59) [] []) [frsl l] H) (.call (.tuple [sl (firstR l).1, .int .i64 (firstR l).2]) H) := by
  refine run_pure T59 (nn_tuple (nn_cons (sl_no _) (nn_cons (nn_int _ _) nn_none))) (nn_cons (frsl_no _) nn_none) ?_ H
  have kc := CheckFires_ok l (by omega) ha
  have hx : ∃ r, r = firstR l := ⟨_, rfl⟩
  obtain ⟨r, hr⟩ := hx
  rw [← hr]
  unfold firstR at hr
  by_cases h0 : firesE l = 0
  · have hF := fires_zero h0
    have hlen := hF.len
    rw [if_neg (by simp [h0])] at hr
    rw [h0] at kc
    repeat' ((conv => whnf); first | (refine CallP.pure kc ?_) | (refine condP.differ1 ?_) | (refine CallP.inl T101 rfl ?_) | (first | refine condP.dec (fun h => ?_) (fun h => ?_) | refine condP.eq (fun h => ?_) (fun h => ?_) | refine condP.ne (fun h => ?_) (fun h => ?_)) | (refine .i64 (by omega) (by omega) ?_) | (refine onSome.intro (idx_fs rfl rfl (by omega) (by omega) (fun _ => rfl)) ?_) | (refine onSome.intro (load_fs rfl (by omega) (by omega) rfl) ?_) | (refine And.intro rfl ?_))
    all_goals first | (exfalso; omega) | skip
    conv => whnf
    refine range_rule [(2, .ptr 0 0 0), (3, .ptr 1 0 0)] ⟨rfl, rfl, trivial⟩ rfl T127 (fun ls hls => ?_)
    have hL : ∀ (s : LoopState) (e : IEx) (a : IV), Noname a → chkS (· < 6) (LF l (ls s e) a) := fun s e a h => by
      show chkS _ [_, _, _, ls s e, _, _]
      rw [hls]
      exact ⟨row_inn (nn_cons h nn_none), row_inn (nn_cons (.int _ _) nn_none), row_inn (nn_cons (frsl_no _) nn_none), fun t => chkI_inn (l := [(2, .ptr 0 0 0), (3, .ptr 1 0 0)]) ⟨.ptr _ _ _ (by omega), .ptr _ _ _ (by omega), trivial⟩ t, inn_row (in_one (.yield _ (by omega))), inn_row (in_one growG_inn), trivial⟩
    have hy : ∀ o : List Int, Ev T (.call (.yield 3) [nilOr o] (Heap.of (LF l (ls .ready .normal) .nilslice))) (.call (.bool false) (Heap.of (LF l (ls .done .ret) (nilOr o)))) := fun o => by
      have key : CallP T (.yield 3) [nilOr o] (LF l (ls .ready .normal) .nilslice) (fun v L => v = .bool false ∧ L = LF l (ls .done .ret) (nilOr o)) := by
        refine CallP.yield hls rfl rfl (all_used (hL _ _ _ .nilslice)) rfl ?_
        rcases o with _ | ⟨o0, o⟩
        all_goals repeat' ((conv => whnf); first | (refine And.intro rfl ?_))
        all_goals exact rfl
      cases key with
      | intro v L1 h k =>
        obtain ⟨rfl, rfl⟩ := k
        exact h
    have kg := growG_ok l hF ha (ls .ready .normal) (ls .done .ret) (hL _ _ _ .nilslice) (fun o => hL _ _ _ (nilOr_no o)) hy l.length [] 0 (by simp) (Mem.nil _)
    conv => whnf
    refine CallP.inl T127 (by simp [Slot.used, hls]) ?_
    conv => whnf
    cases hq : allL l with
    | nil =>
      refine .intro _ _ (kg.1 hq) ?_
      conv => whnf
      refine .intro .ready .normal rfl (by simp) ?_
      conv => whnf
      have hr : r = ([], 7) := by rw [hr, if_pos (by rw [hq]; rfl)]
      exact .intro (.tuple [.nilslice, .int .i64 7]) (.inl rfl) rfl (by rw [hr]; exact .tupleL (.cons .nil (.cons (.refl _) .nil)))
    | cons o os =>
      refine .intro _ _ (kg.2 o os hq) ?_
      conv => whnf
      refine .intro .done .ret rfl (by simp) ?_
      have hr : r = (o, 0) := by rw [hr, if_neg (by rw [hq]; simp), hq]; rfl
      cases o
      · conv => whnf
        exact .intro (.tuple [.nilslice, .int .i64 0]) (.inl rfl) rfl (by rw [hr]; exact .tupleL (.cons .nil (.cons (.refl _) .nil)))
      · conv => whnf
        exact .intro (.tuple [sl _, .int .i64 0]) (.inl rfl) rfl (by rw [hr]; exact .refl _)
  · rw [if_pos h0] at hr
    generalize firesE l = e at *
    repeat' ((conv => whnf); first | (refine CallP.pure kc ?_) | (first | refine condP.dec (fun h => ?_) (fun h => ?_) | refine condP.eq (fun h => ?_) (fun h => ?_) | refine condP.ne (fun h => ?_) (fun h => ?_)) | (refine .i64 (by omega) (by omega) ?_) | (refine onSome.intro (idx_fs rfl rfl (by omega) (by omega) (fun _ => rfl)) ?_) | (refine onSome.intro (load_fs rfl (by omega) (by omega) rfl) ?_) | (refine And.intro rfl ?_))
    all_goals first | (exfalso; omega) | skip
    all_goals conv => whnf
    all_goals exact .intro (.tuple [.nilslice, .int .i64 e]) (.inl rfl) rfl (by rw [hr]; exact .tupleL (.cons .nil (.cons (.refl _) .nil)))

end Go.Proofs.Ytpbadgghhiommaa.I
