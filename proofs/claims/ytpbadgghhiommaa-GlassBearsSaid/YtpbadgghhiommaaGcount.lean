/- The program's Count. -/
import Derived.Test.YtpbadgghhiommaaGorders
set_option linter.unusedVariables false
set_option maxHeartbeats 16000000
set_option linter.unusedSimpArgs false
namespace Go.Proofs.Ytpbadgghhiommaa.I
open Go.Ideal

theorem Count_ok (l : List Fire) (hl : l.length ≤ 100000) (ha : ∀ i : Nat, i < l.length → (at' l (i : Int)).aft.length ≤ 9000000000000000000) (H : Heap) :
    Ev T (.call (.func (.func 61) [] []) [frsl l] H) (.call (.tuple [.int .i64 (countR l).1, .int .i64 (countR l).2]) H) := by
  refine run_pure T61 (nn_tuple (nn_cons (nn_int _ _) (nn_cons (nn_int _ _) nn_none))) (nn_cons (frsl_no _) nn_none) ?_ H
  have kc := CheckFires_ok l (by omega) ha
  have hx : ∃ r, r = countR l := ⟨_, rfl⟩
  obtain ⟨r, hr⟩ := hx
  rw [← hr]
  unfold countR at hr
  by_cases h0 : firesE l = 0
  · have hF := fires_zero h0
    have hlen := hF.len
    have hA : (allL l).length ≤ 8 ^ 8 := Nat.le_trans (ordL_len l hlen _ _) (Nat.pow_le_pow_right (by omega) hlen)
    rw [if_neg (by simp [h0])] at hr
    rw [h0] at kc
    repeat' ((conv => whnf); first | (refine CallP.pure kc ?_) | (refine condP.differ1 ?_) | (refine CallP.inl T101 rfl ?_) | (first | refine condP.dec (fun h => ?_) (fun h => ?_) | refine condP.eq (fun h => ?_) (fun h => ?_) | refine condP.ne (fun h => ?_) (fun h => ?_)) | (refine .i64 (by omega) (by omega) ?_) | (refine onSome.intro (idx_fs rfl rfl (by omega) (by omega) (fun _ => rfl)) ?_) | (refine onSome.intro (load_fs rfl (by omega) (by omega) rfl) ?_) | (refine And.intro rfl ?_))
    all_goals first | (exfalso; omega) | skip
    conv => whnf
    refine range_rule [(5, .ptr 0 0 0)] ⟨rfl, trivial⟩ rfl T127 (fun ls hls => ?_)
    have hLc : ∀ c, chkS (· < 5) (LC l (ls .ready .normal) c) := fun c => by
      show chkS _ [_, _, ls .ready .normal, _, _]
      rw [hls]
      exact ⟨row_inn (nn_cons (.int _ _) nn_none), row_inn (nn_cons (frsl_no _) nn_none), fun t => chkI_inn (l := [(5, .ptr 0 0 0)]) ⟨.ptr _ _ _ (by omega), trivial⟩ t, inn_row (in_one (.yield _ (by omega))), inn_row (in_one growF_inn), trivial⟩
    have hy : ∀ (c : Int) (o : List Int), 0 ≤ c → c ≤ 1000000000 → Ev T (.call (.yield 2) [nilOr o] (Heap.of (LC l (ls .ready .normal) c))) (.call (.bool true) (Heap.of (LC l (ls .ready .normal) (c + 1)))) := fun c o c0 c1 => by
      have key : CallP T (.yield 2) [nilOr o] (LC l (ls .ready .normal) c) (fun v L => v = .bool true ∧ L = LC l (ls .ready .normal) (c + 1)) := by
        refine CallP.yield hls rfl rfl (all_used (hLc c)) rfl ?_
        (repeat ((conv => whnf); refine And.intro rfl ?_)); conv => whnf
        refine .i64 (by omega) (by omega) ?_
        repeat' ((conv => whnf); first | (refine And.intro rfl ?_))
        exact rfl
      cases key with
      | intro v L1 h k =>
        obtain ⟨rfl, rfl⟩ := k
        exact h
    have kg := growC_ok l hF ha (ls .ready .normal) hLc hy l.length [] 0 0 (by simp) (Mem.nil _) (by omega) (by have : (ordL l l.length []).length ≤ 8 ^ 8 := hA; omega)
    rw [Int.zero_add] at kg
    conv => whnf
    refine CallP.inl T127 (by simp [Slot.used, hls]) ?_
    conv => whnf
    refine .intro _ _ kg ?_
    conv => whnf
    refine .intro .ready .normal rfl (by simp) ?_
    conv => whnf
    exact .intro (.tuple [.int .i64 ((allL l).length : Int), .int .i64 0]) (.inl rfl) rfl (by rw [hr]; exact .refl _)
  · rw [if_pos h0] at hr
    generalize firesE l = e at *
    repeat' ((conv => whnf); first | (refine CallP.pure kc ?_) | (first | refine condP.dec (fun h => ?_) (fun h => ?_) | refine condP.eq (fun h => ?_) (fun h => ?_) | refine condP.ne (fun h => ?_) (fun h => ?_)) | (refine .i64 (by omega) (by omega) ?_) | (refine onSome.intro (idx_fs rfl rfl (by omega) (by omega) (fun _ => rfl)) ?_) | (refine onSome.intro (load_fs rfl (by omega) (by omega) rfl) ?_) | (refine And.intro rfl ?_))
    all_goals first | (exfalso; omega) | skip
    all_goals conv => whnf
    all_goals exact .intro (.tuple [.int .i64 0, .int .i64 e]) (.inl rfl) rfl (by rw [hr]; exact .refl _)

end Go.Proofs.Ytpbadgghhiommaa.I
