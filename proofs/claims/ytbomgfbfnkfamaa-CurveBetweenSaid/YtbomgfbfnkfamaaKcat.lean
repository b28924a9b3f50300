/- Two lists behind each other. -/
import Derived.Test.YtbomgfbfnkfamaaKfam
import Derived.Test.YtbomgfbfnkfamaaI3
set_option linter.unusedVariables false
set_option maxHeartbeats 8000000
set_option linter.unusedSimpArgs false
namespace Go.Proofs.Ytbomgfbfnkfamaa.I
open Go.Ideal

theorem slice_ms {L : List Slot} {E : Env} {x h : Opd} {b len lb sz sz' : Nat} {ex : Bool} {es : Els} {k : IntKind} {n : Int} (hx : x.ev E = .mslice b 0 len lb ex) (hh : h.ev E = .int k n) (hL : L[b]? = some (.live sz' es)) (h0 : 0 ≤ n) (h1 : n ≤ lb) (hs : sz ≠ 0) :
    iop (Heap.of L) E (.slice sz x none (some h) none) = some (.mslice b 0 n.toNat lb ex) := by
  have e : (Heap.of L) b = .live sz' es := Heap.of_get hL
  simp [iop, hx, IV.isSlice, hs, sliceI, bound?, hh, h0, h1, e]
theorem Concat_ok (a b : List Int) (ha : a ≠ []) (la : a.length ≤ 1000) (lb : b.length ≤ 1000) (H : Heap) : Ev T (.call (.func (.func 103) [] []) [sll [a, b]] H) (.call (sl (a ++ b)) H) := by
  refine run_pure T103 (sl_no _) (nn_cons (sll_no _) nn_none) ?_ H
  have ha0 : 0 < a.length := List.length_pos_iff.mpr ha
  have e1 : (a.map ei).length = a.length := List.length_map ..
  have e2 : (b.map ei).length = b.length := List.length_map ..
  have hm : ∃ m, m = a.length + b.length := ⟨_, rfl⟩
  obtain ⟨m, hm⟩ := hm
  repeat' ((conv => whnf); first | (refine loop_step ?_) | (refine CallP.inl T128 rfl ?_) | (refine .zeros (n := m) rfl (congrArg (IV.int .i64) (by omega)) (by omega) (by omega) ?_) | (refine onSome.intro (slice_ms (n := 0) rfl rfl rfl (by omega) (by omega) (by decide)) ?_) | (first | refine condP.dec (fun h => ?_) (fun h => ?_) | refine condP.eq (fun h => ?_) (fun h => ?_) | refine condP.ne (fun h => ?_) (fun h => ?_)) | (refine .i64 (by omega) (by omega) ?_) | (refine onSome.intro (idx_fs rfl rfl (by omega) (by omega) (fun _ => rfl)) ?_) | (refine onSome.intro (load_fs rfl (by omega) (by omega) rfl) ?_) | (refine And.intro rfl ?_))
  all_goals first | (exfalso; omega) | skip
  conv => whnf
  refine .room (es := List.replicate m (ei 0)) (es' := a.map ei) (r := (a ++ List.replicate b.length 0).map ei) (n' := a.length) rfl rfl rfl (by simp <;> omega) (by simp <;> omega) ei_len ei_ok (by simp [hm] <;> rfl) (by simp) ?_
  repeat' ((conv => whnf); first | (refine loop_step ?_) | (first | refine condP.dec (fun h => ?_) (fun h => ?_) | refine condP.eq (fun h => ?_) (fun h => ?_) | refine condP.ne (fun h => ?_) (fun h => ?_)) | (refine .i64 (by omega) (by omega) ?_) | (refine onSome.intro (idx_fs rfl rfl (by omega) (by omega) (fun _ => rfl)) ?_) | (refine onSome.intro (load_fs rfl (by omega) (by omega) rfl) ?_) | (refine And.intro rfl ?_))
  all_goals first | (exfalso; omega) | skip
  conv => whnf
  refine .room (es := (a ++ List.replicate b.length 0).map ei) (es' := b.map ei) (r := (a ++ b).map ei) (n' := m) rfl rfl rfl (by simp <;> omega) (by simp <;> omega) ei_len ei_ok (by simp) (by simp <;> omega) ?_
  repeat' ((conv => whnf); first | (refine loop_step ?_) | (first | refine condP.dec (fun h => ?_) (fun h => ?_) | refine condP.eq (fun h => ?_) (fun h => ?_) | refine condP.ne (fun h => ?_) (fun h => ?_)) | (refine .i64 (by omega) (by omega) ?_) | (refine onSome.intro (idx_fs rfl rfl (by omega) (by omega) (fun _ => rfl)) ?_) | (refine onSome.intro (load_fs rfl (by omega) (by omega) rfl) ?_) | (refine And.intro rfl ?_))
  conv => whnf
  refine .intro (.mslice 0 0 m m false) (.inl rfl) rfl ?_
  exact .ints (sz := 1) rfl (fun _ _ h => by cases h) (by simp <;> omega)
end Go.Proofs.Ytbomgfbfnkfamaa.I
