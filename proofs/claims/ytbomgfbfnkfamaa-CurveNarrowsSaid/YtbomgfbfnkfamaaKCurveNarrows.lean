/- CurveNarrows: laws narrowed by readings. -/
import Derived.Test.YtbomgfbfnkfamaaKwithlaw
import Derived.Test.YtbomgfbfnkfamaaKnarr
import Derived.Test.YtbomgfbfnkfamaaKawake
import Derived.Test.YtbomgfbfnkfamaaI3
set_option linter.unusedVariables false
set_option maxHeartbeats 16000000
set_option linter.unusedSimpArgs false
namespace Go.Proofs.Ytbomgfbfnkfamaa.I
open Go.Ideal Go.RowKit

theorem okReads {x : IV} (h : OkI (.sl [.i .i64, .i .i64, .i .i64, .i .i64]) x) : ∃ l : List Rd, x = rsI l ∧ l.length ≤ maxLen := by
  obtain ⟨l, h1, h2, _⟩ := h.slice (enc := rdR) (Q := fun _ => True) (fun e hl hk => by
    obtain ⟨a, b, c, d, rfl⟩ : ∃ a b c d, e = [a, b, c, d] := by
      match e, hl with
      | [a, b, c, d], _ => exact ⟨a, b, c, d, rfl⟩
    obtain ⟨n0, e0, _⟩ := (hk 0 (by simp) (by simp)).int
    obtain ⟨n1, e1, _⟩ := (hk 1 (by simp) (by simp)).int
    obtain ⟨n2, e2, _⟩ := (hk 2 (by simp) (by simp)).int
    obtain ⟨n3, e3, _⟩ := (hk 3 (by simp) (by simp)).int
    simp only [List.getElem_cons_zero, List.getElem_cons_succ] at e0 e1 e2 e3
    exact ⟨⟨n0, n1, n2, n3⟩, by rw [e0, e1, e2, e3]; rfl, trivial⟩)
  exact ⟨l, h1, h2⟩
theorem narRes_form (L : Lw) (l : List Rd) : ∃ (M : Lw) (E : Int), narRes L l = .tuple [M.I, .int .i64 E] := by
  unfold narRes
  split
  · exact ⟨L0, _, rfl⟩
  split
  · exact ⟨L0, _, rfl⟩
  split
  · exact ⟨L0, _, rfl⟩
  cases narAll L l with
  | none => exact ⟨L0, _, rfl⟩
  | some M => exact ⟨M, _, rfl⟩
theorem nar_both (L : Lw) (l : List Rd) (hl : l.length ≤ 9000000000000000000) : ∃ (M : Lw) (E : Int), (∀ H, Ev T (.call (.func (.func 46) [] []) [L.I, rsI l] H) (.call (.tuple [M.I, .int .i64 E]) H)) ∧
    ∀ H, Ev T (.call (.func (.func 47) [] []) [L.I, rsI l] H) (.call (.tuple [M.I, .int .i64 E]) H) := by
  obtain ⟨M, E, e⟩ := narRes_form L l
  exact ⟨M, E, fun H => e ▸ Narrow_ok L l hl H, fun H => e ▸ rNarrow_ok L l hl H⟩
theorem rdz {l : List Rd} : ∀ e ∈ l.map rdR, e.length = 4 := fun e he => by
  obtain ⟨r, _, rfl⟩ := List.mem_map.mp he
  rfl
theorem rdok {l : List Rd} : ∀ e ∈ l.map rdR, ∀ c ∈ e, IV.cellOk c = true := fun e he c hc => by
  obtain ⟨r, _, rfl⟩ := List.mem_map.mp he
  simp only [rdR, List.mem_cons, List.not_mem_nil, or_false] at hc
  rcases hc with rfl | rfl | rfl | rfl <;> rfl
def lwR (L : Lw) : List IV := [.int .i64 L.p0, .int .i64 L.p1, .int .i64 L.g0, .int .i64 L.g1, .int .i64 L.s0, .int .i64 L.s1, .int .i64 L.f0, .int .i64 L.f1, .int .i64 L.q0, .int .i64 L.q1]
def rsR (l : List Rd) : List IV := [rsI l]
theorem same10 (M : Lw) : (M.p0 == M.p0 && (M.p1 == M.p1 && (M.g0 == M.g0 && (M.g1 == M.g1 && (M.s0 == M.s0 && (M.s1 == M.s1 && (M.f0 == M.f0 && (M.f1 == M.f1 && (M.q0 == M.q0 && (M.q1 == M.q1 && true)))))))))) = true := by simp
theorem CurveNarrows_ok (p0 p1 g0 g1 s0 s1 f0 f1 q0 q1 : Int) (rs : List Rd) (l : List Int) (hrs : rs.length ≤ maxLen) (hl : l.length ≤ 9223372036854775807) (H : Heap) :
    Ev T (.call (.func (.func 9) [] []) [lawI p0 p1 g0 g1 s0 s1 f0 f1 q0 q1, rsI rs, sl l] H) (.call (.bool true) H) := by
  refine run_pure T9 (.bool _) (nn_cons (lawI_no ..) (nn_cons (rsI_no _) (nn_cons (sl_no _) nn_none))) ?_ H
  have e1 : (rs.map rdR).length = rs.length := List.length_map ..
  conv => whnf
  refine condP.dec (fun h => ?_) (fun h => ?_)
  · conv => whnf
    refine CallP.pure awake_ok ?_
    conv => whnf
    exact .intro (.bool true) (.inl rfl) rfl (.refl _)
  have hlen : rs.length ≤ 70 := by omega
  obtain ⟨s, ks⟩ := NewDice_ok l hl
  obtain ⟨p0', p1', g0', g1', s0', s1', f0', f1', q0', q1', t1, ok, k1⟩ := LawOf_ok s
  have hL : ∃ L : Lw, L = ⟨p0', p1', g0', g1', s0', s1', f0', f1', q0', q1'⟩ := ⟨_, rfl⟩
  obtain ⟨L, hL⟩ := hL
  have okL : L.Ok := by rw [hL]; exact ok
  have k1 : ∀ (H : Heap) (n : Nat), H n = S1 s → Ev T (.call (.func (.func 25) [] []) [.ptr n 0 0] H) (.call L.I (H.set n (S1 t1))) := by rw [hL]; exact k1
  clear hL ok
  obtain ⟨A, hA⟩ : ∃ A : Lw, A = ⟨p0, p1, g0, g1, s0, s1, f0, f1, q0, q1⟩ := ⟨_, rfl⟩
  obtain ⟨M, t2, ins, k2⟩ := WithinLaw_ok t1 L okL
  obtain ⟨so, t3, hso, _, k3⟩ := ReadsOf_ok t2 M (ins.ok okL)
  obtain ⟨M1, E1, c1, d1⟩ := nar_both ⟨p0, p1, g0, g1, s0, s1, f0, f1, q0, q1⟩ rs (by omega)
  obtain ⟨M2, E2, c2, d2⟩ := nar_both L so (by omega)
  obtain ⟨M3, E3, c3, d3⟩ := nar_both L (so ++ rs) (by rw [List.length_append]; omega)
  obtain ⟨M4, E4, c4, d4⟩ := nar_both L rs (by omega)
  have lso : so.length ≤ 100 := by omega
  have lrs : rs.length ≤ 100 := by omega
  clear hrs hso hlen e1 h
  rcases so with _ | ⟨o, so⟩ <;> rcases rs with _ | ⟨r0, rs⟩
  · repeat' ((conv => whnf); first | (refine CallP.new ks ?_) | (refine CallP.one (fun H hb => k1 H _ hb) rfl ?_) | (refine CallP.one (fun H hb => k2 H _ hb) rfl ?_) | (refine CallP.one (fun H hb => k3 H _ hb) rfl ?_) | (refine .none rfl rfl rfl ?_) | (refine .full (es := []) (es' := List.map rdR _) (r := List.map rdR _) rfl rfl rfl rfl (by simp) rdz rdok rfl rfl (by simp only [List.length_map, List.length_append, List.length_cons, List.length_nil] at *; omega) ?_) | (refine .grow (es := List.map rdR _) (es' := List.map rdR _) (r := List.map rdR (_ ++ _)) rfl rfl rfl rfl (by simp) rdz rdok (List.map_append ..).symm rfl (by simp only [List.length_map, List.length_append]; omega) ?_) | (first | refine condP.dec (fun h => ?_) (fun h => ?_) | refine condP.eq (fun h => ?_) (fun h => ?_) | refine condP.ne (fun h => ?_) (fun h => ?_)) | (refine .i64 (by omega) (by omega) ?_) | (refine onSome.intro (idx_fs rfl rfl (by omega) (by omega) (fun _ => rfl)) ?_) | (refine onSome.intro (load_fs rfl (by omega) (by omega) rfl) ?_) | (refine And.intro rfl ?_))
    conv => whnf
    refine .start [3, 4, 5] [(10, .fslice (List.map lwR [⟨p0, p1, g0, g1, s0, s1, f0, f1, q0, q1⟩, L, L, L])), (11, .fslice (List.map rsR [[], [], [] ++ [], []])), (12, .int .i64 0)] rfl
      ⟨.whole (sz := 10) (es' := List.map lwR [⟨p0, p1, g0, g1, s0, s1, f0, f1, q0, q1⟩, L, L, L]) rfl (fun _ _ h => by cases h) rfl (.refl _), .whole (sz := 1) (es' := List.map rsR [[], [], [] ++ [], []]) rfl (fun _ _ h => by cases h) rfl (.cons (.refl _) (.cons (.refl _) (.cons (.cons (.whole (sz := 4) (es' := List.map rdR ([] ++ [])) rfl (fun _ _ h => by cases h) rfl (.refl _)) .nil) (.cons (.refl _) .nil)))), .refl _, trivial⟩ ?_
    conv => whnf
    refine loop_step ?_
    repeat' ((conv => whnf); first | (refine .none rfl rfl rfl ?_) | (refine .full (es := []) (es' := List.map rdR _) (r := List.map rdR _) rfl rfl rfl rfl (by simp) rdz rdok rfl rfl (by simp only [List.length_map, List.length_append, List.length_cons, List.length_nil] at *; omega) ?_) | (first | refine condP.dec (fun h => ?_) (fun h => ?_) | refine condP.eq (fun h => ?_) (fun h => ?_) | refine condP.ne (fun h => ?_) (fun h => ?_)) | (refine .i64 (by omega) (by omega) ?_) | (refine onSome.intro (idx_fs rfl rfl (by omega) (by omega) (fun _ => rfl)) ?_) | (refine onSome.intro (load_fs rfl (by omega) (by omega) rfl) ?_) | (refine And.intro rfl ?_))
    conv => whnf
    refine CallP.frz [6] rfl [Lw.I ⟨p0, p1, g0, g1, s0, s1, f0, f1, q0, q1⟩, rsI ([])] (.cons (.refl _) (.cons (.whole (sz := 4) (es' := List.map rdR ([])) rfl (fun _ _ h => by cases h) rfl (.refl _)) .nil)) ?_
    refine CallP.pure c1 ?_
    (repeat ((conv => whnf); refine And.intro rfl ?_)); conv => whnf
    refine CallP.pure d1 ?_
    (repeat ((conv => whnf); refine And.intro rfl ?_)); conv => whnf
    rw [same10]
    repeat' ((conv => whnf); first | (refine condP.ne (fun h => absurd rfl h) (fun _ => ?_)) | (first | refine condP.dec (fun h => ?_) (fun h => ?_) | refine condP.eq (fun h => ?_) (fun h => ?_) | refine condP.ne (fun h => ?_) (fun h => ?_)) | (refine .i64 (by omega) (by omega) ?_) | (refine onSome.intro (idx_fs rfl rfl (by omega) (by omega) (fun _ => rfl)) ?_) | (refine onSome.intro (load_fs rfl (by omega) (by omega) rfl) ?_) | (refine And.intro rfl ?_))
    refine loop_step ?_
    repeat' ((conv => whnf); first | (refine .none rfl rfl rfl ?_) | (refine .full (es := []) (es' := List.map rdR _) (r := List.map rdR _) rfl rfl rfl rfl (by simp) rdz rdok rfl rfl (by simp only [List.length_map, List.length_append, List.length_cons, List.length_nil] at *; omega) ?_) | (first | refine condP.dec (fun h => ?_) (fun h => ?_) | refine condP.eq (fun h => ?_) (fun h => ?_) | refine condP.ne (fun h => ?_) (fun h => ?_)) | (refine .i64 (by omega) (by omega) ?_) | (refine onSome.intro (idx_fs rfl rfl (by omega) (by omega) (fun _ => rfl)) ?_) | (refine onSome.intro (load_fs rfl (by omega) (by omega) rfl) ?_) | (refine And.intro rfl ?_))
    conv => whnf
    refine CallP.frz [9] rfl [Lw.I L, rsI ([])] (.cons (.refl _) (.cons (.whole (sz := 4) (es' := List.map rdR ([])) rfl (fun _ _ h => by cases h) rfl (.refl _)) .nil)) ?_
    refine CallP.pure c2 ?_
    (repeat ((conv => whnf); refine And.intro rfl ?_)); conv => whnf
    refine CallP.pure d2 ?_
    (repeat ((conv => whnf); refine And.intro rfl ?_)); conv => whnf
    rw [same10]
    repeat' ((conv => whnf); first | (refine condP.ne (fun h => absurd rfl h) (fun _ => ?_)) | (first | refine condP.dec (fun h => ?_) (fun h => ?_) | refine condP.eq (fun h => ?_) (fun h => ?_) | refine condP.ne (fun h => ?_) (fun h => ?_)) | (refine .i64 (by omega) (by omega) ?_) | (refine onSome.intro (idx_fs rfl rfl (by omega) (by omega) (fun _ => rfl)) ?_) | (refine onSome.intro (load_fs rfl (by omega) (by omega) rfl) ?_) | (refine And.intro rfl ?_))
    refine loop_step ?_
    repeat' ((conv => whnf); first | (refine .none rfl rfl rfl ?_) | (refine .full (es := []) (es' := List.map rdR _) (r := List.map rdR _) rfl rfl rfl rfl (by simp) rdz rdok rfl rfl (by simp only [List.length_map, List.length_append, List.length_cons, List.length_nil] at *; omega) ?_) | (first | refine condP.dec (fun h => ?_) (fun h => ?_) | refine condP.eq (fun h => ?_) (fun h => ?_) | refine condP.ne (fun h => ?_) (fun h => ?_)) | (refine .i64 (by omega) (by omega) ?_) | (refine onSome.intro (idx_fs rfl rfl (by omega) (by omega) (fun _ => rfl)) ?_) | (refine onSome.intro (load_fs rfl (by omega) (by omega) rfl) ?_) | (refine And.intro rfl ?_))
    conv => whnf
    refine CallP.frz [12] rfl [Lw.I L, rsI ([] ++ [])] (.cons (.refl _) (.cons (.whole (sz := 4) (es' := List.map rdR ([] ++ [])) rfl (fun _ _ h => by cases h) rfl (.refl _)) .nil)) ?_
    refine CallP.pure c3 ?_
    (repeat ((conv => whnf); refine And.intro rfl ?_)); conv => whnf
    refine CallP.pure d3 ?_
    (repeat ((conv => whnf); refine And.intro rfl ?_)); conv => whnf
    rw [same10]
    repeat' ((conv => whnf); first | (refine condP.ne (fun h => absurd rfl h) (fun _ => ?_)) | (first | refine condP.dec (fun h => ?_) (fun h => ?_) | refine condP.eq (fun h => ?_) (fun h => ?_) | refine condP.ne (fun h => ?_) (fun h => ?_)) | (refine .i64 (by omega) (by omega) ?_) | (refine onSome.intro (idx_fs rfl rfl (by omega) (by omega) (fun _ => rfl)) ?_) | (refine onSome.intro (load_fs rfl (by omega) (by omega) rfl) ?_) | (refine And.intro rfl ?_))
    refine loop_step ?_
    repeat' ((conv => whnf); first | (refine .none rfl rfl rfl ?_) | (refine .full (es := []) (es' := List.map rdR _) (r := List.map rdR _) rfl rfl rfl rfl (by simp) rdz rdok rfl rfl (by simp only [List.length_map, List.length_append, List.length_cons, List.length_nil] at *; omega) ?_) | (first | refine condP.dec (fun h => ?_) (fun h => ?_) | refine condP.eq (fun h => ?_) (fun h => ?_) | refine condP.ne (fun h => ?_) (fun h => ?_)) | (refine .i64 (by omega) (by omega) ?_) | (refine onSome.intro (idx_fs rfl rfl (by omega) (by omega) (fun _ => rfl)) ?_) | (refine onSome.intro (load_fs rfl (by omega) (by omega) rfl) ?_) | (refine And.intro rfl ?_))
    conv => whnf
    refine CallP.frz [15] rfl [Lw.I L, rsI ([])] (.cons (.refl _) (.cons (.whole (sz := 4) (es' := List.map rdR ([])) rfl (fun _ _ h => by cases h) rfl (.refl _)) .nil)) ?_
    refine CallP.pure c4 ?_
    (repeat ((conv => whnf); refine And.intro rfl ?_)); conv => whnf
    refine CallP.pure d4 ?_
    (repeat ((conv => whnf); refine And.intro rfl ?_)); conv => whnf
    rw [same10]
    repeat' ((conv => whnf); first | (refine condP.ne (fun h => absurd rfl h) (fun _ => ?_)) | (first | refine condP.dec (fun h => ?_) (fun h => ?_) | refine condP.eq (fun h => ?_) (fun h => ?_) | refine condP.ne (fun h => ?_) (fun h => ?_)) | (refine .i64 (by omega) (by omega) ?_) | (refine onSome.intro (idx_fs rfl rfl (by omega) (by omega) (fun _ => rfl)) ?_) | (refine onSome.intro (load_fs rfl (by omega) (by omega) rfl) ?_) | (refine And.intro rfl ?_))
    refine loop_step ?_
    repeat' ((conv => whnf); first | (refine CallP.pure awake_ok ?_) | (first | refine condP.dec (fun h => ?_) (fun h => ?_) | refine condP.eq (fun h => ?_) (fun h => ?_) | refine condP.ne (fun h => ?_) (fun h => ?_)) | (refine .i64 (by omega) (by omega) ?_) | (refine onSome.intro (idx_fs rfl rfl (by omega) (by omega) (fun _ => rfl)) ?_) | (refine onSome.intro (load_fs rfl (by omega) (by omega) rfl) ?_) | (refine And.intro rfl ?_))
    conv => whnf
    exact .intro (.bool true) (.inl rfl) rfl (.refl _)
  · repeat' ((conv => whnf); first | (refine CallP.new ks ?_) | (refine CallP.one (fun H hb => k1 H _ hb) rfl ?_) | (refine CallP.one (fun H hb => k2 H _ hb) rfl ?_) | (refine CallP.one (fun H hb => k3 H _ hb) rfl ?_) | (refine .none rfl rfl rfl ?_) | (refine .full (es := []) (es' := List.map rdR _) (r := List.map rdR _) rfl rfl rfl rfl (by simp) rdz rdok rfl rfl (by simp only [List.length_map, List.length_append, List.length_cons, List.length_nil] at *; omega) ?_) | (refine .grow (es := List.map rdR _) (es' := List.map rdR _) (r := List.map rdR (_ ++ _)) rfl rfl rfl rfl (by simp) rdz rdok (List.map_append ..).symm rfl (by simp only [List.length_map, List.length_append]; omega) ?_) | (first | refine condP.dec (fun h => ?_) (fun h => ?_) | refine condP.eq (fun h => ?_) (fun h => ?_) | refine condP.ne (fun h => ?_) (fun h => ?_)) | (refine .i64 (by omega) (by omega) ?_) | (refine onSome.intro (idx_fs rfl rfl (by omega) (by omega) (fun _ => rfl)) ?_) | (refine onSome.intro (load_fs rfl (by omega) (by omega) rfl) ?_) | (refine And.intro rfl ?_))
    conv => whnf
    refine .start [4, 5, 6] [(10, .fslice (List.map lwR [⟨p0, p1, g0, g1, s0, s1, f0, f1, q0, q1⟩, L, L, L])), (11, .fslice (List.map rsR [(r0 :: rs), [], [] ++ (r0 :: rs), (r0 :: rs)])), (12, .int .i64 0)] rfl
      ⟨.whole (sz := 10) (es' := List.map lwR [⟨p0, p1, g0, g1, s0, s1, f0, f1, q0, q1⟩, L, L, L]) rfl (fun _ _ h => by cases h) rfl (.refl _), .whole (sz := 1) (es' := List.map rsR [(r0 :: rs), [], [] ++ (r0 :: rs), (r0 :: rs)]) rfl (fun _ _ h => by cases h) rfl (.cons (.refl _) (.cons (.refl _) (.cons (.cons (.whole (sz := 4) (es' := List.map rdR ([] ++ (r0 :: rs))) rfl (fun _ _ h => by cases h) rfl (.refl _)) .nil) (.cons (.refl _) .nil)))), .refl _, trivial⟩ ?_
    conv => whnf
    refine loop_step ?_
    repeat' ((conv => whnf); first | (refine .none rfl rfl rfl ?_) | (refine .full (es := []) (es' := List.map rdR _) (r := List.map rdR _) rfl rfl rfl rfl (by simp) rdz rdok rfl rfl (by simp only [List.length_map, List.length_append, List.length_cons, List.length_nil] at *; omega) ?_) | (first | refine condP.dec (fun h => ?_) (fun h => ?_) | refine condP.eq (fun h => ?_) (fun h => ?_) | refine condP.ne (fun h => ?_) (fun h => ?_)) | (refine .i64 (by omega) (by omega) ?_) | (refine onSome.intro (idx_fs rfl rfl (by omega) (by omega) (fun _ => rfl)) ?_) | (refine onSome.intro (load_fs rfl (by omega) (by omega) rfl) ?_) | (refine And.intro rfl ?_))
    conv => whnf
    refine CallP.frz [8] rfl [Lw.I ⟨p0, p1, g0, g1, s0, s1, f0, f1, q0, q1⟩, rsI ((r0 :: rs))] (.cons (.refl _) (.cons (.whole (sz := 4) (es' := List.map rdR ((r0 :: rs))) rfl (fun _ _ h => by cases h) rfl (.refl _)) .nil)) ?_
    refine CallP.pure c1 ?_
    (repeat ((conv => whnf); refine And.intro rfl ?_)); conv => whnf
    refine CallP.pure d1 ?_
    (repeat ((conv => whnf); refine And.intro rfl ?_)); conv => whnf
    rw [same10]
    repeat' ((conv => whnf); first | (refine condP.ne (fun h => absurd rfl h) (fun _ => ?_)) | (first | refine condP.dec (fun h => ?_) (fun h => ?_) | refine condP.eq (fun h => ?_) (fun h => ?_) | refine condP.ne (fun h => ?_) (fun h => ?_)) | (refine .i64 (by omega) (by omega) ?_) | (refine onSome.intro (idx_fs rfl rfl (by omega) (by omega) (fun _ => rfl)) ?_) | (refine onSome.intro (load_fs rfl (by omega) (by omega) rfl) ?_) | (refine And.intro rfl ?_))
    refine loop_step ?_
    repeat' ((conv => whnf); first | (refine .none rfl rfl rfl ?_) | (refine .full (es := []) (es' := List.map rdR _) (r := List.map rdR _) rfl rfl rfl rfl (by simp) rdz rdok rfl rfl (by simp only [List.length_map, List.length_append, List.length_cons, List.length_nil] at *; omega) ?_) | (first | refine condP.dec (fun h => ?_) (fun h => ?_) | refine condP.eq (fun h => ?_) (fun h => ?_) | refine condP.ne (fun h => ?_) (fun h => ?_)) | (refine .i64 (by omega) (by omega) ?_) | (refine onSome.intro (idx_fs rfl rfl (by omega) (by omega) (fun _ => rfl)) ?_) | (refine onSome.intro (load_fs rfl (by omega) (by omega) rfl) ?_) | (refine And.intro rfl ?_))
    conv => whnf
    refine CallP.frz [11] rfl [Lw.I L, rsI ([])] (.cons (.refl _) (.cons (.whole (sz := 4) (es' := List.map rdR ([])) rfl (fun _ _ h => by cases h) rfl (.refl _)) .nil)) ?_
    refine CallP.pure c2 ?_
    (repeat ((conv => whnf); refine And.intro rfl ?_)); conv => whnf
    refine CallP.pure d2 ?_
    (repeat ((conv => whnf); refine And.intro rfl ?_)); conv => whnf
    rw [same10]
    repeat' ((conv => whnf); first | (refine condP.ne (fun h => absurd rfl h) (fun _ => ?_)) | (first | refine condP.dec (fun h => ?_) (fun h => ?_) | refine condP.eq (fun h => ?_) (fun h => ?_) | refine condP.ne (fun h => ?_) (fun h => ?_)) | (refine .i64 (by omega) (by omega) ?_) | (refine onSome.intro (idx_fs rfl rfl (by omega) (by omega) (fun _ => rfl)) ?_) | (refine onSome.intro (load_fs rfl (by omega) (by omega) rfl) ?_) | (refine And.intro rfl ?_))
    refine loop_step ?_
    repeat' ((conv => whnf); first | (refine .none rfl rfl rfl ?_) | (refine .full (es := []) (es' := List.map rdR _) (r := List.map rdR _) rfl rfl rfl rfl (by simp) rdz rdok rfl rfl (by simp only [List.length_map, List.length_append, List.length_cons, List.length_nil] at *; omega) ?_) | (first | refine condP.dec (fun h => ?_) (fun h => ?_) | refine condP.eq (fun h => ?_) (fun h => ?_) | refine condP.ne (fun h => ?_) (fun h => ?_)) | (refine .i64 (by omega) (by omega) ?_) | (refine onSome.intro (idx_fs rfl rfl (by omega) (by omega) (fun _ => rfl)) ?_) | (refine onSome.intro (load_fs rfl (by omega) (by omega) rfl) ?_) | (refine And.intro rfl ?_))
    conv => whnf
    refine CallP.frz [15] rfl [Lw.I L, rsI ([] ++ (r0 :: rs))] (.cons (.refl _) (.cons (.whole (sz := 4) (es' := List.map rdR ([] ++ (r0 :: rs))) rfl (fun _ _ h => by cases h) rfl (.refl _)) .nil)) ?_
    refine CallP.pure c3 ?_
    (repeat ((conv => whnf); refine And.intro rfl ?_)); conv => whnf
    refine CallP.pure d3 ?_
    (repeat ((conv => whnf); refine And.intro rfl ?_)); conv => whnf
    rw [same10]
    repeat' ((conv => whnf); first | (refine condP.ne (fun h => absurd rfl h) (fun _ => ?_)) | (first | refine condP.dec (fun h => ?_) (fun h => ?_) | refine condP.eq (fun h => ?_) (fun h => ?_) | refine condP.ne (fun h => ?_) (fun h => ?_)) | (refine .i64 (by omega) (by omega) ?_) | (refine onSome.intro (idx_fs rfl rfl (by omega) (by omega) (fun _ => rfl)) ?_) | (refine onSome.intro (load_fs rfl (by omega) (by omega) rfl) ?_) | (refine And.intro rfl ?_))
    refine loop_step ?_
    repeat' ((conv => whnf); first | (refine .none rfl rfl rfl ?_) | (refine .full (es := []) (es' := List.map rdR _) (r := List.map rdR _) rfl rfl rfl rfl (by simp) rdz rdok rfl rfl (by simp only [List.length_map, List.length_append, List.length_cons, List.length_nil] at *; omega) ?_) | (first | refine condP.dec (fun h => ?_) (fun h => ?_) | refine condP.eq (fun h => ?_) (fun h => ?_) | refine condP.ne (fun h => ?_) (fun h => ?_)) | (refine .i64 (by omega) (by omega) ?_) | (refine onSome.intro (idx_fs rfl rfl (by omega) (by omega) (fun _ => rfl)) ?_) | (refine onSome.intro (load_fs rfl (by omega) (by omega) rfl) ?_) | (refine And.intro rfl ?_))
    conv => whnf
    refine CallP.frz [19] rfl [Lw.I L, rsI ((r0 :: rs))] (.cons (.refl _) (.cons (.whole (sz := 4) (es' := List.map rdR ((r0 :: rs))) rfl (fun _ _ h => by cases h) rfl (.refl _)) .nil)) ?_
    refine CallP.pure c4 ?_
    (repeat ((conv => whnf); refine And.intro rfl ?_)); conv => whnf
    refine CallP.pure d4 ?_
    (repeat ((conv => whnf); refine And.intro rfl ?_)); conv => whnf
    rw [same10]
    repeat' ((conv => whnf); first | (refine condP.ne (fun h => absurd rfl h) (fun _ => ?_)) | (first | refine condP.dec (fun h => ?_) (fun h => ?_) | refine condP.eq (fun h => ?_) (fun h => ?_) | refine condP.ne (fun h => ?_) (fun h => ?_)) | (refine .i64 (by omega) (by omega) ?_) | (refine onSome.intro (idx_fs rfl rfl (by omega) (by omega) (fun _ => rfl)) ?_) | (refine onSome.intro (load_fs rfl (by omega) (by omega) rfl) ?_) | (refine And.intro rfl ?_))
    refine loop_step ?_
    repeat' ((conv => whnf); first | (refine CallP.pure awake_ok ?_) | (first | refine condP.dec (fun h => ?_) (fun h => ?_) | refine condP.eq (fun h => ?_) (fun h => ?_) | refine condP.ne (fun h => ?_) (fun h => ?_)) | (refine .i64 (by omega) (by omega) ?_) | (refine onSome.intro (idx_fs rfl rfl (by omega) (by omega) (fun _ => rfl)) ?_) | (refine onSome.intro (load_fs rfl (by omega) (by omega) rfl) ?_) | (refine And.intro rfl ?_))
    conv => whnf
    exact .intro (.bool true) (.inl rfl) rfl (.refl _)
  · rw [List.append_nil] at c3 d3
    repeat' ((conv => whnf); first | (refine CallP.new ks ?_) | (refine CallP.one (fun H hb => k1 H _ hb) rfl ?_) | (refine CallP.one (fun H hb => k2 H _ hb) rfl ?_) | (refine CallP.one (fun H hb => k3 H _ hb) rfl ?_) | (refine .none rfl rfl rfl ?_) | (refine .full (es := []) (es' := List.map rdR _) (r := List.map rdR _) rfl rfl rfl rfl (by simp) rdz rdok rfl rfl (by simp only [List.length_map, List.length_append, List.length_cons, List.length_nil] at *; omega) ?_) | (refine .grow (es := List.map rdR _) (es' := List.map rdR _) (r := List.map rdR (_ ++ _)) rfl rfl rfl rfl (by simp) rdz rdok (List.map_append ..).symm rfl (by simp only [List.length_map, List.length_append]; omega) ?_) | (first | refine condP.dec (fun h => ?_) (fun h => ?_) | refine condP.eq (fun h => ?_) (fun h => ?_) | refine condP.ne (fun h => ?_) (fun h => ?_)) | (refine .i64 (by omega) (by omega) ?_) | (refine onSome.intro (idx_fs rfl rfl (by omega) (by omega) (fun _ => rfl)) ?_) | (refine onSome.intro (load_fs rfl (by omega) (by omega) rfl) ?_) | (refine And.intro rfl ?_))
    conv => whnf
    refine .start [4, 5, 6] [(10, .fslice (List.map lwR [⟨p0, p1, g0, g1, s0, s1, f0, f1, q0, q1⟩, L, L, L])), (11, .fslice (List.map rsR [[], (o :: so), (o :: so), []])), (12, .int .i64 0)] rfl
      ⟨.whole (sz := 10) (es' := List.map lwR [⟨p0, p1, g0, g1, s0, s1, f0, f1, q0, q1⟩, L, L, L]) rfl (fun _ _ h => by cases h) rfl (.refl _), .whole (sz := 1) (es' := List.map rsR [[], (o :: so), (o :: so), []]) rfl (fun _ _ h => by cases h) rfl (.cons (.refl _) (.cons (.refl _) (.cons (.cons (.whole (sz := 4) (es' := List.map rdR ((o :: so))) rfl (fun _ _ h => by cases h) rfl (.refl _)) .nil) (.cons (.refl _) .nil)))), .refl _, trivial⟩ ?_
    conv => whnf
    refine loop_step ?_
    repeat' ((conv => whnf); first | (refine .none rfl rfl rfl ?_) | (refine .full (es := []) (es' := List.map rdR _) (r := List.map rdR _) rfl rfl rfl rfl (by simp) rdz rdok rfl rfl (by simp only [List.length_map, List.length_append, List.length_cons, List.length_nil] at *; omega) ?_) | (first | refine condP.dec (fun h => ?_) (fun h => ?_) | refine condP.eq (fun h => ?_) (fun h => ?_) | refine condP.ne (fun h => ?_) (fun h => ?_)) | (refine .i64 (by omega) (by omega) ?_) | (refine onSome.intro (idx_fs rfl rfl (by omega) (by omega) (fun _ => rfl)) ?_) | (refine onSome.intro (load_fs rfl (by omega) (by omega) rfl) ?_) | (refine And.intro rfl ?_))
    conv => whnf
    refine CallP.frz [7] rfl [Lw.I ⟨p0, p1, g0, g1, s0, s1, f0, f1, q0, q1⟩, rsI ([])] (.cons (.refl _) (.cons (.whole (sz := 4) (es' := List.map rdR ([])) rfl (fun _ _ h => by cases h) rfl (.refl _)) .nil)) ?_
    refine CallP.pure c1 ?_
    (repeat ((conv => whnf); refine And.intro rfl ?_)); conv => whnf
    refine CallP.pure d1 ?_
    (repeat ((conv => whnf); refine And.intro rfl ?_)); conv => whnf
    rw [same10]
    repeat' ((conv => whnf); first | (refine condP.ne (fun h => absurd rfl h) (fun _ => ?_)) | (first | refine condP.dec (fun h => ?_) (fun h => ?_) | refine condP.eq (fun h => ?_) (fun h => ?_) | refine condP.ne (fun h => ?_) (fun h => ?_)) | (refine .i64 (by omega) (by omega) ?_) | (refine onSome.intro (idx_fs rfl rfl (by omega) (by omega) (fun _ => rfl)) ?_) | (refine onSome.intro (load_fs rfl (by omega) (by omega) rfl) ?_) | (refine And.intro rfl ?_))
    refine loop_step ?_
    repeat' ((conv => whnf); first | (refine .none rfl rfl rfl ?_) | (refine .full (es := []) (es' := List.map rdR _) (r := List.map rdR _) rfl rfl rfl rfl (by simp) rdz rdok rfl rfl (by simp only [List.length_map, List.length_append, List.length_cons, List.length_nil] at *; omega) ?_) | (first | refine condP.dec (fun h => ?_) (fun h => ?_) | refine condP.eq (fun h => ?_) (fun h => ?_) | refine condP.ne (fun h => ?_) (fun h => ?_)) | (refine .i64 (by omega) (by omega) ?_) | (refine onSome.intro (idx_fs rfl rfl (by omega) (by omega) (fun _ => rfl)) ?_) | (refine onSome.intro (load_fs rfl (by omega) (by omega) rfl) ?_) | (refine And.intro rfl ?_))
    conv => whnf
    refine CallP.frz [11] rfl [Lw.I L, rsI ((o :: so))] (.cons (.refl _) (.cons (.whole (sz := 4) (es' := List.map rdR ((o :: so))) rfl (fun _ _ h => by cases h) rfl (.refl _)) .nil)) ?_
    refine CallP.pure c2 ?_
    (repeat ((conv => whnf); refine And.intro rfl ?_)); conv => whnf
    refine CallP.pure d2 ?_
    (repeat ((conv => whnf); refine And.intro rfl ?_)); conv => whnf
    rw [same10]
    repeat' ((conv => whnf); first | (refine condP.ne (fun h => absurd rfl h) (fun _ => ?_)) | (first | refine condP.dec (fun h => ?_) (fun h => ?_) | refine condP.eq (fun h => ?_) (fun h => ?_) | refine condP.ne (fun h => ?_) (fun h => ?_)) | (refine .i64 (by omega) (by omega) ?_) | (refine onSome.intro (idx_fs rfl rfl (by omega) (by omega) (fun _ => rfl)) ?_) | (refine onSome.intro (load_fs rfl (by omega) (by omega) rfl) ?_) | (refine And.intro rfl ?_))
    refine loop_step ?_
    repeat' ((conv => whnf); first | (refine .none rfl rfl rfl ?_) | (refine .full (es := []) (es' := List.map rdR _) (r := List.map rdR _) rfl rfl rfl rfl (by simp) rdz rdok rfl rfl (by simp only [List.length_map, List.length_append, List.length_cons, List.length_nil] at *; omega) ?_) | (first | refine condP.dec (fun h => ?_) (fun h => ?_) | refine condP.eq (fun h => ?_) (fun h => ?_) | refine condP.ne (fun h => ?_) (fun h => ?_)) | (refine .i64 (by omega) (by omega) ?_) | (refine onSome.intro (idx_fs rfl rfl (by omega) (by omega) (fun _ => rfl)) ?_) | (refine onSome.intro (load_fs rfl (by omega) (by omega) rfl) ?_) | (refine And.intro rfl ?_))
    conv => whnf
    refine CallP.frz [15] rfl [Lw.I L, rsI ((o :: so))] (.cons (.refl _) (.cons (.whole (sz := 4) (es' := List.map rdR ((o :: so))) rfl (fun _ _ h => by cases h) rfl (.refl _)) .nil)) ?_
    refine CallP.pure c3 ?_
    (repeat ((conv => whnf); refine And.intro rfl ?_)); conv => whnf
    refine CallP.pure d3 ?_
    (repeat ((conv => whnf); refine And.intro rfl ?_)); conv => whnf
    rw [same10]
    repeat' ((conv => whnf); first | (refine condP.ne (fun h => absurd rfl h) (fun _ => ?_)) | (first | refine condP.dec (fun h => ?_) (fun h => ?_) | refine condP.eq (fun h => ?_) (fun h => ?_) | refine condP.ne (fun h => ?_) (fun h => ?_)) | (refine .i64 (by omega) (by omega) ?_) | (refine onSome.intro (idx_fs rfl rfl (by omega) (by omega) (fun _ => rfl)) ?_) | (refine onSome.intro (load_fs rfl (by omega) (by omega) rfl) ?_) | (refine And.intro rfl ?_))
    refine loop_step ?_
    repeat' ((conv => whnf); first | (refine .none rfl rfl rfl ?_) | (refine .full (es := []) (es' := List.map rdR _) (r := List.map rdR _) rfl rfl rfl rfl (by simp) rdz rdok rfl rfl (by simp only [List.length_map, List.length_append, List.length_cons, List.length_nil] at *; omega) ?_) | (first | refine condP.dec (fun h => ?_) (fun h => ?_) | refine condP.eq (fun h => ?_) (fun h => ?_) | refine condP.ne (fun h => ?_) (fun h => ?_)) | (refine .i64 (by omega) (by omega) ?_) | (refine onSome.intro (idx_fs rfl rfl (by omega) (by omega) (fun _ => rfl)) ?_) | (refine onSome.intro (load_fs rfl (by omega) (by omega) rfl) ?_) | (refine And.intro rfl ?_))
    conv => whnf
    refine CallP.frz [18] rfl [Lw.I L, rsI ([])] (.cons (.refl _) (.cons (.whole (sz := 4) (es' := List.map rdR ([])) rfl (fun _ _ h => by cases h) rfl (.refl _)) .nil)) ?_
    refine CallP.pure c4 ?_
    (repeat ((conv => whnf); refine And.intro rfl ?_)); conv => whnf
    refine CallP.pure d4 ?_
    (repeat ((conv => whnf); refine And.intro rfl ?_)); conv => whnf
    rw [same10]
    repeat' ((conv => whnf); first | (refine condP.ne (fun h => absurd rfl h) (fun _ => ?_)) | (first | refine condP.dec (fun h => ?_) (fun h => ?_) | refine condP.eq (fun h => ?_) (fun h => ?_) | refine condP.ne (fun h => ?_) (fun h => ?_)) | (refine .i64 (by omega) (by omega) ?_) | (refine onSome.intro (idx_fs rfl rfl (by omega) (by omega) (fun _ => rfl)) ?_) | (refine onSome.intro (load_fs rfl (by omega) (by omega) rfl) ?_) | (refine And.intro rfl ?_))
    refine loop_step ?_
    repeat' ((conv => whnf); first | (refine CallP.pure awake_ok ?_) | (first | refine condP.dec (fun h => ?_) (fun h => ?_) | refine condP.eq (fun h => ?_) (fun h => ?_) | refine condP.ne (fun h => ?_) (fun h => ?_)) | (refine .i64 (by omega) (by omega) ?_) | (refine onSome.intro (idx_fs rfl rfl (by omega) (by omega) (fun _ => rfl)) ?_) | (refine onSome.intro (load_fs rfl (by omega) (by omega) rfl) ?_) | (refine And.intro rfl ?_))
    conv => whnf
    exact .intro (.bool true) (.inl rfl) rfl (.refl _)
  · repeat' ((conv => whnf); first | (refine CallP.new ks ?_) | (refine CallP.one (fun H hb => k1 H _ hb) rfl ?_) | (refine CallP.one (fun H hb => k2 H _ hb) rfl ?_) | (refine CallP.one (fun H hb => k3 H _ hb) rfl ?_) | (refine .none rfl rfl rfl ?_) | (refine .full (es := []) (es' := List.map rdR _) (r := List.map rdR _) rfl rfl rfl rfl (by simp) rdz rdok rfl rfl (by simp only [List.length_map, List.length_append, List.length_cons, List.length_nil] at *; omega) ?_) | (refine .grow (es := List.map rdR _) (es' := List.map rdR _) (r := List.map rdR (_ ++ _)) rfl rfl rfl rfl (by simp) rdz rdok (List.map_append ..).symm rfl (by simp only [List.length_map, List.length_append]; omega) ?_) | (first | refine condP.dec (fun h => ?_) (fun h => ?_) | refine condP.eq (fun h => ?_) (fun h => ?_) | refine condP.ne (fun h => ?_) (fun h => ?_)) | (refine .i64 (by omega) (by omega) ?_) | (refine onSome.intro (idx_fs rfl rfl (by omega) (by omega) (fun _ => rfl)) ?_) | (refine onSome.intro (load_fs rfl (by omega) (by omega) rfl) ?_) | (refine And.intro rfl ?_))
    conv => whnf
    refine .start [5, 6, 7] [(10, .fslice (List.map lwR [⟨p0, p1, g0, g1, s0, s1, f0, f1, q0, q1⟩, L, L, L])), (11, .fslice (List.map rsR [(r0 :: rs), (o :: so), (o :: so) ++ (r0 :: rs), (r0 :: rs)])), (12, .int .i64 0)] rfl
      ⟨.whole (sz := 10) (es' := List.map lwR [⟨p0, p1, g0, g1, s0, s1, f0, f1, q0, q1⟩, L, L, L]) rfl (fun _ _ h => by cases h) rfl (.refl _), .whole (sz := 1) (es' := List.map rsR [(r0 :: rs), (o :: so), (o :: so) ++ (r0 :: rs), (r0 :: rs)]) rfl (fun _ _ h => by cases h) rfl (.cons (.refl _) (.cons (.refl _) (.cons (.cons (.whole (sz := 4) (es' := List.map rdR ((o :: so) ++ (r0 :: rs))) rfl (fun _ _ h => by cases h) rfl (.refl _)) .nil) (.cons (.refl _) .nil)))), .refl _, trivial⟩ ?_
    conv => whnf
    refine loop_step ?_
    repeat' ((conv => whnf); first | (refine .none rfl rfl rfl ?_) | (refine .full (es := []) (es' := List.map rdR _) (r := List.map rdR _) rfl rfl rfl rfl (by simp) rdz rdok rfl rfl (by simp only [List.length_map, List.length_append, List.length_cons, List.length_nil] at *; omega) ?_) | (first | refine condP.dec (fun h => ?_) (fun h => ?_) | refine condP.eq (fun h => ?_) (fun h => ?_) | refine condP.ne (fun h => ?_) (fun h => ?_)) | (refine .i64 (by omega) (by omega) ?_) | (refine onSome.intro (idx_fs rfl rfl (by omega) (by omega) (fun _ => rfl)) ?_) | (refine onSome.intro (load_fs rfl (by omega) (by omega) rfl) ?_) | (refine And.intro rfl ?_))
    conv => whnf
    refine CallP.frz [9] rfl [Lw.I ⟨p0, p1, g0, g1, s0, s1, f0, f1, q0, q1⟩, rsI ((r0 :: rs))] (.cons (.refl _) (.cons (.whole (sz := 4) (es' := List.map rdR ((r0 :: rs))) rfl (fun _ _ h => by cases h) rfl (.refl _)) .nil)) ?_
    refine CallP.pure c1 ?_
    (repeat ((conv => whnf); refine And.intro rfl ?_)); conv => whnf
    refine CallP.pure d1 ?_
    (repeat ((conv => whnf); refine And.intro rfl ?_)); conv => whnf
    rw [same10]
    repeat' ((conv => whnf); first | (refine condP.ne (fun h => absurd rfl h) (fun _ => ?_)) | (first | refine condP.dec (fun h => ?_) (fun h => ?_) | refine condP.eq (fun h => ?_) (fun h => ?_) | refine condP.ne (fun h => ?_) (fun h => ?_)) | (refine .i64 (by omega) (by omega) ?_) | (refine onSome.intro (idx_fs rfl rfl (by omega) (by omega) (fun _ => rfl)) ?_) | (refine onSome.intro (load_fs rfl (by omega) (by omega) rfl) ?_) | (refine And.intro rfl ?_))
    refine loop_step ?_
    repeat' ((conv => whnf); first | (refine .none rfl rfl rfl ?_) | (refine .full (es := []) (es' := List.map rdR _) (r := List.map rdR _) rfl rfl rfl rfl (by simp) rdz rdok rfl rfl (by simp only [List.length_map, List.length_append, List.length_cons, List.length_nil] at *; omega) ?_) | (first | refine condP.dec (fun h => ?_) (fun h => ?_) | refine condP.eq (fun h => ?_) (fun h => ?_) | refine condP.ne (fun h => ?_) (fun h => ?_)) | (refine .i64 (by omega) (by omega) ?_) | (refine onSome.intro (idx_fs rfl rfl (by omega) (by omega) (fun _ => rfl)) ?_) | (refine onSome.intro (load_fs rfl (by omega) (by omega) rfl) ?_) | (refine And.intro rfl ?_))
    conv => whnf
    refine CallP.frz [13] rfl [Lw.I L, rsI ((o :: so))] (.cons (.refl _) (.cons (.whole (sz := 4) (es' := List.map rdR ((o :: so))) rfl (fun _ _ h => by cases h) rfl (.refl _)) .nil)) ?_
    refine CallP.pure c2 ?_
    (repeat ((conv => whnf); refine And.intro rfl ?_)); conv => whnf
    refine CallP.pure d2 ?_
    (repeat ((conv => whnf); refine And.intro rfl ?_)); conv => whnf
    rw [same10]
    repeat' ((conv => whnf); first | (refine condP.ne (fun h => absurd rfl h) (fun _ => ?_)) | (first | refine condP.dec (fun h => ?_) (fun h => ?_) | refine condP.eq (fun h => ?_) (fun h => ?_) | refine condP.ne (fun h => ?_) (fun h => ?_)) | (refine .i64 (by omega) (by omega) ?_) | (refine onSome.intro (idx_fs rfl rfl (by omega) (by omega) (fun _ => rfl)) ?_) | (refine onSome.intro (load_fs rfl (by omega) (by omega) rfl) ?_) | (refine And.intro rfl ?_))
    refine loop_step ?_
    repeat' ((conv => whnf); first | (refine .none rfl rfl rfl ?_) | (refine .full (es := []) (es' := List.map rdR _) (r := List.map rdR _) rfl rfl rfl rfl (by simp) rdz rdok rfl rfl (by simp only [List.length_map, List.length_append, List.length_cons, List.length_nil] at *; omega) ?_) | (first | refine condP.dec (fun h => ?_) (fun h => ?_) | refine condP.eq (fun h => ?_) (fun h => ?_) | refine condP.ne (fun h => ?_) (fun h => ?_)) | (refine .i64 (by omega) (by omega) ?_) | (refine onSome.intro (idx_fs rfl rfl (by omega) (by omega) (fun _ => rfl)) ?_) | (refine onSome.intro (load_fs rfl (by omega) (by omega) rfl) ?_) | (refine And.intro rfl ?_))
    conv => whnf
    refine CallP.frz [17] rfl [Lw.I L, rsI ((o :: so) ++ (r0 :: rs))] (.cons (.refl _) (.cons (.whole (sz := 4) (es' := List.map rdR ((o :: so) ++ (r0 :: rs))) rfl (fun _ _ h => by cases h) rfl (.refl _)) .nil)) ?_
    refine CallP.pure c3 ?_
    (repeat ((conv => whnf); refine And.intro rfl ?_)); conv => whnf
    refine CallP.pure d3 ?_
    (repeat ((conv => whnf); refine And.intro rfl ?_)); conv => whnf
    rw [same10]
    repeat' ((conv => whnf); first | (refine condP.ne (fun h => absurd rfl h) (fun _ => ?_)) | (first | refine condP.dec (fun h => ?_) (fun h => ?_) | refine condP.eq (fun h => ?_) (fun h => ?_) | refine condP.ne (fun h => ?_) (fun h => ?_)) | (refine .i64 (by omega) (by omega) ?_) | (refine onSome.intro (idx_fs rfl rfl (by omega) (by omega) (fun _ => rfl)) ?_) | (refine onSome.intro (load_fs rfl (by omega) (by omega) rfl) ?_) | (refine And.intro rfl ?_))
    refine loop_step ?_
    repeat' ((conv => whnf); first | (refine .none rfl rfl rfl ?_) | (refine .full (es := []) (es' := List.map rdR _) (r := List.map rdR _) rfl rfl rfl rfl (by simp) rdz rdok rfl rfl (by simp only [List.length_map, List.length_append, List.length_cons, List.length_nil] at *; omega) ?_) | (first | refine condP.dec (fun h => ?_) (fun h => ?_) | refine condP.eq (fun h => ?_) (fun h => ?_) | refine condP.ne (fun h => ?_) (fun h => ?_)) | (refine .i64 (by omega) (by omega) ?_) | (refine onSome.intro (idx_fs rfl rfl (by omega) (by omega) (fun _ => rfl)) ?_) | (refine onSome.intro (load_fs rfl (by omega) (by omega) rfl) ?_) | (refine And.intro rfl ?_))
    conv => whnf
    refine CallP.frz [21] rfl [Lw.I L, rsI ((r0 :: rs))] (.cons (.refl _) (.cons (.whole (sz := 4) (es' := List.map rdR ((r0 :: rs))) rfl (fun _ _ h => by cases h) rfl (.refl _)) .nil)) ?_
    refine CallP.pure c4 ?_
    (repeat ((conv => whnf); refine And.intro rfl ?_)); conv => whnf
    refine CallP.pure d4 ?_
    (repeat ((conv => whnf); refine And.intro rfl ?_)); conv => whnf
    rw [same10]
    repeat' ((conv => whnf); first | (refine condP.ne (fun h => absurd rfl h) (fun _ => ?_)) | (first | refine condP.dec (fun h => ?_) (fun h => ?_) | refine condP.eq (fun h => ?_) (fun h => ?_) | refine condP.ne (fun h => ?_) (fun h => ?_)) | (refine .i64 (by omega) (by omega) ?_) | (refine onSome.intro (idx_fs rfl rfl (by omega) (by omega) (fun _ => rfl)) ?_) | (refine onSome.intro (load_fs rfl (by omega) (by omega) rfl) ?_) | (refine And.intro rfl ?_))
    refine loop_step ?_
    repeat' ((conv => whnf); first | (refine CallP.pure awake_ok ?_) | (first | refine condP.dec (fun h => ?_) (fun h => ?_) | refine condP.eq (fun h => ?_) (fun h => ?_) | refine condP.ne (fun h => ?_) (fun h => ?_)) | (refine .i64 (by omega) (by omega) ?_) | (refine onSome.intro (idx_fs rfl rfl (by omega) (by omega) (fun _ => rfl)) ?_) | (refine onSome.intro (load_fs rfl (by omega) (by omega) rfl) ?_) | (refine And.intro rfl ?_))
    conv => whnf
    exact .intro (.bool true) (.inl rfl) rfl (.refl _)
end Go.Proofs.Ytbomgfbfnkfamaa.I
