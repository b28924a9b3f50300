/- CurveNarrowed: no law that agrees is lost. -/
import Derived.Test.YtbomgfbfnkfamaaKnarcut
import Derived.Test.YtbomgfbfnkfamaaKmod
import Derived.Test.YtbomgfbfnkfamaaKawake
set_option linter.unusedVariables false
set_option maxHeartbeats 16000000
set_option linter.unusedSimpArgs false
namespace Go.Proofs.Ytbomgfbfnkfamaa.I
open Go.Ideal

theorem inLaw_ok {A B : Lw} (h : LwIn A B) (H : Heap) : Ev T (.call (.func (.func 48) [] []) [A.I, B.I] H) (.call (.bool true) H) := by
  refine run_pure T48 (.bool _) (nn_cons A.I_no (nn_cons B.I_no nn_none)) ?_ H
  obtain ⟨a, b, c, d, e⟩ := h
  have k1 := Within_ok A.p0 A.p1 B.p0 B.p1
  have k2 := Within_ok A.g0 A.g1 B.g0 B.g1
  have k3 := Within_ok A.s0 A.s1 B.s0 B.s1
  have k4 := Within_ok A.f0 A.f1 B.f0 B.f1
  have k5 := Within_ok A.q0 A.q1 B.q0 B.q1
  rw [decide_eq_true (by omega)] at k1 k2 k3 k4 k5
  repeat' ((conv => whnf); first | (refine CallP.pure k1 ?_) | (refine CallP.pure k2 ?_) | (refine CallP.pure k3 ?_) | (refine CallP.pure k4 ?_) | (refine CallP.pure k5 ?_) | (first | refine condP.dec (fun h => ?_) (fun h => ?_) | refine condP.eq (fun h => ?_) (fun h => ?_) | refine condP.ne (fun h => ?_) (fun h => ?_)) | (refine .i64 (by omega) (by omega) ?_) | (refine onSome.intro (idx_fs rfl rfl (by omega) (by omega) (fun _ => rfl)) ?_) | (refine onSome.intro (load_fs rfl (by omega) (by omega) rfl) ?_) | (refine And.intro rfl ?_))
  conv => whnf
  exact .intro (.bool true) (.inl rfl) rfl (.refl _)
theorem Meet_ok (a b c d : Int) (H : Heap) : Ev T (.call (.func (.func 49) [] []) [rgI a b, rgI c d] H) (.call (.bool (decide (a ≤ d ∧ c ≤ b))) H) := by
  refine run_pure T49 (.bool _) (nn_cons (rgI_no _ _) (nn_cons (rgI_no _ _) nn_none)) ?_ H
  repeat' ((conv => whnf); first | (first | refine condP.dec (fun h => ?_) (fun h => ?_) | refine condP.eq (fun h => ?_) (fun h => ?_) | refine condP.ne (fun h => ?_) (fun h => ?_)) | (refine .i64 (by omega) (by omega) ?_) | (refine onSome.intro (idx_fs rfl rfl (by omega) (by omega) (fun _ => rfl)) ?_) | (refine onSome.intro (load_fs rfl (by omega) (by omega) rfl) ?_) | (refine And.intro rfl ?_))
  all_goals conv => whnf
  all_goals first
    | exact .intro (.bool true) (.inl rfl) rfl (frz_bool (decide_eq_true (by omega)).symm)
    | exact .intro (.bool false) (.inl rfl) rfl (frz_bool (decide_eq_false (by omega)).symm)
theorem rdE_in {M : Lw} {l : List Rd} (h : ∀ r ∈ l, ReadIn M r) : firstErr (rdE l) l.length = 0 := by
  refine firstErr_zero.mpr fun i hi => ?_
  have hm : rdOf l i ∈ l := by
    unfold rdOf at'
    rw [List.getD_eq_getElem?_getD, show ((i : Int)).toNat = i by omega, List.getElem?_eq_getElem hi, Option.getD_some]
    exact List.getElem_mem hi
  obtain ⟨a, b, c⟩ := h _ hm
  unfold rdE
  rw [if_pos a, if_neg (by omega)]
theorem Narrow_in {L M : Lw} {l : List Rd} (hL : L.Ok) (hi : AloneIn L M) (hl : l.length ≤ 5) (h : ∀ r ∈ l, ReadIn M r) : ∃ L' : Lw, L'.Ok ∧ AloneIn L' M ∧ LwIn L' L ∧ narAll L l = some L' ∧
    ∀ H, Ev T (.call (.func (.func 46) [] []) [L.I, rsI l] H) (.call (.tuple [L'.I, .int .i64 0]) H) := by
  have hM := hi.ok hL
  obtain ⟨L', e, o, i, w⟩ := keepAll l hL (fun r hr => (h r hr).volts) hi (fun r hr => by
    obtain ⟨a, b, c⟩ := h r hr
    have := cLo_le_cHi (grid := r.v) (plate := r.w) hM a.2.2.1
    exact ⟨c, by omega⟩)
  refine ⟨L', o, i, w, e, fun H => ?_⟩
  have k := Narrow_ok L l (by omega) H
  have he : L.err = 0 := lawErr_zero.mpr hL
  unfold narRes at k
  rw [he, if_neg (by simp), if_neg (by omega), rdE_in h, if_neg (by simp), e] at k
  exact k
theorem chkS1 {S : Nat → Prop} {s : Int} {l : List Slot} (h : chkS S l) : chkS S (S1 s :: l) := by
  refine ⟨fun j k hj hk => ?_, h⟩
  exact (S1_no s _ (List.getElem_mem hj) _ (List.getElem_mem hk)).inn _
theorem CurveNarrowed_ok (l : List Int) (hl : l.length ≤ 9223372036854775807) (H : Heap) : Ev T (.call (.func (.func 10) [] []) [sl l] H) (.call (.bool true) H) := by
  refine run_pure T10 (.bool _) (nn_cons (sl_no _) nn_none) ?_ H
  obtain ⟨s, ks⟩ := NewDice_ok l hl
  obtain ⟨p0', p1', g0', g1', s0', s1', f0', f1', q0', q1', t1, ok, k1⟩ := LawOf_ok s
  have hL : ∃ L : Lw, L = ⟨p0', p1', g0', g1', s0', s1', f0', f1', q0', q1'⟩ := ⟨_, rfl⟩
  obtain ⟨L, hL⟩ := hL
  have okL : L.Ok := by rw [hL]; exact ok
  have k1 : ∀ (H : Heap) (n : Nat), H n = S1 s → Ev T (.call (.func (.func 25) [] []) [.ptr n 0 0] H) (.call L.I (H.set n (S1 t1))) := by rw [hL]; exact k1
  clear hL ok
  obtain ⟨M, t2, ins, k2⟩ := WithinLaw_ok t1 L okL
  obtain ⟨so, t3, hso, hin, k3⟩ := ReadsOf_ok t2 M (ins.ok okL)
  obtain ⟨O, t4, ino, k4⟩ := WithinLaw_ok t3 L okL
  obtain ⟨L', okL', inM, w, eL, kn⟩ := Narrow_in okL ins hso hin
  have i1 := inLaw_ok w
  have i2 := inLaw_ok inM.lw
  have len : (so.map rdR).length = so.length := List.length_map ..
  repeat' ((conv => whnf); first | (refine CallP.new ks ?_) | (refine CallP.one (fun H hb => k1 H _ hb) rfl ?_) | (refine CallP.one (fun H hb => k2 H _ hb) rfl ?_) | (refine CallP.one (fun H hb => k3 H _ hb) rfl ?_) | (refine CallP.pure kn ?_) | (refine CallP.pure i1 ?_) | (refine CallP.pure i2 ?_) | (refine CallP.one (fun H hb => k4 H _ hb) rfl ?_) | (first | refine condP.dec (fun h => ?_) (fun h => ?_) | refine condP.eq (fun h => ?_) (fun h => ?_) | refine condP.ne (fun h => ?_) (fun h => ?_)) | (refine .i64 (by omega) (by omega) ?_) | (refine onSome.intro (idx_fs rfl rfl (by omega) (by omega) (fun _ => rfl)) ?_) | (refine onSome.intro (load_fs rfl (by omega) (by omega) rfl) ?_) | (refine And.intro rfl ?_))
  conv => whnf
  have hO := ino.ok okL
  refine loop_rule (X := Nat) (fun i => [(6, rsI so), (7, .ptr 3 0 0), (9, .ptr 4 0 0), (10, .int .i64 i)]) (fun _ => [S1 t4, L.S, M.S, L'.S, O.S]) (fun i => so.length - i)
    (fun i => i ≤ so.length ∧ ∀ j, j < i → Agrees O (rdOf so j)) 0 ⟨Nat.zero_le _, fun j hj => by omega⟩ ⟨rfl, rfl, rfl, rfl, trivial⟩ rfl (fun _ _ => rfl) (fun i hi => ?_)
  obtain ⟨hi, hag⟩ := hi
  have memr : ∀ j, j < so.length → rdOf so j ∈ so := fun j hj => by
    unfold rdOf at'
    rw [List.getD_eq_getElem?_getD, show ((j : Int)).toNat = j by omega, List.getElem?_eq_getElem hj, Option.getD_some]
    exact List.getElem_mem hj
  conv => whnf
  refine condP.dec (fun hlt => ?_) (fun hlt => ?_)
  · have hv := (hin _ (memr i (by omega))).volts
    have hrd : at' so (i : Int) = rdOf so i := rfl
    have kc := Current_ok O.p0 O.p1 O.g0 O.g1 O.s0 O.s1 O.f0 O.f1 O.q0 O.q1 (rdOf so i).v (rdOf so i).w
    have he : askErr O.p0 O.p1 O.g0 O.g1 O.s0 O.s1 O.f0 O.f1 O.q0 O.q1 (rdOf so i).v (rdOf so i).w = 0 := by
      unfold askErr
      rw [lawErr_zero.mpr hO, if_neg (by simp), if_pos hv]
    rw [he, orErr, if_pos rfl] at kc
    have hA : Agrees O (rdOf so i) ↔ (cLo O.p0 O.g1 O.s0 O.f0 O.q0 (rdOf so i).v (rdOf so i).w ≤ (rdOf so i).d ∧ (rdOf so i).c ≤ cHi O.p1 O.g0 O.s1 O.f1 O.q1 (rdOf so i).v (rdOf so i).w) := Iff.rfl
    generalize cLo O.p0 O.g1 O.s0 O.f0 O.q0 (rdOf so i).v (rdOf so i).w = x at *
    generalize cHi O.p1 O.g0 O.s1 O.f1 O.q1 (rdOf so i).v (rdOf so i).w = y at *
    rw [← hrd] at kc hA
    have km := Meet_ok x y (at' so (i : Int)).c (at' so (i : Int)).d
    repeat' ((conv => whnf); first | (refine condP.dec (fun _ => ?_) (fun h => absurd (by omega) h)) | (refine .i64 (by omega) (by omega) ?_) | (refine onSome.intro (idx_fs rfl rfl (by omega) (by omega) (fun _ => rfl)) ?_) | (refine onSome.intro (load_fs rfl (by omega) (by omega) rfl) ?_) | (refine onSome.intro (idx_ms rfl rfl rfl (by omega) (by omega)) ?_) | (refine onSome.intro (load_ms rfl rfl (by omega) (by omega) rfl) ?_) | (refine And.intro rfl ?_) | (refine And.intro (load_fs rfl (by omega) (by omega) rfl) ?_) | (refine And.intro (idx_fs rfl rfl (by omega) (by omega) (fun _ => rfl)) ?_) | (refine And.intro (load_ms rfl rfl (by omega) (by omega) rfl) ?_) | (refine And.intro (idx_ms rfl rfl rfl (by omega) (by omega)) ?_))
    refine CallP.pure kc ?_
    repeat' ((conv => whnf); first | (refine condP.dec (fun _ => ?_) (fun h => absurd (by omega) h)) | (refine .i64 (by omega) (by omega) ?_) | (refine onSome.intro (idx_fs rfl rfl (by omega) (by omega) (fun _ => rfl)) ?_) | (refine onSome.intro (load_fs rfl (by omega) (by omega) rfl) ?_) | (refine onSome.intro (idx_ms rfl rfl rfl (by omega) (by omega)) ?_) | (refine onSome.intro (load_ms rfl rfl (by omega) (by omega) rfl) ?_) | (refine And.intro rfl ?_) | (refine And.intro (load_fs rfl (by omega) (by omega) rfl) ?_) | (refine And.intro (idx_fs rfl rfl (by omega) (by omega) (fun _ => rfl)) ?_) | (refine And.intro (load_ms rfl rfl (by omega) (by omega) rfl) ?_) | (refine And.intro (idx_ms rfl rfl rfl (by omega) (by omega)) ?_))
    refine CallP.dec km (fun hm => ?_) (fun hm => ?_)
    · repeat' ((conv => whnf); first | (first | refine condP.dec (fun h => ?_) (fun h => ?_) | refine condP.eq (fun h => ?_) (fun h => ?_) | refine condP.ne (fun h => ?_) (fun h => ?_)) | (refine .i64 (by omega) (by omega) ?_) | (refine onSome.intro (idx_fs rfl rfl (by omega) (by omega) (fun _ => rfl)) ?_) | (refine onSome.intro (load_fs rfl (by omega) (by omega) rfl) ?_) | (refine And.intro rfl ?_))
      conv => whnf
      refine .more (i + 1) rfl ⟨by omega, fun j hj => ?_⟩ (by omega) ⟨rfl, rfl, rfl, rfl, trivial⟩ rfl ⟨(rsI_no _).inn _, .ptr _ _ _ (by simp), .ptr _ _ _ (by simp), .int _ _, trivial⟩
        (chkS1 (S_chk _ (S_chk _ (S_chk _ (S_chk _ trivial)))))
      rcases Nat.lt_or_ge j i with c | c
      · exact hag j c
      · obtain rfl : j = i := by omega
        exact hA.mpr hm
    · repeat' ((conv => whnf); first | (refine CallP.pure awake_ok ?_) | (first | refine condP.dec (fun h => ?_) (fun h => ?_) | refine condP.eq (fun h => ?_) (fun h => ?_) | refine condP.ne (fun h => ?_) (fun h => ?_)) | (refine .i64 (by omega) (by omega) ?_) | (refine onSome.intro (idx_fs rfl rfl (by omega) (by omega) (fun _ => rfl)) ?_) | (refine onSome.intro (load_fs rfl (by omega) (by omega) rfl) ?_) | (refine And.intro rfl ?_))
      refine .done (by simp) ?_
      conv => whnf
      exact .intro (.bool true) (.inl rfl) rfl (.refl _)
  obtain rfl : i = so.length := by omega
  obtain ⟨L'', e'', _, in'', _⟩ := keepAll so okL (fun r hr => (hin r hr).volts) ino (fun r hr => by
    obtain ⟨j, hj, e⟩ := List.getElem_of_mem hr
    have := hag j hj
    unfold rdOf at' at this
    rw [List.getD_eq_getElem?_getD, show ((j : Int)).toNat = j by omega, List.getElem?_eq_getElem hj, Option.getD_some, e] at this
    exact this)
  obtain rfl : L' = L'' := by rw [eL] at e''; exact Option.some.inj e''
  have i3 := inLaw_ok in''.lw
  conv => whnf
  refine .done (by simp) ?_
  repeat' ((conv => whnf); first | (refine CallP.pure i3 ?_) | (refine CallP.pure awake_ok ?_) | (first | refine condP.dec (fun h => ?_) (fun h => ?_) | refine condP.eq (fun h => ?_) (fun h => ?_) | refine condP.ne (fun h => ?_) (fun h => ?_)) | (refine .i64 (by omega) (by omega) ?_) | (refine onSome.intro (idx_fs rfl rfl (by omega) (by omega) (fun _ => rfl)) ?_) | (refine onSome.intro (load_fs rfl (by omega) (by omega) rfl) ?_) | (refine And.intro rfl ?_))
  conv => whnf
  exact .intro (.bool true) (.inl rfl) rfl (.refl _)
end Go.Proofs.Ytbomgfbfnkfamaa.I
