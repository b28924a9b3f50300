/- Narrow, of the reference (printed by tools/mknarr.py). -/
import Derived.Test.YtbomgfbfnkfamaaKnarw
set_option linter.unusedVariables false
set_option maxHeartbeats 16000000
set_option linter.unusedSimpArgs false
namespace Go.Proofs.Ytbomgfbfnkfamaa.I
open Go.Ideal

theorem rNarrow_ok (L : Lw) (l : List Rd) (hl : l.length ≤ 9000000000000000000) (H : Heap) : Ev T (.call (.func (.func 47) [] []) [L.I, rsI l] H) (.call (narRes L l) H) := by
  refine run_pure T47 (narRes_no ..) (nn_cons L.I_no (nn_cons (rsI_no _) nn_none)) ?_ H
  have hC := rCheckLaw_ok L.p0 L.p1 L.g0 L.g1 L.s0 L.s1 L.f0 L.f1 L.q0 L.q1
  have hz : L.err = 0 ↔ L.Ok := lawErr_zero
  have e1 : (l.map rdR).length = l.length := List.length_map ..
  have hr : ∃ r, r = narRes L l := ⟨_, rfl⟩
  obtain ⟨r, hr⟩ := hr
  rw [← hr]
  unfold narRes at hr
  have he : ∃ e, e = L.err := ⟨_, rfl⟩
  obtain ⟨e, he⟩ := he
  rw [← he] at hr hz
  unfold Lw.err at he
  rw [← he] at hC
  conv => whnf
  refine CallP.pure hC ?_
  conv => whnf
  refine condP.ne (fun h => ?_) (fun h => ?_)
  · rw [if_pos h] at hr
    conv => whnf
    exact .intro (badI e) (.inl rfl) rfl (frz_eq hr.symm)
  rw [if_neg (by simpa using h)] at hr
  have ok := hz.mp h
  conv => whnf
  refine condP.dec (fun h => ?_) (fun h => ?_)
  · rw [if_pos (by omega)] at hr
    conv => whnf
    exact .intro (badI 8) (.inl rfl) rfl (frz_eq hr.symm)
  rw [if_neg (by omega)] at hr
  conv => whnf
  refine loop_rule (X := Nat) (fun i => [(1, rsI l), (2, .ptr 0 0 0), (4, .ptr 1 0 0), (5, .int .i64 0), (7, .int .i64 i)]) (fun _ => [L.S, L0.S]) (fun i => l.length - i)
    (fun i => i ≤ l.length ∧ firstErr (rdE l) i = 0) 0 ⟨Nat.zero_le _, rfl⟩ ⟨rfl, rfl, rfl, rfl, rfl, trivial⟩ rfl (fun _ _ => rfl) (fun i hi => ?_)
  obtain ⟨hi, h0⟩ := hi
  conv => whnf
  refine condP.dec (fun hlt => ?_) (fun hlt => ?_)
  · have stop := firstErr_stop (e := rdE l) (n := l.length) h0
    have next := firstErr_succ (e := rdE l) h0
    have hri : at' l (i : Int) = rdOf l i := rfl
    have hrE : rdE l i = if Volts (rdOf l i).v (rdOf l i).w then (if (rdOf l i).d < (rdOf l i).c then 11 else 0) else 2 := rfl
    generalize rdE l i = er at *
    repeat' ((conv => whnf); first | (refine condP.dec (fun _ => ?_) (fun h => absurd (by omega) h)) | (refine .i64 (by omega) (by omega) ?_) | (refine onSome.intro (idx_fs rfl rfl (by omega) (by omega) (fun _ => rfl)) ?_) | (refine onSome.intro (load_fs rfl (by omega) (by omega) rfl) ?_) | (refine onSome.intro (idx_ms rfl rfl rfl (by omega) (by omega)) ?_) | (refine onSome.intro (load_ms rfl rfl (by omega) (by omega) rfl) ?_) | (refine And.intro rfl ?_) | (refine And.intro (load_fs rfl (by omega) (by omega) rfl) ?_) | (refine And.intro (idx_fs rfl rfl (by omega) (by omega) (fun _ => rfl)) ?_) | (refine And.intro (load_ms rfl rfl (by omega) (by omega) rfl) ?_) | (refine And.intro (idx_ms rfl rfl rfl (by omega) (by omega)) ?_))
    refine CallP.dec (right_ok (at' l (i : Int)).v (at' l (i : Int)).w) (fun hv => ?_) (fun hv => ?_)
    rotate_left
    · rw [hri] at hv
      rw [if_neg hv] at hrE
      rw [stop (by omega) (by omega), if_pos (by omega)] at hr
      conv => whnf
      refine .done (by simp) ?_
      conv => whnf
      exact .intro (badI 2) (.inl rfl) rfl (frz_eq (by rw [hr, hrE]))
    rw [hri] at hv
    rw [if_pos hv] at hrE
    repeat' ((conv => whnf); first | (refine condP.dec (fun hc => ?_) (fun hc => ?_)) | (first | refine condP.dec (fun h => ?_) (fun h => ?_) | refine condP.eq (fun h => ?_) (fun h => ?_) | refine condP.ne (fun h => ?_) (fun h => ?_)) | (refine .i64 (by omega) (by omega) ?_) | (refine onSome.intro (idx_fs rfl rfl (by omega) (by omega) (fun _ => rfl)) ?_) | (refine onSome.intro (load_fs rfl (by omega) (by omega) rfl) ?_) | (refine And.intro rfl ?_))
    · rw [hri] at hc
      rw [if_pos hc] at hrE
      rw [stop (by omega) (by omega), if_pos (by omega)] at hr
      conv => whnf
      refine .done (by simp) ?_
      conv => whnf
      exact .intro (badI 11) (.inl rfl) rfl (frz_eq (by rw [hr, hrE]))
    · rw [hri] at hc
      rw [if_neg hc] at hrE
      repeat' ((conv => whnf); first | (first | refine condP.dec (fun h => ?_) (fun h => ?_) | refine condP.eq (fun h => ?_) (fun h => ?_) | refine condP.ne (fun h => ?_) (fun h => ?_)) | (refine .i64 (by omega) (by omega) ?_) | (refine onSome.intro (idx_fs rfl rfl (by omega) (by omega) (fun _ => rfl)) ?_) | (refine onSome.intro (load_fs rfl (by omega) (by omega) rfl) ?_) | (refine And.intro rfl ?_))
      conv => whnf
      exact .more (i + 1) rfl ⟨by omega, next hrE⟩ (by omega) ⟨rfl, rfl, rfl, rfl, rfl, trivial⟩ rfl ⟨(rsI_no _).inn _, .ptr _ _ _ (by simp), .ptr _ _ _ (by simp), .int _ _, .int _ _, trivial⟩ (S_chk _ (S_chk _ trivial))
  obtain rfl : i = l.length := by omega
  rw [if_neg (by omega)] at hr
  have hall := firstErr_zero.mp h0
  conv => whnf
  refine .done (by simp) ?_
  conv => whnf
  refine loop_rule (X := Nat × Lw) (fun x => [(1, rsI l), (2, .ptr 0 0 0), (4, .ptr 1 0 0), (5, .int .i64 0), (8, .int .i64 x.1)]) (fun x => [x.2.S, L0.S]) (fun x => l.length - x.1)
    (fun x => x.1 ≤ l.length ∧ x.2.Ok ∧ narAll x.2 (l.drop x.1) = narAll L l) (0, L) ⟨Nat.zero_le _, ok, rfl⟩ ⟨rfl, rfl, rfl, rfl, rfl, trivial⟩ rfl (fun _ _ => rfl) (fun x hx => ?_)
  obtain ⟨i, M⟩ := x
  obtain ⟨hi, hM, hn⟩ := hx
  dsimp only at hi hM hn ⊢
  rcases Nat.lt_or_ge i l.length with hlt | hge
  rotate_left
  · obtain rfl : i = l.length := by omega
    rw [List.drop_length, narAll] at hn
    rw [← hn, narEnd] at hr
    conv => whnf
    refine condP.dec (fun h => absurd h (by omega)) (fun _ => ?_)
    conv => whnf
    refine .done (by simp) ?_
    conv => whnf
    exact .intro (.tuple [M.I, .int .i64 0]) (.inl rfl) rfl (frz_eq hr.symm)
  have hv := rdE_zero (hall i hlt)
  rw [narAll_drop M hlt] at hn
  unfold nar at hn
  have hrd : at' l (i : Int) = rdOf l i := rfl
  generalize hrx : rdOf l i = rd at *
  repeat' ((conv => whnf); first | (refine condP.dec (fun _ => ?_) (fun h => absurd (by omega) h)) | (first | refine condP.dec (fun h => ?_) (fun h => ?_) | refine condP.eq (fun h => ?_) (fun h => ?_) | refine condP.ne (fun h => ?_) (fun h => ?_)) | (refine .i64 (by omega) (by omega) ?_) | (refine onSome.intro (idx_fs rfl rfl (by omega) (by omega) (fun _ => rfl)) ?_) | (refine onSome.intro (load_fs rfl (by omega) (by omega) rfl) ?_) | (refine And.intro rfl ?_))
  obtain ⟨y0, z0⟩ := nar0_ok hM hv
  refine loop_step ?_
  repeat' ((conv => whnf); first | (refine condP.dec (fun _ => ?_) (fun h => absurd (by omega) h)) | (refine .i64 (by omega) (by omega) ?_) | (refine onSome.intro (idx_fs rfl rfl (by omega) (by omega) (fun _ => rfl)) ?_) | (refine onSome.intro (load_fs rfl (by omega) (by omega) rfl) ?_) | (refine onSome.intro (idx_ms rfl rfl rfl (by omega) (by omega)) ?_) | (refine onSome.intro (load_ms rfl rfl (by omega) (by omega) rfl) ?_) | (refine And.intro rfl ?_) | (refine And.intro (load_fs rfl (by omega) (by omega) rfl) ?_) | (refine And.intro (idx_fs rfl rfl (by omega) (by omega) (fun _ => rfl)) ?_) | (refine And.intro (load_ms rfl rfl (by omega) (by omega) rfl) ?_) | (refine And.intro (idx_ms rfl rfl rfl (by omega) (by omega)) ?_))
  cases hk0 : nar0 M rd with
  | none =>
    rw [hk0] at hn
    rw [← hn] at hr
    obtain ⟨_, az, bz, sz⟩ := z0 hk0
    rw [← hrd] at sz
    refine CallP.pure sz ?_
    repeat' ((conv => whnf); first | (refine condP.dec (fun _ => ?_) (fun h => absurd (by omega) h)) | (refine .i64 (by omega) (by omega) ?_) | (refine onSome.intro (idx_fs rfl rfl (by omega) (by omega) (fun _ => rfl)) ?_) | (refine onSome.intro (load_fs rfl (by omega) (by omega) rfl) ?_) | (refine onSome.intro (idx_ms rfl rfl rfl (by omega) (by omega)) ?_) | (refine onSome.intro (load_ms rfl rfl (by omega) (by omega) rfl) ?_) | (refine And.intro rfl ?_) | (refine And.intro (load_fs rfl (by omega) (by omega) rfl) ?_) | (refine And.intro (idx_fs rfl rfl (by omega) (by omega) (fun _ => rfl)) ?_) | (refine And.intro (load_ms rfl rfl (by omega) (by omega) rfl) ?_) | (refine And.intro (idx_ms rfl rfl rfl (by omega) (by omega)) ?_))
    conv => whnf
    refine .done (by simp) ?_
    conv => whnf
    exact .intro (badI 12) (.inl rfl) rfl (frz_eq hr.symm)
  | some M1 =>
  rw [hk0, Option.bind_some] at hn
  obtain ⟨ok1, _, a0, b0, e0, st0⟩ := y0 M1 hk0
  rw [← hrd] at st0
  have kp0 : ∀ H, Ev T (.call (.func (.func 106) [] []) [M.I, .int .i64 0, rgI a0 b0] H) (.call M1.I H) := by
    rw [e0]
    exact rput0_ok _ _ _ _ _ _ _ _ _ _ a0 b0
  clear y0 z0
  refine CallP.pure st0 ?_
  repeat' ((conv => whnf); first | (refine condP.dec (fun _ => ?_) (fun h => absurd (by omega) h)) | (refine .i64 (by omega) (by omega) ?_) | (refine onSome.intro (idx_fs rfl rfl (by omega) (by omega) (fun _ => rfl)) ?_) | (refine onSome.intro (load_fs rfl (by omega) (by omega) rfl) ?_) | (refine onSome.intro (idx_ms rfl rfl rfl (by omega) (by omega)) ?_) | (refine onSome.intro (load_ms rfl rfl (by omega) (by omega) rfl) ?_) | (refine And.intro rfl ?_) | (refine And.intro (load_fs rfl (by omega) (by omega) rfl) ?_) | (refine And.intro (idx_fs rfl rfl (by omega) (by omega) (fun _ => rfl)) ?_) | (refine And.intro (load_ms rfl rfl (by omega) (by omega) rfl) ?_) | (refine And.intro (idx_ms rfl rfl rfl (by omega) (by omega)) ?_))
  refine CallP.pure kp0 ?_
  repeat' ((conv => whnf); first | (refine condP.dec (fun _ => ?_) (fun h => absurd (by omega) h)) | (refine .i64 (by omega) (by omega) ?_) | (refine onSome.intro (idx_fs rfl rfl (by omega) (by omega) (fun _ => rfl)) ?_) | (refine onSome.intro (load_fs rfl (by omega) (by omega) rfl) ?_) | (refine onSome.intro (idx_ms rfl rfl rfl (by omega) (by omega)) ?_) | (refine onSome.intro (load_ms rfl rfl (by omega) (by omega) rfl) ?_) | (refine And.intro rfl ?_) | (refine And.intro (load_fs rfl (by omega) (by omega) rfl) ?_) | (refine And.intro (idx_fs rfl rfl (by omega) (by omega) (fun _ => rfl)) ?_) | (refine And.intro (load_ms rfl rfl (by omega) (by omega) rfl) ?_) | (refine And.intro (idx_ms rfl rfl rfl (by omega) (by omega)) ?_))
  obtain ⟨y1, z1⟩ := nar1_ok ok1 hv
  refine loop_step ?_
  repeat' ((conv => whnf); first | (refine condP.dec (fun _ => ?_) (fun h => absurd (by omega) h)) | (refine .i64 (by omega) (by omega) ?_) | (refine onSome.intro (idx_fs rfl rfl (by omega) (by omega) (fun _ => rfl)) ?_) | (refine onSome.intro (load_fs rfl (by omega) (by omega) rfl) ?_) | (refine onSome.intro (idx_ms rfl rfl rfl (by omega) (by omega)) ?_) | (refine onSome.intro (load_ms rfl rfl (by omega) (by omega) rfl) ?_) | (refine And.intro rfl ?_) | (refine And.intro (load_fs rfl (by omega) (by omega) rfl) ?_) | (refine And.intro (idx_fs rfl rfl (by omega) (by omega) (fun _ => rfl)) ?_) | (refine And.intro (load_ms rfl rfl (by omega) (by omega) rfl) ?_) | (refine And.intro (idx_ms rfl rfl rfl (by omega) (by omega)) ?_))
  cases hk1 : nar1 M1 rd with
  | none =>
    rw [hk1] at hn
    rw [← hn] at hr
    obtain ⟨_, az, bz, sz⟩ := z1 hk1
    rw [← hrd] at sz
    refine CallP.pure sz ?_
    repeat' ((conv => whnf); first | (refine condP.dec (fun _ => ?_) (fun h => absurd (by omega) h)) | (refine .i64 (by omega) (by omega) ?_) | (refine onSome.intro (idx_fs rfl rfl (by omega) (by omega) (fun _ => rfl)) ?_) | (refine onSome.intro (load_fs rfl (by omega) (by omega) rfl) ?_) | (refine onSome.intro (idx_ms rfl rfl rfl (by omega) (by omega)) ?_) | (refine onSome.intro (load_ms rfl rfl (by omega) (by omega) rfl) ?_) | (refine And.intro rfl ?_) | (refine And.intro (load_fs rfl (by omega) (by omega) rfl) ?_) | (refine And.intro (idx_fs rfl rfl (by omega) (by omega) (fun _ => rfl)) ?_) | (refine And.intro (load_ms rfl rfl (by omega) (by omega) rfl) ?_) | (refine And.intro (idx_ms rfl rfl rfl (by omega) (by omega)) ?_))
    conv => whnf
    refine .done (by simp) ?_
    conv => whnf
    exact .intro (badI 12) (.inl rfl) rfl (frz_eq hr.symm)
  | some M2 =>
  rw [hk1, Option.bind_some] at hn
  obtain ⟨ok2, _, a1, b1, e1, st1⟩ := y1 M2 hk1
  rw [← hrd] at st1
  have kp1 : ∀ H, Ev T (.call (.func (.func 106) [] []) [M1.I, .int .i64 1, rgI a1 b1] H) (.call M2.I H) := by
    rw [e1]
    exact rput1_ok _ _ _ _ _ _ _ _ _ _ a1 b1
  clear y1 z1
  refine CallP.pure st1 ?_
  repeat' ((conv => whnf); first | (refine condP.dec (fun _ => ?_) (fun h => absurd (by omega) h)) | (refine .i64 (by omega) (by omega) ?_) | (refine onSome.intro (idx_fs rfl rfl (by omega) (by omega) (fun _ => rfl)) ?_) | (refine onSome.intro (load_fs rfl (by omega) (by omega) rfl) ?_) | (refine onSome.intro (idx_ms rfl rfl rfl (by omega) (by omega)) ?_) | (refine onSome.intro (load_ms rfl rfl (by omega) (by omega) rfl) ?_) | (refine And.intro rfl ?_) | (refine And.intro (load_fs rfl (by omega) (by omega) rfl) ?_) | (refine And.intro (idx_fs rfl rfl (by omega) (by omega) (fun _ => rfl)) ?_) | (refine And.intro (load_ms rfl rfl (by omega) (by omega) rfl) ?_) | (refine And.intro (idx_ms rfl rfl rfl (by omega) (by omega)) ?_))
  refine CallP.pure kp1 ?_
  repeat' ((conv => whnf); first | (refine condP.dec (fun _ => ?_) (fun h => absurd (by omega) h)) | (refine .i64 (by omega) (by omega) ?_) | (refine onSome.intro (idx_fs rfl rfl (by omega) (by omega) (fun _ => rfl)) ?_) | (refine onSome.intro (load_fs rfl (by omega) (by omega) rfl) ?_) | (refine onSome.intro (idx_ms rfl rfl rfl (by omega) (by omega)) ?_) | (refine onSome.intro (load_ms rfl rfl (by omega) (by omega) rfl) ?_) | (refine And.intro rfl ?_) | (refine And.intro (load_fs rfl (by omega) (by omega) rfl) ?_) | (refine And.intro (idx_fs rfl rfl (by omega) (by omega) (fun _ => rfl)) ?_) | (refine And.intro (load_ms rfl rfl (by omega) (by omega) rfl) ?_) | (refine And.intro (idx_ms rfl rfl rfl (by omega) (by omega)) ?_))
  obtain ⟨y2, z2⟩ := nar2_ok ok2 hv
  refine loop_step ?_
  repeat' ((conv => whnf); first | (refine condP.dec (fun _ => ?_) (fun h => absurd (by omega) h)) | (refine .i64 (by omega) (by omega) ?_) | (refine onSome.intro (idx_fs rfl rfl (by omega) (by omega) (fun _ => rfl)) ?_) | (refine onSome.intro (load_fs rfl (by omega) (by omega) rfl) ?_) | (refine onSome.intro (idx_ms rfl rfl rfl (by omega) (by omega)) ?_) | (refine onSome.intro (load_ms rfl rfl (by omega) (by omega) rfl) ?_) | (refine And.intro rfl ?_) | (refine And.intro (load_fs rfl (by omega) (by omega) rfl) ?_) | (refine And.intro (idx_fs rfl rfl (by omega) (by omega) (fun _ => rfl)) ?_) | (refine And.intro (load_ms rfl rfl (by omega) (by omega) rfl) ?_) | (refine And.intro (idx_ms rfl rfl rfl (by omega) (by omega)) ?_))
  cases hk2 : nar2 M2 rd with
  | none =>
    rw [hk2] at hn
    rw [← hn] at hr
    obtain ⟨_, az, bz, sz⟩ := z2 hk2
    rw [← hrd] at sz
    refine CallP.pure sz ?_
    repeat' ((conv => whnf); first | (refine condP.dec (fun _ => ?_) (fun h => absurd (by omega) h)) | (refine .i64 (by omega) (by omega) ?_) | (refine onSome.intro (idx_fs rfl rfl (by omega) (by omega) (fun _ => rfl)) ?_) | (refine onSome.intro (load_fs rfl (by omega) (by omega) rfl) ?_) | (refine onSome.intro (idx_ms rfl rfl rfl (by omega) (by omega)) ?_) | (refine onSome.intro (load_ms rfl rfl (by omega) (by omega) rfl) ?_) | (refine And.intro rfl ?_) | (refine And.intro (load_fs rfl (by omega) (by omega) rfl) ?_) | (refine And.intro (idx_fs rfl rfl (by omega) (by omega) (fun _ => rfl)) ?_) | (refine And.intro (load_ms rfl rfl (by omega) (by omega) rfl) ?_) | (refine And.intro (idx_ms rfl rfl rfl (by omega) (by omega)) ?_))
    conv => whnf
    refine .done (by simp) ?_
    conv => whnf
    exact .intro (badI 12) (.inl rfl) rfl (frz_eq hr.symm)
  | some M3 =>
  rw [hk2, Option.bind_some] at hn
  obtain ⟨ok3, _, a2, b2, e2, st2⟩ := y2 M3 hk2
  rw [← hrd] at st2
  have kp2 : ∀ H, Ev T (.call (.func (.func 106) [] []) [M2.I, .int .i64 2, rgI a2 b2] H) (.call M3.I H) := by
    rw [e2]
    exact rput2_ok _ _ _ _ _ _ _ _ _ _ a2 b2
  clear y2 z2
  refine CallP.pure st2 ?_
  repeat' ((conv => whnf); first | (refine condP.dec (fun _ => ?_) (fun h => absurd (by omega) h)) | (refine .i64 (by omega) (by omega) ?_) | (refine onSome.intro (idx_fs rfl rfl (by omega) (by omega) (fun _ => rfl)) ?_) | (refine onSome.intro (load_fs rfl (by omega) (by omega) rfl) ?_) | (refine onSome.intro (idx_ms rfl rfl rfl (by omega) (by omega)) ?_) | (refine onSome.intro (load_ms rfl rfl (by omega) (by omega) rfl) ?_) | (refine And.intro rfl ?_) | (refine And.intro (load_fs rfl (by omega) (by omega) rfl) ?_) | (refine And.intro (idx_fs rfl rfl (by omega) (by omega) (fun _ => rfl)) ?_) | (refine And.intro (load_ms rfl rfl (by omega) (by omega) rfl) ?_) | (refine And.intro (idx_ms rfl rfl rfl (by omega) (by omega)) ?_))
  refine CallP.pure kp2 ?_
  repeat' ((conv => whnf); first | (refine condP.dec (fun _ => ?_) (fun h => absurd (by omega) h)) | (refine .i64 (by omega) (by omega) ?_) | (refine onSome.intro (idx_fs rfl rfl (by omega) (by omega) (fun _ => rfl)) ?_) | (refine onSome.intro (load_fs rfl (by omega) (by omega) rfl) ?_) | (refine onSome.intro (idx_ms rfl rfl rfl (by omega) (by omega)) ?_) | (refine onSome.intro (load_ms rfl rfl (by omega) (by omega) rfl) ?_) | (refine And.intro rfl ?_) | (refine And.intro (load_fs rfl (by omega) (by omega) rfl) ?_) | (refine And.intro (idx_fs rfl rfl (by omega) (by omega) (fun _ => rfl)) ?_) | (refine And.intro (load_ms rfl rfl (by omega) (by omega) rfl) ?_) | (refine And.intro (idx_ms rfl rfl rfl (by omega) (by omega)) ?_))
  obtain ⟨y3, z3⟩ := nar3_ok ok3 hv
  refine loop_step ?_
  repeat' ((conv => whnf); first | (refine condP.dec (fun _ => ?_) (fun h => absurd (by omega) h)) | (refine .i64 (by omega) (by omega) ?_) | (refine onSome.intro (idx_fs rfl rfl (by omega) (by omega) (fun _ => rfl)) ?_) | (refine onSome.intro (load_fs rfl (by omega) (by omega) rfl) ?_) | (refine onSome.intro (idx_ms rfl rfl rfl (by omega) (by omega)) ?_) | (refine onSome.intro (load_ms rfl rfl (by omega) (by omega) rfl) ?_) | (refine And.intro rfl ?_) | (refine And.intro (load_fs rfl (by omega) (by omega) rfl) ?_) | (refine And.intro (idx_fs rfl rfl (by omega) (by omega) (fun _ => rfl)) ?_) | (refine And.intro (load_ms rfl rfl (by omega) (by omega) rfl) ?_) | (refine And.intro (idx_ms rfl rfl rfl (by omega) (by omega)) ?_))
  cases hk3 : nar3 M3 rd with
  | none =>
    rw [hk3] at hn
    rw [← hn] at hr
    obtain ⟨_, az, bz, sz⟩ := z3 hk3
    rw [← hrd] at sz
    refine CallP.pure sz ?_
    repeat' ((conv => whnf); first | (refine condP.dec (fun _ => ?_) (fun h => absurd (by omega) h)) | (refine .i64 (by omega) (by omega) ?_) | (refine onSome.intro (idx_fs rfl rfl (by omega) (by omega) (fun _ => rfl)) ?_) | (refine onSome.intro (load_fs rfl (by omega) (by omega) rfl) ?_) | (refine onSome.intro (idx_ms rfl rfl rfl (by omega) (by omega)) ?_) | (refine onSome.intro (load_ms rfl rfl (by omega) (by omega) rfl) ?_) | (refine And.intro rfl ?_) | (refine And.intro (load_fs rfl (by omega) (by omega) rfl) ?_) | (refine And.intro (idx_fs rfl rfl (by omega) (by omega) (fun _ => rfl)) ?_) | (refine And.intro (load_ms rfl rfl (by omega) (by omega) rfl) ?_) | (refine And.intro (idx_ms rfl rfl rfl (by omega) (by omega)) ?_))
    conv => whnf
    refine .done (by simp) ?_
    conv => whnf
    exact .intro (badI 12) (.inl rfl) rfl (frz_eq hr.symm)
  | some M4 =>
  rw [hk3, Option.bind_some] at hn
  obtain ⟨ok4, _, a3, b3, e3, st3⟩ := y3 M4 hk3
  rw [← hrd] at st3
  have kp3 : ∀ H, Ev T (.call (.func (.func 106) [] []) [M3.I, .int .i64 3, rgI a3 b3] H) (.call M4.I H) := by
    rw [e3]
    exact rput3_ok _ _ _ _ _ _ _ _ _ _ a3 b3
  clear y3 z3
  refine CallP.pure st3 ?_
  repeat' ((conv => whnf); first | (refine condP.dec (fun _ => ?_) (fun h => absurd (by omega) h)) | (refine .i64 (by omega) (by omega) ?_) | (refine onSome.intro (idx_fs rfl rfl (by omega) (by omega) (fun _ => rfl)) ?_) | (refine onSome.intro (load_fs rfl (by omega) (by omega) rfl) ?_) | (refine onSome.intro (idx_ms rfl rfl rfl (by omega) (by omega)) ?_) | (refine onSome.intro (load_ms rfl rfl (by omega) (by omega) rfl) ?_) | (refine And.intro rfl ?_) | (refine And.intro (load_fs rfl (by omega) (by omega) rfl) ?_) | (refine And.intro (idx_fs rfl rfl (by omega) (by omega) (fun _ => rfl)) ?_) | (refine And.intro (load_ms rfl rfl (by omega) (by omega) rfl) ?_) | (refine And.intro (idx_ms rfl rfl rfl (by omega) (by omega)) ?_))
  refine CallP.pure kp3 ?_
  repeat' ((conv => whnf); first | (refine condP.dec (fun _ => ?_) (fun h => absurd (by omega) h)) | (refine .i64 (by omega) (by omega) ?_) | (refine onSome.intro (idx_fs rfl rfl (by omega) (by omega) (fun _ => rfl)) ?_) | (refine onSome.intro (load_fs rfl (by omega) (by omega) rfl) ?_) | (refine onSome.intro (idx_ms rfl rfl rfl (by omega) (by omega)) ?_) | (refine onSome.intro (load_ms rfl rfl (by omega) (by omega) rfl) ?_) | (refine And.intro rfl ?_) | (refine And.intro (load_fs rfl (by omega) (by omega) rfl) ?_) | (refine And.intro (idx_fs rfl rfl (by omega) (by omega) (fun _ => rfl)) ?_) | (refine And.intro (load_ms rfl rfl (by omega) (by omega) rfl) ?_) | (refine And.intro (idx_ms rfl rfl rfl (by omega) (by omega)) ?_))
  obtain ⟨y4, z4⟩ := nar4_ok ok4 hv
  refine loop_step ?_
  repeat' ((conv => whnf); first | (refine condP.dec (fun _ => ?_) (fun h => absurd (by omega) h)) | (refine .i64 (by omega) (by omega) ?_) | (refine onSome.intro (idx_fs rfl rfl (by omega) (by omega) (fun _ => rfl)) ?_) | (refine onSome.intro (load_fs rfl (by omega) (by omega) rfl) ?_) | (refine onSome.intro (idx_ms rfl rfl rfl (by omega) (by omega)) ?_) | (refine onSome.intro (load_ms rfl rfl (by omega) (by omega) rfl) ?_) | (refine And.intro rfl ?_) | (refine And.intro (load_fs rfl (by omega) (by omega) rfl) ?_) | (refine And.intro (idx_fs rfl rfl (by omega) (by omega) (fun _ => rfl)) ?_) | (refine And.intro (load_ms rfl rfl (by omega) (by omega) rfl) ?_) | (refine And.intro (idx_ms rfl rfl rfl (by omega) (by omega)) ?_))
  cases hk4 : nar4 M4 rd with
  | none =>
    rw [hk4] at hn
    rw [← hn] at hr
    obtain ⟨_, az, bz, sz⟩ := z4 hk4
    rw [← hrd] at sz
    refine CallP.pure sz ?_
    repeat' ((conv => whnf); first | (refine condP.dec (fun _ => ?_) (fun h => absurd (by omega) h)) | (refine .i64 (by omega) (by omega) ?_) | (refine onSome.intro (idx_fs rfl rfl (by omega) (by omega) (fun _ => rfl)) ?_) | (refine onSome.intro (load_fs rfl (by omega) (by omega) rfl) ?_) | (refine onSome.intro (idx_ms rfl rfl rfl (by omega) (by omega)) ?_) | (refine onSome.intro (load_ms rfl rfl (by omega) (by omega) rfl) ?_) | (refine And.intro rfl ?_) | (refine And.intro (load_fs rfl (by omega) (by omega) rfl) ?_) | (refine And.intro (idx_fs rfl rfl (by omega) (by omega) (fun _ => rfl)) ?_) | (refine And.intro (load_ms rfl rfl (by omega) (by omega) rfl) ?_) | (refine And.intro (idx_ms rfl rfl rfl (by omega) (by omega)) ?_))
    conv => whnf
    refine .done (by simp) ?_
    conv => whnf
    exact .intro (badI 12) (.inl rfl) rfl (frz_eq hr.symm)
  | some M5 =>
  rw [hk4, Option.bind_some] at hn
  obtain ⟨ok5, _, a4, b4, e4, st4⟩ := y4 M5 hk4
  rw [← hrd] at st4
  have kp4 : ∀ H, Ev T (.call (.func (.func 106) [] []) [M4.I, .int .i64 4, rgI a4 b4] H) (.call M5.I H) := by
    rw [e4]
    exact rput4_ok _ _ _ _ _ _ _ _ _ _ a4 b4
  clear y4 z4
  refine CallP.pure st4 ?_
  repeat' ((conv => whnf); first | (refine condP.dec (fun _ => ?_) (fun h => absurd (by omega) h)) | (refine .i64 (by omega) (by omega) ?_) | (refine onSome.intro (idx_fs rfl rfl (by omega) (by omega) (fun _ => rfl)) ?_) | (refine onSome.intro (load_fs rfl (by omega) (by omega) rfl) ?_) | (refine onSome.intro (idx_ms rfl rfl rfl (by omega) (by omega)) ?_) | (refine onSome.intro (load_ms rfl rfl (by omega) (by omega) rfl) ?_) | (refine And.intro rfl ?_) | (refine And.intro (load_fs rfl (by omega) (by omega) rfl) ?_) | (refine And.intro (idx_fs rfl rfl (by omega) (by omega) (fun _ => rfl)) ?_) | (refine And.intro (load_ms rfl rfl (by omega) (by omega) rfl) ?_) | (refine And.intro (idx_ms rfl rfl rfl (by omega) (by omega)) ?_))
  refine CallP.pure kp4 ?_
  repeat' ((conv => whnf); first | (refine condP.dec (fun _ => ?_) (fun h => absurd (by omega) h)) | (refine .i64 (by omega) (by omega) ?_) | (refine onSome.intro (idx_fs rfl rfl (by omega) (by omega) (fun _ => rfl)) ?_) | (refine onSome.intro (load_fs rfl (by omega) (by omega) rfl) ?_) | (refine onSome.intro (idx_ms rfl rfl rfl (by omega) (by omega)) ?_) | (refine onSome.intro (load_ms rfl rfl (by omega) (by omega) rfl) ?_) | (refine And.intro rfl ?_) | (refine And.intro (load_fs rfl (by omega) (by omega) rfl) ?_) | (refine And.intro (idx_fs rfl rfl (by omega) (by omega) (fun _ => rfl)) ?_) | (refine And.intro (load_ms rfl rfl (by omega) (by omega) rfl) ?_) | (refine And.intro (idx_ms rfl rfl rfl (by omega) (by omega)) ?_))
  refine loop_step ?_
  repeat' ((conv => whnf); first | (refine condP.dec (fun _ => ?_) (fun h => absurd (by omega) h)) | (refine .i64 (by omega) (by omega) ?_) | (refine onSome.intro (idx_fs rfl rfl (by omega) (by omega) (fun _ => rfl)) ?_) | (refine onSome.intro (load_fs rfl (by omega) (by omega) rfl) ?_) | (refine onSome.intro (idx_ms rfl rfl rfl (by omega) (by omega)) ?_) | (refine onSome.intro (load_ms rfl rfl (by omega) (by omega) rfl) ?_) | (refine And.intro rfl ?_) | (refine And.intro (load_fs rfl (by omega) (by omega) rfl) ?_) | (refine And.intro (idx_fs rfl rfl (by omega) (by omega) (fun _ => rfl)) ?_) | (refine And.intro (load_ms rfl rfl (by omega) (by omega) rfl) ?_) | (refine And.intro (idx_ms rfl rfl rfl (by omega) (by omega)) ?_))
  conv => whnf
  exact .more (i + 1, M5) rfl ⟨by dsimp only; omega, ok5, hn⟩ (by dsimp only; omega) ⟨rfl, rfl, rfl, rfl, rfl, trivial⟩ rfl ⟨(rsI_no _).inn _, .ptr _ _ _ (by simp), .ptr _ _ _ (by simp), .int _ _, .int _ _, trivial⟩ (S_chk _ (S_chk _ trivial))
end Go.Proofs.Ytbomgfbfnkfamaa.I
