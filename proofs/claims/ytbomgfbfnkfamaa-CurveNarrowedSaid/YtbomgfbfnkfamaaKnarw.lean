/- Narrow, of the program: what it answers, told by narAll. -/
import Derived.Test.YtbomgfbfnkfamaaKnarall
set_option linter.unusedVariables false
set_option maxHeartbeats 16000000
set_option linter.unusedSimpArgs false
namespace Go.Proofs.Ytbomgfbfnkfamaa.I
open Go.Ideal

instance : Inhabited Rd := ⟨⟨0, 0, 0, 0⟩⟩
def rdR (r : Rd) : List IV := [.int .i64 r.v, .int .i64 r.w, .int .i64 r.c, .int .i64 r.d]
def rsI (l : List Rd) : IV := .fslice (l.map rdR)
theorem rsI_no (l : List Rd) : Noname (rsI l) := nn_fs (fun _ _ => nn_cons (nn_int _ _) (nn_cons (nn_int _ _) (nn_cons (nn_int _ _) (nn_cons (nn_int _ _) nn_none))))
theorem Lw.I_no (L : Lw) : Noname L.I := lawI_no ..
def rdOf (l : List Rd) (i : Nat) : Rd := at' l (i : Int)
/-- The error of a reading. -/
def rdE (l : List Rd) (i : Nat) : Int := if Volts (rdOf l i).v (rdOf l i).w then (if (rdOf l i).d < (rdOf l i).c then 11 else 0) else 2
theorem rdE_zero {l : List Rd} {i : Nat} (h : rdE l i = 0) : Volts (rdOf l i).v (rdOf l i).w := by
  unfold rdE at h
  split at h
  · assumption
  · omega
def badI (e : Int) : IV := .tuple [lawI 0 0 0 0 0 0 0 0 0 0, .int .i64 e]
noncomputable def Lw.err (L : Lw) : Int := lawErr L.p0 L.p1 L.g0 L.g1 L.s0 L.s1 L.f0 L.f1 L.q0 L.q1
noncomputable def narEnd : Option Lw → IV
  | some L => .tuple [L.I, .int .i64 0]
  | none => badI 12
noncomputable def narRes (L : Lw) (l : List Rd) : IV := if L.err ≠ 0 then badI L.err else if 60 < l.length then badI 8 else if firstErr (rdE l) l.length ≠ 0 then badI (firstErr (rdE l) l.length) else narEnd (narAll L l)
theorem badI_no (e : Int) : Noname (badI e) := nn_tuple (nn_cons (lawI_no ..) (nn_cons (nn_int _ _) nn_none))
theorem narRes_no (L : Lw) (l : List Rd) : Noname (narRes L l) := by
  unfold narRes
  split
  · exact badI_no _
  split
  · exact badI_no _
  split
  · exact badI_no _
  cases narAll L l with
  | none => exact badI_no _
  | some L' => exact nn_tuple (nn_cons L'.I_no (nn_cons (nn_int _ _) nn_none))
theorem narAll_drop (L : Lw) {l : List Rd} {i : Nat} (h : i < l.length) : narAll L (l.drop i) = (nar L (rdOf l i)).bind fun L => narAll L (l.drop (i + 1)) := by
  have e : l.drop i = rdOf l i :: l.drop (i + 1) := by
    rw [List.drop_eq_getElem_cons h]
    congr 1
    unfold rdOf at'
    rw [List.getD_eq_getElem?_getD, show ((i : Int)).toNat = i by omega, List.getElem?_eq_getElem h, Option.getD_some]
  rw [e, narAll]
theorem S_chk {S : Nat → Prop} (L : Lw) {l : List Slot} (h : chkS S l) : chkS S (L.S :: l) := by
  refine ⟨fun j i hj hi => ?_, h⟩
  obtain rfl : j = 0 := by simpa using hj
  exact ((by simp [nn_int] : ∀ y ∈ [IV.int .i64 L.p0, .int .i64 L.p1, .int .i64 L.g0, .int .i64 L.g1, .int .i64 L.s0, .int .i64 L.s1, .int .i64 L.f0, .int .i64 L.f1, .int .i64 L.q0, .int .i64 L.q1], Noname y) _ (List.getElem_mem hi)).inn _
def L0 : Lw := ⟨0, 0, 0, 0, 0, 0, 0, 0, 0, 0⟩

theorem Narrow_ok (L : Lw) (l : List Rd) (hl : l.length ≤ 9000000000000000000) (H : Heap) : Ev T (.call (.func (.func 46) [] []) [L.I, rsI l] H) (.call (narRes L l) H) := by
  refine run_pure T46 (narRes_no ..) (nn_cons L.I_no (nn_cons (rsI_no _) nn_none)) ?_ H
  have hC := CheckLaw_ok L.p0 L.p1 L.g0 L.g1 L.s0 L.s1 L.f0 L.f1 L.q0 L.q1
  have hz : L.err = 0 ↔ L.Ok := lawErr_zero
  have e1 : (l.map rdR).length = l.length := List.length_map ..
  have hr : ∃ r, r = narRes L l := ⟨_, rfl⟩
  obtain ⟨r, hr⟩ := hr
  rw [← hr]
  unfold narRes at hr
  have he : ∃ e, e = L.err := ⟨_, rfl⟩
  obtain ⟨e, he⟩ := he
  rw [← he] at hr hz
  unfold Lw.err at he
  rw [← he] at hC
  conv => whnf
  refine CallP.pure hC ?_
  conv => whnf
  refine condP.ne (fun h => ?_) (fun h => ?_)
  · rw [if_pos h] at hr
    conv => whnf
    exact .intro (badI e) (.inl rfl) rfl (frz_eq hr.symm)
  rw [if_neg (by simpa using h)] at hr
  have ok := hz.mp h
  conv => whnf
  refine condP.dec (fun h => ?_) (fun h => ?_)
  · rw [if_pos (by omega)] at hr
    conv => whnf
    exact .intro (badI 8) (.inl rfl) rfl (frz_eq hr.symm)
  rw [if_neg (by omega)] at hr
  conv => whnf
  refine loop_rule (X := Nat) (fun i => [(1, rsI l), (2, .ptr 0 0 0), (4, .ptr 1 0 0), (5, .int .i64 0), (23, rsI l), (24, .int .i64 l.length), (25, .int .i64 i)]) (fun _ => [L.S, L0.S]) (fun i => l.length - i)
    (fun i => i ≤ l.length ∧ firstErr (rdE l) i = 0) 0 ⟨Nat.zero_le _, rfl⟩ ⟨rfl, rfl, rfl, rfl, rfl, by rw [← e1]; rfl, rfl, trivial⟩ rfl (fun _ _ => rfl) (fun i hi => ?_)
  obtain ⟨hi, h0⟩ := hi
  conv => whnf
  refine condP.dec (fun hlt => ?_) (fun hlt => ?_)
  · have stop := firstErr_stop (e := rdE l) (n := l.length) h0
    have next := firstErr_succ (e := rdE l) h0
    have hri : at' l (i : Int) = rdOf l i := rfl
    have hrE : rdE l i = if Volts (rdOf l i).v (rdOf l i).w then (if (rdOf l i).d < (rdOf l i).c then 11 else 0) else 2 := rfl
    generalize rdE l i = er at *
    repeat' ((conv => whnf); first | (refine condP.dec (fun _ => ?_) (fun h => absurd (by omega) h)) | (refine .i64 (by omega) (by omega) ?_) | (refine onSome.intro (idx_fs rfl rfl (by omega) (by omega) (fun _ => rfl)) ?_) | (refine onSome.intro (load_fs rfl (by omega) (by omega) rfl) ?_) | (refine onSome.intro (idx_ms rfl rfl rfl (by omega) (by omega)) ?_) | (refine onSome.intro (load_ms rfl rfl (by omega) (by omega) rfl) ?_) | (refine And.intro rfl ?_) | (refine And.intro (load_fs rfl (by omega) (by omega) rfl) ?_) | (refine And.intro (idx_fs rfl rfl (by omega) (by omega) (fun _ => rfl)) ?_) | (refine And.intro (load_ms rfl rfl (by omega) (by omega) rfl) ?_) | (refine And.intro (idx_ms rfl rfl rfl (by omega) (by omega)) ?_))
    refine CallP.dec (voltages_ok (at' l (i : Int)).v (at' l (i : Int)).w) (fun hv => ?_) (fun hv => ?_)
    rotate_left
    · rw [hri] at hv
      rw [if_neg hv] at hrE
      rw [stop (by omega) (by omega), if_pos (by omega)] at hr
      conv => whnf
      refine .done (by simp) ?_
      conv => whnf
      exact .intro (badI 2) (.inl rfl) rfl (frz_eq (by rw [hr, hrE]))
    rw [hri] at hv
    rw [if_pos hv] at hrE
    conv => whnf
    refine condP.dec (fun hc => ?_) (fun hc => ?_)
    · rw [hri] at hc
      rw [if_pos hc] at hrE
      rw [stop (by omega) (by omega), if_pos (by omega)] at hr
      conv => whnf
      refine .done (by simp) ?_
      conv => whnf
      exact .intro (badI 11) (.inl rfl) rfl (frz_eq (by rw [hr, hrE]))
    · rw [hri] at hc
      rw [if_neg hc] at hrE
      repeat' ((conv => whnf); first | (first | refine condP.dec (fun h => ?_) (fun h => ?_) | refine condP.eq (fun h => ?_) (fun h => ?_) | refine condP.ne (fun h => ?_) (fun h => ?_)) | (refine .i64 (by omega) (by omega) ?_) | (refine onSome.intro (idx_fs rfl rfl (by omega) (by omega) (fun _ => rfl)) ?_) | (refine onSome.intro (load_fs rfl (by omega) (by omega) rfl) ?_) | (refine And.intro rfl ?_))
      conv => whnf
      exact .more (i + 1) rfl ⟨by omega, next hrE⟩ (by omega) ⟨rfl, rfl, rfl, rfl, rfl, rfl, rfl, trivial⟩ rfl ⟨(rsI_no _).inn _, .ptr _ _ _ (by simp), .ptr _ _ _ (by simp), .int _ _, (rsI_no _).inn _, .int _ _, .int _ _, trivial⟩ (S_chk _ (S_chk _ trivial))
  obtain rfl : i = l.length := by omega
  rw [if_neg (by omega)] at hr
  have hall := firstErr_zero.mp h0
  conv => whnf
  refine .done (by simp) ?_
  conv => whnf
  refine loop_rule (X := Nat × Lw) (fun x => [(1, rsI l), (2, .ptr 0 0 0), (4, .ptr 1 0 0), (5, .int .i64 0), (47, rsI l), (48, .int .i64 l.length), (49, .int .i64 x.1)]) (fun x => [x.2.S, L0.S]) (fun x => l.length - x.1)
    (fun x => x.1 ≤ l.length ∧ x.2.Ok ∧ narAll x.2 (l.drop x.1) = narAll L l) (0, L) ⟨Nat.zero_le _, ok, rfl⟩ ⟨rfl, rfl, rfl, rfl, rfl, by rw [← e1]; rfl, rfl, trivial⟩ rfl (fun _ _ => rfl) (fun x hx => ?_)
  obtain ⟨i, M⟩ := x
  obtain ⟨hi, hM, hn⟩ := hx
  dsimp only at hi hM hn ⊢
  rcases Nat.lt_or_ge i l.length with hlt | hge
  rotate_left
  · obtain rfl : i = l.length := by omega
    rw [List.drop_length, narAll] at hn
    rw [← hn, narEnd] at hr
    conv => whnf
    refine condP.dec (fun h => absurd h (by omega)) (fun _ => ?_)
    conv => whnf
    refine .done (by simp) ?_
    conv => whnf
    exact .intro (.tuple [M.I, .int .i64 0]) (.inl rfl) rfl (frz_eq hr.symm)
  have hv := rdE_zero (hall i hlt)
  rw [narAll_drop M hlt] at hn
  unfold nar at hn
  have hrd : at' l (i : Int) = rdOf l i := rfl
  generalize hrx : rdOf l i = rd at *
  repeat' ((conv => whnf); first | (refine condP.dec (fun _ => ?_) (fun h => absurd (by omega) h)) | (first | refine condP.dec (fun h => ?_) (fun h => ?_) | refine condP.eq (fun h => ?_) (fun h => ?_) | refine condP.ne (fun h => ?_) (fun h => ?_)) | (refine .i64 (by omega) (by omega) ?_) | (refine onSome.intro (idx_fs rfl rfl (by omega) (by omega) (fun _ => rfl)) ?_) | (refine onSome.intro (load_fs rfl (by omega) (by omega) rfl) ?_) | (refine And.intro rfl ?_))
  obtain ⟨y0, z0⟩ := nar0_ok hM hv
  refine loop_step ?_
  conv => whnf
  cases hk0 : nar0 M rd with
  | none =>
    rw [hk0] at hn
    rw [← hn] at hr
    obtain ⟨⟨Lz, sz⟩, _⟩ := z0 hk0
    rw [← hrd] at sz
    refine CallP.one (fun H hb => sz H 0 hb) rfl ?_
    conv => whnf
    refine .done (by simp) ?_
    conv => whnf
    exact .intro (badI 12) (.inl rfl) rfl (frz_eq hr.symm)
  | some M1 =>
  rw [hk0, Option.bind_some] at hn
  obtain ⟨ok1, st0, _⟩ := y0 M1 hk0
  rw [← hrd] at st0
  refine CallP.one (fun H hb => st0 H 0 hb) rfl ?_
  repeat' ((conv => whnf); first | (first | refine condP.dec (fun h => ?_) (fun h => ?_) | refine condP.eq (fun h => ?_) (fun h => ?_) | refine condP.ne (fun h => ?_) (fun h => ?_)) | (refine .i64 (by omega) (by omega) ?_) | (refine onSome.intro (idx_fs rfl rfl (by omega) (by omega) (fun _ => rfl)) ?_) | (refine onSome.intro (load_fs rfl (by omega) (by omega) rfl) ?_) | (refine And.intro rfl ?_))
  obtain ⟨y1, z1⟩ := nar1_ok ok1 hv
  refine loop_step ?_
  conv => whnf
  cases hk1 : nar1 M1 rd with
  | none =>
    rw [hk1] at hn
    rw [← hn] at hr
    obtain ⟨⟨Lz, sz⟩, _⟩ := z1 hk1
    rw [← hrd] at sz
    refine CallP.one (fun H hb => sz H 0 hb) rfl ?_
    conv => whnf
    refine .done (by simp) ?_
    conv => whnf
    exact .intro (badI 12) (.inl rfl) rfl (frz_eq hr.symm)
  | some M2 =>
  rw [hk1, Option.bind_some] at hn
  obtain ⟨ok2, st1, _⟩ := y1 M2 hk1
  rw [← hrd] at st1
  refine CallP.one (fun H hb => st1 H 0 hb) rfl ?_
  repeat' ((conv => whnf); first | (first | refine condP.dec (fun h => ?_) (fun h => ?_) | refine condP.eq (fun h => ?_) (fun h => ?_) | refine condP.ne (fun h => ?_) (fun h => ?_)) | (refine .i64 (by omega) (by omega) ?_) | (refine onSome.intro (idx_fs rfl rfl (by omega) (by omega) (fun _ => rfl)) ?_) | (refine onSome.intro (load_fs rfl (by omega) (by omega) rfl) ?_) | (refine And.intro rfl ?_))
  obtain ⟨y2, z2⟩ := nar2_ok ok2 hv
  refine loop_step ?_
  conv => whnf
  cases hk2 : nar2 M2 rd with
  | none =>
    rw [hk2] at hn
    rw [← hn] at hr
    obtain ⟨⟨Lz, sz⟩, _⟩ := z2 hk2
    rw [← hrd] at sz
    refine CallP.one (fun H hb => sz H 0 hb) rfl ?_
    conv => whnf
    refine .done (by simp) ?_
    conv => whnf
    exact .intro (badI 12) (.inl rfl) rfl (frz_eq hr.symm)
  | some M3 =>
  rw [hk2, Option.bind_some] at hn
  obtain ⟨ok3, st2, _⟩ := y2 M3 hk2
  rw [← hrd] at st2
  refine CallP.one (fun H hb => st2 H 0 hb) rfl ?_
  repeat' ((conv => whnf); first | (first | refine condP.dec (fun h => ?_) (fun h => ?_) | refine condP.eq (fun h => ?_) (fun h => ?_) | refine condP.ne (fun h => ?_) (fun h => ?_)) | (refine .i64 (by omega) (by omega) ?_) | (refine onSome.intro (idx_fs rfl rfl (by omega) (by omega) (fun _ => rfl)) ?_) | (refine onSome.intro (load_fs rfl (by omega) (by omega) rfl) ?_) | (refine And.intro rfl ?_))
  obtain ⟨y3, z3⟩ := nar3_ok ok3 hv
  refine loop_step ?_
  conv => whnf
  cases hk3 : nar3 M3 rd with
  | none =>
    rw [hk3] at hn
    rw [← hn] at hr
    obtain ⟨⟨Lz, sz⟩, _⟩ := z3 hk3
    rw [← hrd] at sz
    refine CallP.one (fun H hb => sz H 0 hb) rfl ?_
    conv => whnf
    refine .done (by simp) ?_
    conv => whnf
    exact .intro (badI 12) (.inl rfl) rfl (frz_eq hr.symm)
  | some M4 =>
  rw [hk3, Option.bind_some] at hn
  obtain ⟨ok4, st3, _⟩ := y3 M4 hk3
  rw [← hrd] at st3
  refine CallP.one (fun H hb => st3 H 0 hb) rfl ?_
  repeat' ((conv => whnf); first | (first | refine condP.dec (fun h => ?_) (fun h => ?_) | refine condP.eq (fun h => ?_) (fun h => ?_) | refine condP.ne (fun h => ?_) (fun h => ?_)) | (refine .i64 (by omega) (by omega) ?_) | (refine onSome.intro (idx_fs rfl rfl (by omega) (by omega) (fun _ => rfl)) ?_) | (refine onSome.intro (load_fs rfl (by omega) (by omega) rfl) ?_) | (refine And.intro rfl ?_))
  obtain ⟨y4, z4⟩ := nar4_ok ok4 hv
  refine loop_step ?_
  conv => whnf
  cases hk4 : nar4 M4 rd with
  | none =>
    rw [hk4] at hn
    rw [← hn] at hr
    obtain ⟨⟨Lz, sz⟩, _⟩ := z4 hk4
    rw [← hrd] at sz
    refine CallP.one (fun H hb => sz H 0 hb) rfl ?_
    conv => whnf
    refine .done (by simp) ?_
    conv => whnf
    exact .intro (badI 12) (.inl rfl) rfl (frz_eq hr.symm)
  | some M5 =>
  rw [hk4, Option.bind_some] at hn
  obtain ⟨ok5, st4, _⟩ := y4 M5 hk4
  rw [← hrd] at st4
  refine CallP.one (fun H hb => st4 H 0 hb) rfl ?_
  repeat' ((conv => whnf); first | (first | refine condP.dec (fun h => ?_) (fun h => ?_) | refine condP.eq (fun h => ?_) (fun h => ?_) | refine condP.ne (fun h => ?_) (fun h => ?_)) | (refine .i64 (by omega) (by omega) ?_) | (refine onSome.intro (idx_fs rfl rfl (by omega) (by omega) (fun _ => rfl)) ?_) | (refine onSome.intro (load_fs rfl (by omega) (by omega) rfl) ?_) | (refine And.intro rfl ?_))
  refine loop_step ?_
  repeat' ((conv => whnf); first | (first | refine condP.dec (fun h => ?_) (fun h => ?_) | refine condP.eq (fun h => ?_) (fun h => ?_) | refine condP.ne (fun h => ?_) (fun h => ?_)) | (refine .i64 (by omega) (by omega) ?_) | (refine onSome.intro (idx_fs rfl rfl (by omega) (by omega) (fun _ => rfl)) ?_) | (refine onSome.intro (load_fs rfl (by omega) (by omega) rfl) ?_) | (refine And.intro rfl ?_))
  conv => whnf
  exact .more (i + 1, M5) rfl ⟨by dsimp only; omega, ok5, hn⟩ (by dsimp only; omega) ⟨rfl, rfl, rfl, rfl, rfl, rfl, rfl, trivial⟩ rfl ⟨(rsI_no _).inn _, .ptr _ _ _ (by simp), .ptr _ _ _ (by simp), .int _ _, (rsI_no _).inn _, .int _ _, .int _ _, trivial⟩ (S_chk _ (S_chk _ trivial))
end Go.Proofs.Ytbomgfbfnkfamaa.I
