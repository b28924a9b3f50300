/- Programmes: are they valid? -/
import Derived.Test.YtpbadgghhiommaaGstr
set_option linter.unusedVariables false
set_option maxHeartbeats 8000000
set_option linter.unusedSimpArgs false
namespace Go.Proofs.Ytpbadgghhiommaa.I
open Go.Ideal

structure Leg where
  ti : Int
  he : Int
  deriving Inhabited
def lr (l : Leg) : List IV := [.int .i64 l.ti, .int .i64 l.he]
theorem lr_no (l : Leg) : ∀ x ∈ lr l, Noname x := nn_cons (.int _ _) (nn_cons (.int _ _) nn_none)
def lsl (ls : List Leg) : IV := .fslice (ls.map lr)
theorem lsl_no (ls : List Leg) : Noname (lsl ls) := nn_fs (fun _ _ => nn_cons (.int _ _) (nn_cons (.int _ _) nn_none))
def ovenI (f : Int) (ls : List Leg) : IV := .agg [.int .i64 f, lsl ls]
theorem ovenI_no (f : Int) (ls : List Leg) : Noname (ovenI f ls) := nn_agg (nn_cons (.int _ _) (nn_cons (lsl_no _) nn_none))
theorem oven_row (f : Int) (ls : List Leg) : ∀ x ∈ [IV.int .i64 f, lsl ls], Noname x := nn_cons (.int _ _) (nn_cons (lsl_no _) nn_none)
abbrev ln (ls : List Leg) (i : Nat) : Leg := ls.getD i default
def legE (ls : List Leg) (i : Nat) : Int := if (ln ls i).ti < 1 ∨ 2000 < (ln ls i).ti ∨ (ln ls i).he < 0 ∨ 2000 < (ln ls i).he then 2 else 0
def ovenE (f : Int) (ls : List Leg) : Int := if f < 0 ∨ 2000 < f then 2 else if 20 < ls.length then 8 else firstErr (legE ls) ls.length
structure OOk (f : Int) (ls : List Leg) : Prop where
  from_ : 0 ≤ f ∧ f ≤ 2000
  len : ls.length ≤ 20
  leg : ∀ i, i < ls.length → 1 ≤ (ln ls i).ti ∧ (ln ls i).ti ≤ 2000 ∧ 0 ≤ (ln ls i).he ∧ (ln ls i).he ≤ 2000
theorem oven_zero {f : Int} {ls : List Leg} (h : ovenE f ls = 0) : OOk f ls := by
  unfold ovenE at h
  split at h
  · cases h
  · split at h
    · cases h
    · refine ⟨by omega, by omega, fun i hi => ?_⟩
      have := firstErr_zero.mp h i hi
      unfold legE at this
      split at this
      · cases this
      · omega
theorem oven_ok {f : Int} {ls : List Leg} (h : OOk f ls) : ovenE f ls = 0 := by
  have a := h.from_
  have b := h.len
  unfold ovenE
  rw [if_neg (by omega), if_neg (by omega)]
  refine firstErr_zero.mpr fun i hi => ?_
  have := h.leg i hi
  unfold legE
  rw [if_neg (by omega)]

theorem CheckOven_ok (f : Int) (ls : List Leg) (hz : ls.length ≤ 9000000000000000000) (H : Heap) : Ev T (.call (.func (.func 32) [] []) [ovenI f ls] H) (.call (.int .i64 (ovenE f ls)) H) := by
  refine run_pure T32 (nn_int _ _) (nn_cons (ovenI_no _ _) nn_none) ?_ H
  have e1 : (ls.map lr).length = ls.length := List.length_map ..
  have hx : ∃ r, r = ovenE f ls := ⟨_, rfl⟩
  obtain ⟨r, hr⟩ := hx
  rw [← hr]
  unfold ovenE at hr
  repeat' ((conv => whnf); first | (refine CallP.dec (outside_ok _ _) (fun h => ?_) (fun h => ?_)) | (first | refine condP.dec (fun h => ?_) (fun h => ?_) | refine condP.eq (fun h => ?_) (fun h => ?_) | refine condP.ne (fun h => ?_) (fun h => ?_)) | (refine .i64 (by omega) (by omega) ?_) | (refine onSome.intro (idx_fs rfl rfl (by omega) (by omega) (fun _ => rfl)) ?_) | (refine onSome.intro (load_fs rfl (by omega) (by omega) rfl) ?_) | (refine And.intro rfl ?_))
  all_goals unfold Outs at *
  all_goals first | (exfalso; omega) | skip
  all_goals conv => whnf
  all_goals first
    | exact .intro (.int .i64 2) (.inl rfl) rfl (frz_int (by rw [hr, if_pos (by omega)]))
    | exact .intro (.int .i64 8) (.inl rfl) rfl (frz_int (by rw [hr, if_neg (by omega), if_pos (by omega)]))
    | skip
  rw [if_neg (by omega), if_neg (by omega)] at hr
  refine loop_rule (X := Nat) (fun i => [(1, .ptr 0 0 0), (15, lsl ls), (16, .int .i64 ls.length), (17, .int .i64 i)]) (fun _ => [.live 2 [[.int .i64 f, lsl ls]]]) (fun i => ls.length - i) (fun i => i ≤ ls.length ∧ firstErr (legE ls) i = 0) 0
    ⟨Nat.zero_le _, rfl⟩ ⟨rfl, rfl, by show i6 _ = i6 _; rw [e1], rfl, trivial⟩ rfl (fun _ _ => rfl) (fun i hi => ?_)
  obtain ⟨hi, h0⟩ := hi
  conv => whnf
  refine condP.dec (fun hlt => ?_) (fun hlt => ?_)
  · have hnext : legE ls i = 0 → firstErr (legE ls) (i + 1) = 0 := fun h => firstErr_succ h0 h
    have hstop : legE ls i ≠ 0 → firstErr (legE ls) ls.length = legE ls i := fun h => firstErr_stop h0 h (by omega)
    have f1 : at' ls (i : Int) = ln ls i := rfl
    have hce : ∃ c, c = legE ls i := ⟨_, rfl⟩
    obtain ⟨c, hc⟩ := hce
    rw [← hc] at hnext hstop
    unfold legE at hc
    rw [← f1] at hc
    repeat' ((conv => whnf); first | (refine CallP.dec (outside_ok _ _) (fun h => ?_) (fun h => ?_)) | (first | refine condP.dec (fun h => ?_) (fun h => ?_) | refine condP.eq (fun h => ?_) (fun h => ?_) | refine condP.ne (fun h => ?_) (fun h => ?_)) | (refine .i64 (by omega) (by omega) ?_) | (refine onSome.intro (idx_fs rfl rfl (by omega) (by omega) (fun _ => rfl)) ?_) | (refine onSome.intro (load_fs rfl (by omega) (by omega) rfl) ?_) | (refine And.intro rfl ?_))
    all_goals unfold Outs at *
    all_goals conv => whnf
    all_goals first
      | (have hc0 : c = 0 := by rw [hc, if_neg (by omega)]
         exact .more (i + 1) rfl ⟨by omega, hnext hc0⟩ (by omega) ⟨rfl, rfl, rfl, rfl, trivial⟩ rfl ⟨.ptr _ _ _ (by simp), (lsl_no _).inn _, .int _ _, .int _ _, trivial⟩ ⟨row_inn (oven_row _ _), trivial⟩)
      | (refine .done (by simp) ?_
         conv => whnf
         have hcn : c = 2 := by rw [hc, if_pos (by omega)]
         exact .intro (.int .i64 2) (.inl rfl) rfl (frz_int (by rw [hr, hstop (by omega), hcn])))
  · obtain rfl : i = ls.length := by omega
    conv => whnf
    refine .done (by simp) ?_
    conv => whnf
    exact .intro (.int .i64 0) (.inl rfl) rfl (frz_int (by rw [hr, h0]))
def wallE (b : Int) (zs : List Zone) (k f : Int) (ls : List Leg) : Int := if checkE b zs ≠ 0 then checkE b zs else if k < 1 ∨ 1000 < k then 2 else ovenE f ls
theorem wall_zero {b : Int} {zs : List Zone} {k f : Int} {ls : List Leg} (h : wallE b zs k f ls = 0) : checkE b zs = 0 ∧ (1 ≤ k ∧ k ≤ 1000) ∧ ovenE f ls = 0 := by
  unfold wallE at h
  split at h
  · contradiction
  · split at h
    · cases h
    · exact ⟨Classical.byContradiction (by assumption), by omega, h⟩
theorem checkWall_ok (b : Int) (zs : List Zone) (hz : zs.length ≤ 9000000000000000000) (k f : Int) (ls : List Leg) (hl : ls.length ≤ 9000000000000000000) (H : Heap) : Ev T (.call (.func (.func 107) [] []) [stuffI b zs, .int .i64 k, ovenI f ls] H) (.call (.int .i64 (wallE b zs k f ls)) H) := by
  refine run_pure T107 (nn_int _ _) (nn_cons (stuffI_no _ _) (nn_cons (nn_int _ _) (nn_cons (ovenI_no _ _) nn_none))) ?_ H
  have k1 := Check_ok b zs hz
  have k2 := CheckOven_ok f ls hl
  unfold wallE
  generalize checkE b zs = c at *
  generalize ovenE f ls = d at *
  repeat' ((conv => whnf); first | (refine CallP.pure k1 ?_) | (refine CallP.pure k2 ?_) | (first | refine condP.dec (fun h => ?_) (fun h => ?_) | refine condP.eq (fun h => ?_) (fun h => ?_) | refine condP.ne (fun h => ?_) (fun h => ?_)) | (refine .i64 (by omega) (by omega) ?_) | (refine onSome.intro (idx_fs rfl rfl (by omega) (by omega) (fun _ => rfl)) ?_) | (refine onSome.intro (load_fs rfl (by omega) (by omega) rfl) ?_) | (refine And.intro rfl ?_))
  all_goals conv => whnf
  all_goals refine .intro (.int .i64 _) (.inl rfl) rfl (frz_int ?_)
  all_goals repeat' split
  all_goals omega

structure St where
  t : Int
  lo : Int
  hi : Int
def heatAt (first lh lt j : Int) : Int := first + (lh - first) * j / lt
theorem heat_in {first lh lt j : Int} (h1 : 1 ≤ lt) (h2 : lt ≤ 2000) (hj : 0 ≤ j) (hj1 : j ≤ lt) (a : 0 ≤ first) (b : first ≤ 2000) (c : 0 ≤ lh) (d : lh ≤ 2000) : (0 ≤ heatAt first lh lt j ∧ heatAt first lh lt j ≤ 2000) ∧ (-4000000 ≤ (lh - first) * j ∧ (lh - first) * j ≤ 4000000) ∧ (-2000 ≤ (lh - first) * j / lt ∧ (lh - first) * j / lt ≤ 2000) := by
  unfold heatAt
  by_cases q : 0 ≤ lh - first
  · have a1 := mul_in q (Int.le_refl _) hj hj1
    have a2 := mul_in q (show lh - first ≤ 2000 by omega) hj (show j ≤ 2000 by omega)
    have a3 := Int.ediv_nonneg a1.1 (show 0 ≤ lt by omega)
    have a4 := div_le (n := (lh - first) * j) (d := lt) (m := lh - first) (by omega) a1.2
    omega
  · have a1 := mul_in (show 0 ≤ first - lh by omega) (Int.le_refl _) hj hj1
    have a2 := mul_in (show 0 ≤ first - lh by omega) (show first - lh ≤ 2000 by omega) hj (show j ≤ 2000 by omega)
    have e1 : (lh - first) * j = -((first - lh) * j) := by rw [← Int.neg_mul]; congr 1; omega
    have e2 : (lh - first) * lt = -((first - lh) * lt) := by rw [← Int.neg_mul]; congr 1; omega
    have a3 : (lh - first) ≤ (lh - first) * j / lt := (Int.le_ediv_iff_mul_le (by omega)).mpr (by omega)
    have a4 := div_le (n := (lh - first) * j) (d := lt) (m := 0) (by omega) (by omega)
    omega
def tickS (zs : List Zone) (k first lh lt : Int) (j : Nat) (s : St) : St :=
  ⟨heatAt first lh lt j, stepLo (zoneOf zs (heatAt first lh lt j)) k s.lo (max (heatAt first lh lt j - s.t) (s.t - heatAt first lh lt j)), stepHi (zoneOf zs (heatAt first lh lt j)) k s.hi (max (heatAt first lh lt j - s.t) (s.t - heatAt first lh lt j))⟩
def legS (zs : List Zone) (k first lh lt : Int) : Nat → St → St
  | 0, s => s
  | j + 1, s => tickS zs k first lh lt (j + 1) (legS zs k first lh lt j s)
def ovenS (zs : List Zone) (k f : Int) (ls : List Leg) : Nat → St
  | 0 => ⟨f, 0, 0⟩
  | n + 1 => legS zs k (ovenS zs k f ls n).t (ln ls n).he (ln ls n).ti (ln ls n).ti.toNat (ovenS zs k f ls n)
structure StOk (s : St) : Prop where
  t : 0 ≤ s.t ∧ s.t ≤ 2000
  lo : 0 ≤ s.lo ∧ s.lo ≤ 1099511627776
  hi : 0 ≤ s.hi ∧ s.hi ≤ 1099511627776
theorem tick_ok {zs : List Zone} (h : ZOk zs) {k first lh lt : Int} {j : Nat} {s : St} (hs : StOk s) (hk : 0 ≤ k) (hk1 : k ≤ 1000) (h1 : 1 ≤ lt) (h2 : lt ≤ 2000) (hj1 : (j : Int) ≤ lt) (a : 0 ≤ first) (b : first ≤ 2000) (c : 0 ≤ lh) (d : lh ≤ 2000) : StOk (tickS zs k first lh lt j s) := by
  have hh := heat_in (j := (j : Int)) h1 h2 (by omega) hj1 a b c d
  have ht := hs.t
  have hlo := hs.lo
  have hhi := hs.hi
  have := step_in (zoneOf_gr h (heatAt first lh lt j)) (zoneOf_re h (heatAt first lh lt j)) hk hk1 hlo.1 hlo.2 hhi.1 hhi.2 (y := max (heatAt first lh lt j - s.t) (s.t - heatAt first lh lt j)) (by omega) (by omega)
  exact ⟨hh.1, ⟨this.1, this.2.1⟩, ⟨this.2.2.1, this.2.2.2⟩⟩
theorem leg_ok {zs : List Zone} (h : ZOk zs) {k first lh lt : Int} (hk : 0 ≤ k) (hk1 : k ≤ 1000) (h1 : 1 ≤ lt) (h2 : lt ≤ 2000) (a : 0 ≤ first) (b : first ≤ 2000) (c : 0 ≤ lh) (d : lh ≤ 2000) {s : St} (hs : StOk s) : ∀ j : Nat, (j : Int) ≤ lt → StOk (legS zs k first lh lt j s)
  | 0, _ => hs
  | j + 1, hj => tick_ok h (leg_ok h hk hk1 h1 h2 a b c d hs j (by omega)) hk hk1 h1 h2 hj a b c d
theorem ovenS_ok {zs : List Zone} (h : ZOk zs) {k f : Int} {ls : List Leg} (hk : 0 ≤ k) (hk1 : k ≤ 1000) (ho : OOk f ls) : ∀ n, n ≤ ls.length → StOk (ovenS zs k f ls n)
  | 0, _ => ⟨ho.from_, ⟨Int.le_refl _, show (0 : Int) ≤ 1099511627776 by decide⟩, ⟨Int.le_refl _, show (0 : Int) ≤ 1099511627776 by decide⟩⟩
  | n + 1, hn => by
    have := ovenS_ok h hk hk1 ho n (by omega)
    have hl := ho.leg n (by omega)
    exact leg_ok h hk hk1 hl.1 hl.2.1 this.t.1 this.t.2 hl.2.2.1 hl.2.2.2 this _ (by omega)
def er (p : Int × Int) : List IV := [.int .i64 p.1, .int .i64 p.2]
def strL (zs : List Zone) (k f : Int) (ls : List Leg) : Nat → List (Int × Int)
  | 0 => []
  | n + 1 => strL zs k f ls n ++ [((ovenS zs k f ls (n + 1)).lo, (ovenS zs k f ls (n + 1)).hi)]
theorem strL_len {zs : List Zone} {k f : Int} {ls : List Leg} : ∀ n, (strL zs k f ls n).length = n
  | 0 => rfl
  | n + 1 => by rw [strL, List.length_append, strL_len n]; rfl

end Go.Proofs.Ytpbadgghhiommaa.I
