/- Programmes, as the reference judges them. -/
import Derived.Test.YtpbadgghhiommaaGjm
import Derived.Test.YtpbadgghhiommaaGat
set_option linter.unusedVariables false
set_option maxHeartbeats 16000000
set_option linter.unusedSimpArgs false
namespace Go.Proofs.Ytpbadgghhiommaa.I
open Go.Ideal

theorem rCheckOven_ok (f : Int) (ls : List Leg) (hz : ls.length ≤ 9000000000000000000) (H : Heap) : Ev T (.call (.func (.func 33) [] []) [ovenI f ls] H) (.call (.int .i64 (ovenE f ls)) H) := by
  refine run_pure T33 (nn_int _ _) (nn_cons (ovenI_no _ _) nn_none) ?_ H
  have e1 : (ls.map lr).length = ls.length := List.length_map ..
  have hx : ∃ r, r = ovenE f ls := ⟨_, rfl⟩
  obtain ⟨r, hr⟩ := hx
  rw [← hr]
  unfold ovenE at hr
  repeat' ((conv => whnf); first | (refine CallP.dec (beyond_ok _ _ _) (fun h => ?_) (fun h => ?_)) | (first | refine condP.dec (fun h => ?_) (fun h => ?_) | refine condP.eq (fun h => ?_) (fun h => ?_) | refine condP.ne (fun h => ?_) (fun h => ?_)) | (refine .i64 (by omega) (by omega) ?_) | (refine onSome.intro (idx_fs rfl rfl (by omega) (by omega) (fun _ => rfl)) ?_) | (refine onSome.intro (load_fs rfl (by omega) (by omega) rfl) ?_) | (refine And.intro rfl ?_))
  all_goals unfold Beyond at *
  all_goals first | (exfalso; omega) | skip
  all_goals conv => whnf
  all_goals first
    | exact .intro (.int .i64 2) (.inl rfl) rfl (frz_int (by rw [hr, if_pos (by omega)]))
    | exact .intro (.int .i64 8) (.inl rfl) rfl (frz_int (by rw [hr, if_neg (by omega), if_pos (by omega)]))
    | skip
  rw [if_neg (by omega), if_neg (by omega)] at hr
  refine loop_rule (X := Nat) (fun i => [(1, .ptr 0 0 0), (3, .int .i64 i)]) (fun _ => [.live 2 [[.int .i64 f, lsl ls]]]) (fun i => ls.length - i) (fun i => i ≤ ls.length ∧ firstErr (legE ls) i = 0) 0
    ⟨Nat.zero_le _, rfl⟩ ⟨rfl, rfl, trivial⟩ rfl (fun _ _ => rfl) (fun i hi => ?_)
  obtain ⟨hi, h0⟩ := hi
  conv => whnf
  refine condP.dec (fun hlt => ?_) (fun hlt => ?_)
  · have hnext : legE ls i = 0 → firstErr (legE ls) (i + 1) = 0 := fun h => firstErr_succ h0 h
    have hstop : legE ls i ≠ 0 → firstErr (legE ls) ls.length = legE ls i := fun h => firstErr_stop h0 h (by omega)
    have f1 : at' ls (i : Int) = ln ls i := rfl
    have hce : ∃ c, c = legE ls i := ⟨_, rfl⟩
    obtain ⟨c, hc⟩ := hce
    rw [← hc] at hnext hstop
    unfold legE at hc
    rw [← f1] at hc
    repeat' ((conv => whnf); first | (refine CallP.dec (beyond_ok _ _ _) (fun h => ?_) (fun h => ?_)) | (first | refine condP.dec (fun h => ?_) (fun h => ?_) | refine condP.eq (fun h => ?_) (fun h => ?_) | refine condP.ne (fun h => ?_) (fun h => ?_)) | (refine .i64 (by omega) (by omega) ?_) | (refine onSome.intro (idx_fs rfl rfl (by omega) (by omega) (fun _ => rfl)) ?_) | (refine onSome.intro (load_fs rfl (by omega) (by omega) rfl) ?_) | (refine And.intro rfl ?_))
    all_goals unfold Beyond at *
    all_goals conv => whnf
    all_goals first
      | (have hc0 : c = 0 := by rw [hc, if_neg (by omega)]
         exact .more (i + 1) rfl ⟨by omega, hnext hc0⟩ (by omega) ⟨rfl, rfl, trivial⟩ rfl ⟨.ptr _ _ _ (by simp), .int _ _, trivial⟩ ⟨row_inn (oven_row _ _), trivial⟩)
      | (refine .done (by simp) ?_
         conv => whnf
         have hcn : c = 2 := by rw [hc, if_pos (by omega)]
         exact .intro (.int .i64 2) (.inl rfl) rfl (frz_int (by rw [hr, hstop (by omega), hcn])))
  · obtain rfl : i = ls.length := by omega
    conv => whnf
    refine .done (by simp) ?_
    conv => whnf
    exact .intro (.int .i64 0) (.inl rfl) rfl (frz_int (by rw [hr, h0]))
theorem rcheckWall_ok (b : Int) (zs : List Zone) (hz : zs.length ≤ 9000000000000000000) (k f : Int) (ls : List Leg) (hl : ls.length ≤ 9000000000000000000) (H : Heap) : Ev T (.call (.func (.func 110) [] []) [stuffI b zs, .int .i64 k, ovenI f ls] H) (.call (.int .i64 (wallE b zs k f ls)) H) := by
  refine run_pure T110 (nn_int _ _) (nn_cons (stuffI_no _ _) (nn_cons (nn_int _ _) (nn_cons (ovenI_no _ _) nn_none))) ?_ H
  have k1 := rCheck_ok b zs hz
  have k2 := rCheckOven_ok f ls hl
  unfold wallE
  generalize checkE b zs = c at *
  generalize ovenE f ls = d at *
  repeat' ((conv => whnf); first | (refine CallP.pure k1 ?_) | (refine CallP.pure k2 ?_) | (refine CallP.dec (beyond_ok _ _ _) (fun h => ?_) (fun h => ?_)) | (first | refine condP.dec (fun h => ?_) (fun h => ?_) | refine condP.eq (fun h => ?_) (fun h => ?_) | refine condP.ne (fun h => ?_) (fun h => ?_)) | (refine .i64 (by omega) (by omega) ?_) | (refine onSome.intro (idx_fs rfl rfl (by omega) (by omega) (fun _ => rfl)) ?_) | (refine onSome.intro (load_fs rfl (by omega) (by omega) rfl) ?_) | (refine And.intro rfl ?_))
  all_goals unfold Beyond at *
  all_goals conv => whnf
  all_goals refine .intro (.int .i64 _) (.inl rfl) rfl (frz_int ?_)
  all_goals repeat' split
  all_goals omega
theorem ovT_in {f : Int} {ls : List Leg} (h : OOk f ls) : ∀ n, n ≤ ls.length → 0 ≤ ovT f ls n ∧ ovT f ls n ≤ 2000
  | 0, _ => h.from_
  | n + 1, hn => by
    have ih := ovT_in h n (by omega)
    have hl := h.leg n (by omega)
    exact (heat_in (j := ((ln ls n).ti.toNat : Int)) hl.1 hl.2.1 (by omega) (by omega) ih.1 ih.2 hl.2.2.1 hl.2.2.2).1

theorem rHeats_ok (f : Int) (ls : List Leg) (hO : OOk f ls) (H : Heap) : Ev T (.call (.func (.func 105) [] []) [ovenI f ls] H) (.call (sl (allH f ls ls.length)) H) := by
  refine run_pure T105 (sl_no _) (nn_cons (ovenI_no _ _) nn_none) ?_ H
  have e1 : (ls.map lr).length = ls.length := List.length_map ..
  have hOl := hO.len
  conv => whnf
  refine loop_grow (X := Nat × Bool) (fun x => [(1, .ptr 0 0 0), (3, .mslice 1 0 (totT ls x.1 + 1) (totT ls x.1 + 1) x.2), (4, .int .i64 x.1)]) (fun x => [.live 2 [[.int .i64 f, lsl ls]], .live 1 ((allH f ls x.1).map ei)]) (fun x => ls.length - x.1) (fun x => x.1 ≤ ls.length) (0, true)
    (Nat.zero_le _) ⟨rfl, rfl, rfl, trivial⟩ rfl (fun x hx => ?_)
  obtain ⟨n, ex⟩ := x
  dsimp only at hx ⊢
  have hal := allH_len f ls n
  have hla := allH_last f ls hO n hx
  have htt := totT_le hO n hx
  rcases Nat.lt_or_ge n ls.length with hlt | hge
  · have hleg := hO.leg n hlt
    have hin := ovT_in hO n hx
    have fl : at' ls (n : Int) = ln ls n := rfl
    have hpn := partH_next f ls n
    have hpl := partH_len f ls n
    have htn : totT ls (n + 1) = totT ls n + (ln ls n).ti.toNat := rfl
    have hla' : at' (allH f ls n) (((totT ls n + 1 : Nat) : Int) - 1) = ovT f ls n := by rw [show ((totT ls n + 1 : Nat) : Int) - 1 = totT ls n by omega]; exact hla
    have hpf : partH f ls n (ln ls n).ti.toNat = allH f ls (n + 1) := rfl
    conv => whnf
    refine condP.dec (fun _ => ?_) (fun h => absurd (by omega) h)
    conv => whnf
    refine .i64 (by omega) (by omega) ?_
    conv => whnf
    refine onSome.intro (idx_ms rfl rfl rfl (by omega) (by omega)) ?_
    conv => whnf
    refine onSome.intro (load_ms (l := allH f ls n) (enc := ei) (i := ((totT ls n + 1 : Nat) : Int) - 1) (v := .int .i64 (ovT f ls n)) rfl rfl (by omega) (by omega) (by rw [hla']; rfl)) ?_
    conv => whnf
    refine onSome.intro (idx_fs rfl rfl (by omega) (by omega) (fun _ => rfl)) ?_
    conv => whnf
    refine onSome.intro (load_fs (i := (n : Int)) (v := .agg (lr (ln ls n))) rfl (by omega) (by omega) rfl) ?_
    generalize ln ls n = l at *
    obtain ⟨hl1, hl2, hl3, hl4⟩ := hleg
    generalize ovT f ls n = fr at *
    conv => whnf
    refine loop_grow (X := Nat × Bool) (fun x => [(1, .ptr 0 0 0), (3, .mslice 1 0 (totT ls n + 1 + x.1) (totT ls n + 1 + x.1) x.2), (4, .int .i64 n), (5, .int .i64 fr), (6, .ptr 2 0 0), (7, .int .i64 ((x.1 : Int) + 1))]) (fun x => [.live 2 [[.int .i64 f, lsl ls]], .live 1 ((partH f ls n x.1).map ei), .live 2 [lr l]])
      (fun x => l.ti.toNat - x.1) (fun x => x.1 ≤ l.ti.toNat) (0, ex) (Nat.zero_le _) ⟨rfl, rfl, rfl, rfl, rfl, rfl, trivial⟩ (by dsimp only; rw [partH_zero]; rfl) (fun x hx' => ?_)
    obtain ⟨j, ex'⟩ := x
    dsimp only at hx' ⊢
    have hpj := hpl j
    rcases Nat.lt_or_ge j l.ti.toNat with hj | hj
    · have hh := heat_in (j := (j : Int) + 1) hl1 hl2 (by omega) (by omega) hin.1 hin.2 hl3 hl4
      have hpn := hpn j
      unfold heatAt at hh hpn
      obtain ⟨g1, g2, g3⟩ := hh
      repeat' ((conv => whnf); first | (refine condP.dec (fun _ => ?_) (fun h => absurd (by omega) h)) | (refine CallP.pure (rDown_ok (by omega) (by omega) (by omega) (by omega)) ?_) | (first | refine condP.dec (fun h => ?_) (fun h => ?_) | refine condP.eq (fun h => ?_) (fun h => ?_) | refine condP.ne (fun h => ?_) (fun h => ?_)) | (refine .i64 (by omega) (by omega) ?_) | (refine onSome.intro (idx_fs rfl rfl (by omega) (by omega) (fun _ => rfl)) ?_) | (refine onSome.intro (load_fs rfl (by omega) (by omega) rfl) ?_) | (refine And.intro rfl ?_))
      conv => whnf
      refine .grow (ex := ex') (n := totT ls n + 1 + j) (es := (partH f ls n j).map ei) (es' := [[.int .i64 (fr + (l.he - fr) * ((j : Int) + 1) / l.ti)]]) rfl rfl (by rw [List.length_map, hpj]) rfl (by simp) (fun e he => by simp at he; subst he; rfl) (fun e he c hc => by simp at he; subst he; simp at hc; subst hc; rfl)
        (r := (partH f ls n j).map ei ++ [[.int .i64 (fr + (l.he - fr) * ((j : Int) + 1) / l.ti)]]) rfl (n' := totT ls n + 1 + (j + 1)) (by simp [hpj]; omega) (by omega) ?_
      (repeat ((conv => whnf); refine And.intro rfl ?_)); conv => whnf
      refine .i64 (by omega) (by omega) ?_
      conv => whnf
      exact .more (j + 1, false) [0, 4, 2] rfl (by dsimp only; omega) (by dsimp only; omega) rfl ⟨.pt rfl, .ms rfl, .same (.int _ _), .same (.int _ _), .pt rfl, .nn (.int _ _) (frz_int (by dsimp only; omega)), trivial⟩
        ⟨.same (noS_row (oven_row _ _)), (by show MvS _ _ _ _ (.live 1 ((partH f ls n (j + 1)).map ei)); rw [hpn]; exact .snoc), .same (noS_row (lr_no _)), trivial⟩
    · obtain rfl : j = l.ti.toNat := by omega
      conv => whnf
      refine condP.dec (fun h => absurd h (by omega)) (fun _ => ?_)
      conv => whnf
      refine .done (by simp) ?_
      conv => whnf
      refine .i64 (by omega) (by omega) ?_
      conv => whnf
      exact .more (n + 1, ex') [0, 1] rfl (by dsimp only; omega) (by dsimp only; omega) rfl ⟨.pt rfl, (by
          show Mv _ _ _ (.mslice 1 0 (totT ls n + 1 + l.ti.toNat) (totT ls n + 1 + l.ti.toNat) ex') (.mslice 1 0 (totT ls (n + 1) + 1) (totT ls (n + 1) + 1) ex')
          rw [show totT ls (n + 1) + 1 = totT ls n + 1 + l.ti.toNat by omega]; exact .ms rfl), .same (.int _ _), trivial⟩
        ⟨.same (noS_row (oven_row _ _)), (by show MvS _ _ _ _ (.live 1 ((allH f ls (n + 1)).map ei)); rw [← hpf]; exact .same noS_ints), trivial⟩
  · obtain rfl : n = ls.length := by omega
    conv => whnf
    refine condP.dec (fun h => absurd h (by omega)) (fun _ => ?_)
    conv => whnf
    refine .done (by simp) ?_
    conv => whnf
    exact .intro (.mslice 1 0 (totT ls ls.length + 1) (totT ls ls.length + 1) ex) (.inl rfl) rfl (.ints rfl (fun _ _ h => by cases h) hal.symm)

def rsL (zs : List Zone) (k : Int) (hs : List Int) : Nat → List (Int × Int)
  | 0 => []
  | n + 1 => rsL zs k hs n ++ [rs zs k hs n]
theorem rsL_len (zs : List Zone) (k : Int) (hs : List Int) : ∀ n, (rsL zs k hs n).length = n
  | 0 => rfl
  | n + 1 => by rw [rsL, List.length_append, rsL_len zs k hs n]; rfl
theorem rsL_at (zs : List Zone) (k : Int) (hs : List Int) {n m : Nat} (h : m < n) : at' (rsL zs k hs n) (m : Int) = rs zs k hs m := by
  induction n with
  | zero => omega
  | succ n ih =>
    unfold at' at ih ⊢
    rw [Int.toNat_natCast, List.getD_eq_getElem?_getD] at *
    rw [rsL]
    by_cases q : m = n
    · subst q
      rw [List.getElem?_append_right (by rw [rsL_len]; omega), rsL_len]; simp
    · rw [List.getElem?_append_left (by rw [rsL_len]; omega)]
      exact ih (by omega)
theorem er_no (p : Int × Int) : ∀ x ∈ er p, Noname x := nn_cons (.int _ _) (nn_cons (.int _ _) nn_none)
def ersl (l : List (Int × Int)) : IV := .fslice (l.map er)
theorem ersl_no (l : List (Int × Int)) : Noname (ersl l) := nn_fs (fun _ _ => er_no _)
theorem rstrains_ok (b : Int) (zs : List Zone) (hZ : ZOk zs) (k f : Int) (hk : 1 ≤ k) (hk1 : k ≤ 1000) (ls : List Leg) (hO : OOk f ls) (H : Heap) :
    Ev T (.call (.func (.func 111) [] []) [stuffI b zs, .int .i64 k, ovenI f ls] H) (.call (ersl (rsL zs k (allH f ls ls.length) (totT ls ls.length + 1))) H) := by
  refine run_pure T111 (ersl_no _) (nn_cons (stuffI_no _ _) (nn_cons (nn_int _ _) (nn_cons (ovenI_no _ _) nn_none))) ?_ H
  have hOl := hO.len
  have htt := totT_le hO ls.length (Nat.le_refl _)
  have kh := rHeats_ok f ls hO
  have hlen := allH_len f ls ls.length
  have hok := gS_ok hZ (show 0 ≤ k by omega) hk1 hO ls.length (Nat.le_refl _)
  have hzl := hZ.len
  unfold gS at hok
  generalize allH f ls ls.length = hs at *
  generalize totT ls ls.length = N at *
  have e3 : (hs.map ei).length = hs.length := List.length_map ..
  conv => whnf
  refine CallP.pure kh ?_
  conv => whnf
  refine loop_grow (X := Nat × Bool) (fun x => [(1, .int .i64 k), (3, .ptr 0 0 0), (7, sl hs), (8, .mslice 2 0 (x.1 + 1) (x.1 + 1) x.2), (9, .int .i64 ((x.1 : Int) + 1))]) (fun x => [.live 2 [[.int .i64 b, zsl zs]], .live 2 [[.int .i64 f, lsl ls]], .live 2 ((rsL zs k hs (x.1 + 1)).map er)])
    (fun x => N - x.1) (fun x => x.1 ≤ N) (0, true) (Nat.zero_le _) ⟨rfl, rfl, rfl, rfl, rfl, trivial⟩ rfl (fun x hx => ?_)
  obtain ⟨m, ex⟩ := x
  dsimp only at hx ⊢
  have hrl := rsL_len zs k hs (m + 1)
  have hrx : rsL zs k hs (m + 1 + 1) = rsL zs k hs (m + 1) ++ [rs zs k hs (m + 1)] := rfl
  rcases Nat.lt_or_ge m N with hlt | hge
  · have o1 := hok m (by omega)
    have o2 := hok (m + 1) (by omega)
    have t1 := o1.t
    have t2 := o2.t
    have l1 := o1.lo
    have l2 := o1.hi
    dsimp only at t1 t2 l1 l2
    have ea : at' hs ((m : Int) + 1 - 1) = at' hs (m : Int) := by rw [show (m : Int) + 1 - 1 = m by omega]
    have eb : at' hs ((m + 1 : Nat) : Int) = at' hs ((m : Int) + 1) := by rw [show ((m + 1 : Nat) : Int) = (m : Int) + 1 by omega]
    rw [eb] at t2
    have er1 : at' (rsL zs k hs (m + 1)) ((m : Int) + 1 - 1) = rs zs k hs m := by rw [show (m : Int) + 1 - 1 = m by omega]; exact rsL_at _ _ _ (by omega)
    have kz := ZoneOf_ok b zs hZ.pos (by omega) (at' hs ((m : Int) + 1))
    have hg := zoneOf_gr hZ (at' hs ((m : Int) + 1))
    have hr := zoneOf_re hZ (at' hs ((m : Int) + 1))
    have kt := tick_ok' (zoneOf zs (at' hs ((m : Int) + 1))) k (rs zs k hs m).1 (rs zs k hs m).2 (max (at' hs ((m : Int) + 1) - at' hs (m : Int)) (at' hs (m : Int) - at' hs ((m : Int) + 1))) hg hr (by omega) hk1 l1.1 l1.2 l2.1 l2.2 (by omega) (by omega)
    have hsx : rs zs k hs (m + 1) = (stepLo (zoneOf zs (at' hs ((m : Int) + 1))) k (rs zs k hs m).1 (max (at' hs ((m : Int) + 1) - at' hs (m : Int)) (at' hs (m : Int) - at' hs ((m : Int) + 1))), stepHi (zoneOf zs (at' hs ((m : Int) + 1))) k (rs zs k hs m).2 (max (at' hs ((m : Int) + 1) - at' hs (m : Int)) (at' hs (m : Int) - at' hs ((m : Int) + 1)))) := rfl
    rw [hsx] at hrx
    generalize stepLo (zoneOf zs (at' hs ((m : Int) + 1))) k (rs zs k hs m).1 (max (at' hs ((m : Int) + 1) - at' hs (m : Int)) (at' hs (m : Int) - at' hs ((m : Int) + 1))) = n1 at *
    generalize stepHi (zoneOf zs (at' hs ((m : Int) + 1))) k (rs zs k hs m).2 (max (at' hs ((m : Int) + 1) - at' hs (m : Int)) (at' hs (m : Int) - at' hs ((m : Int) + 1))) = n2 at *
    generalize zoneOf zs (at' hs ((m : Int) + 1)) = z at *
    generalize rs zs k hs m = p at *
    clear o1 o2 hok hsx eb
    generalize hA : at' hs ((m : Int) + 1) = A at *
    generalize hB : at' hs (m : Int) = B at *
    repeat' ((conv => whnf); first | (refine condP.dec (fun _ => ?_) (fun h => absurd (by omega) h)) | (refine onSome.intro (idx_ms rfl rfl rfl (by omega) (by omega)) ?_) | (refine onSome.intro (load_fs (l := hs) (enc := ei) (i := (m : Int) + 1) (v := .int .i64 A) rfl (by omega) (by omega) (by rw [hA]; rfl)) ?_) | (refine onSome.intro (load_fs (l := hs) (enc := ei) (i := (m : Int) + 1 - 1) (v := .int .i64 B) rfl (by omega) (by omega) (by rw [ea]; rfl)) ?_) | (refine onSome.intro (load_ms (l := rsL zs k hs (m + 1)) (enc := er) (i := (m : Int) + 1 - 1) (v := .agg (er p)) rfl rfl (by omega) (by omega) (by rw [er1]; rfl)) ?_) | (refine And.intro (idx_ms rfl rfl rfl (by omega) (by omega)) ?_) | (refine And.intro (load_ms (l := rsL zs k hs (m + 1)) (enc := er) (i := (m : Int) + 1 - 1) (v := .agg (er p)) rfl rfl (by omega) (by omega) (by rw [er1]; rfl)) ?_) | (refine CallP.pure kz ?_) | (refine CallP.pure kt ?_) | (first | refine condP.dec (fun h => ?_) (fun h => ?_) | refine condP.eq (fun h => ?_) (fun h => ?_) | refine condP.ne (fun h => ?_) (fun h => ?_)) | (refine .i64 (by omega) (by omega) ?_) | (refine onSome.intro (idx_fs rfl rfl (by omega) (by omega) (fun _ => rfl)) ?_) | (refine onSome.intro (load_fs rfl (by omega) (by omega) rfl) ?_) | (refine And.intro rfl ?_))
    conv => whnf
    refine .grow (ex := ex) (n := m + 1) (es := (rsL zs k hs (m + 1)).map er) (es' := [[.int .i64 n1, .int .i64 n2]]) rfl rfl (by rw [List.length_map, hrl]) rfl (by simp) (fun e he => by simp at he; subst he; rfl) (fun e he c hc => by simp at he; subst he; simp at hc; rcases hc with rfl | rfl <;> rfl)
      (r := (rsL zs k hs (m + 1)).map er ++ [[.int .i64 n1, .int .i64 n2]]) rfl (n' := m + 1 + 1) (by simp [hrl]) (by omega) ?_
    (repeat ((conv => whnf); refine And.intro rfl ?_)); conv => whnf
    refine .i64 (by omega) (by omega) ?_
    conv => whnf
    exact .more (m + 1, false) [0, 1, 4] rfl (by dsimp only; omega) (by dsimp only; omega) rfl ⟨.same (.int _ _), .pt rfl, .same (sl_no _), .ms rfl, .nn (.int _ _) (frz_int (by dsimp only; omega)), trivial⟩
      ⟨.same (noS_row (stuff_row _ _)), .same (noS_row (oven_row _ _)), (by
        show MvS _ _ _ _ (.live 2 ((rsL zs k hs (m + 1 + 1)).map er))
        rw [hrx, List.map_append]
        exact .same (s := .live 2 ((rsL zs k hs (m + 1)).map er ++ [(n1, n2)].map er)) (by rw [← List.map_append]; exact noS_map er_no)), trivial⟩
  · obtain rfl : m = N := by omega
    conv => whnf
    refine condP.dec (fun h => absurd h (by omega)) (fun _ => ?_)
    conv => whnf
    refine .done (by simp) ?_
    conv => whnf
    exact .intro (.mslice 2 0 (m + 1) (m + 1) ex) (.inl rfl) rfl (.whole (sz := 2) rfl (fun _ _ h => by cases h) (by rw [List.length_map, hrl]) (.refl _))

theorem rStrain_ok (b : Int) (zs : List Zone) (hz : zs.length ≤ 9000000000000000000) (k f : Int) (ls : List Leg) (hl : ls.length ≤ 9000000000000000000) (H : Heap) : Ev T (.call (.func (.func 73) [] []) [stuffI b zs, .int .i64 k, ovenI f ls] H)
    (.call (resL (wallE b zs k f ls) (if wallE b zs k f ls = 0 then strL zs k f ls ls.length else [])) H) := by
  refine run_pure T73 (resL_no _ _) (nn_cons (stuffI_no _ _) (nn_cons (nn_int _ _) (nn_cons (ovenI_no _ _) nn_none))) ?_ H
  have k1 := rcheckWall_ok b zs hz k f ls hl
  have kz := fun q => wall_zero (b := b) (zs := zs) (k := k) (f := f) (ls := ls) q
  have e1 : (ls.map lr).length = ls.length := List.length_map ..
  generalize wallE b zs k f ls = c at *
  conv => whnf
  refine CallP.pure k1 ?_
  conv => whnf
  refine condP.ne (fun h => ?_) (fun h => ?_)
  · rw [if_neg h]
    conv => whnf
    exact .intro (.tuple [.nilslice, .int .i64 c]) (.inl rfl) rfl (.tupleL (.cons .nil (.cons (.refl _) .nil)))
  subst h
  rw [if_pos rfl]
  have kk := kz rfl
  obtain ⟨z1, z2, z3⟩ := kk
  have hO := oven_zero z3
  have hZ := (check_zero z1).2
  have hOl := hO.len
  have ks := rstrains_ok b zs hZ k f z2.1 z2.2 ls hO
  have hrl := rsL_len zs k (allH f ls ls.length) (totT ls ls.length + 1)
  have hra := fun m h => rsL_at zs k (allH f ls ls.length) (n := totT ls ls.length + 1) (m := m) h
  generalize rsL zs k (allH f ls ls.length) (totT ls ls.length + 1) = R at *
  have e3 : (R.map er).length = R.length := List.length_map ..
  conv => whnf
  refine CallP.pure ks ?_
  conv => whnf
  refine .pad 1 ?_
  refine loop_grow (X := Nat) (fun n => [(5, .ptr 1 0 0), (9, ersl R), (10, omsl 2 (strL zs k f ls n)), (11, .int .i64 (totT ls n : Int)), (12, .int .i64 n)]) (fun n => [.live 2 [[.int .i64 b, zsl zs]], .live 2 [[.int .i64 f, lsl ls]], lsS 2 er (strL zs k f ls n)]) (fun n => ls.length - n) (fun n => n ≤ ls.length) 0
    (Nat.zero_le _) ⟨rfl, rfl, rfl, rfl, rfl, trivial⟩ rfl (fun n hn => ?_)
  have hsl := strL_len (zs := zs) (k := k) (f := f) (ls := ls) n
  rcases Nat.lt_or_ge n ls.length with hlt | hge
  · have hleg := hO.leg n hlt
    have t0 := totT_le hO n hn
    have t1 := totT_mono ls (show n + 1 ≤ ls.length by omega)
    have t2 : totT ls (n + 1) = totT ls n + (ln ls n).ti.toNat := rfl
    have hsx : strL zs k f ls (n + 1) = strL zs k f ls n ++ [((ovenS zs k f ls (n + 1)).lo, (ovenS zs k f ls (n + 1)).hi)] := rfl
    rw [gS_oven hO (n + 1) (by omega)] at hsx
    unfold gS at hsx
    dsimp only at hsx
    have hra := hra (totT ls (n + 1)) (by omega)
    generalize rs zs k (allH f ls ls.length) (totT ls (n + 1)) = p at *
    have ht : (totT ls n : Int) + (ln ls n).ti = ((totT ls (n + 1) : Nat) : Int) := by omega
    have hra' : at' R ((totT ls n : Int) + (ln ls n).ti) = p := by rw [ht]; exact hra
    have fl : at' ls (n : Int) = ln ls n := rfl
    generalize ln ls n = l at *
    generalize strL zs k f ls n = out at *
    conv => whnf
    refine condP.dec (fun _ => ?_) (fun h => absurd (by omega) h)
    conv => whnf
    refine onSome.intro (idx_fs rfl rfl (by omega) (by omega) (fun _ => rfl)) ?_
    conv => whnf
    refine onSome.intro (load_fs (l := ls) (enc := lr) (i := (n : Int)) (v := .int .i64 l.ti) rfl (by omega) (by omega) (by rw [fl]; rfl)) ?_
    conv => whnf
    refine .i64 (by omega) (by omega) ?_
    (repeat' ((conv => whnf); first | (refine force_om ?_) | (refine forceC_om ?_) | (refine And.intro rfl ?_))); conv => whnf
    refine onSome.intro (idx_fs rfl rfl (by omega) (by omega) (fun _ => rfl)) ?_
    (repeat' ((conv => whnf); first | (refine force_om ?_) | (refine forceC_om ?_) | (refine And.intro rfl ?_))); conv => whnf
    refine onSome.intro (load_fs (l := R) (enc := er) (i := (totT ls n : Int) + l.ti) (v := .agg (er p)) rfl (by omega) (by omega) (by rw [hra']; rfl)) ?_
    (repeat' ((conv => whnf); first | (refine force_om ?_) | (refine forceC_om ?_) | (refine And.intro rfl ?_))); conv => whnf
    refine .snoc (enc := er) (l := out) (b := 2) (r := er p) rfl rfl rfl rfl (fun c hc => by simp [er] at hc; rcases hc with rfl | rfl <;> rfl) (by omega) ?_
    conv => whnf
    refine .i64 (by omega) (by omega) ?_
    conv => whnf
    exact .more (n + 1) [0, 1, 4] rfl (by omega) (by omega) rfl ⟨.pt rfl, .same (ersl_no _), (by rw [hsx]; exact .grown rfl (by simp) (by simp)), .nn (.int _ _) (frz_int ht), .same (.int _ _), trivial⟩
      ⟨.same (noS_row (stuff_row _ _)), .same (noS_row (oven_row _ _)), (by rw [hsx]; exact .snocL er_no (.cons (.same (.int _ _)) (.cons (.same (.int _ _)) .nil))), trivial⟩
  · obtain rfl : n = ls.length := by omega
    generalize strL zs k f ls ls.length = out at *
    conv => whnf
    refine condP.dec (fun h => absurd h (by omega)) (fun _ => ?_)
    conv => whnf
    refine .done (by simp) ?_
    (repeat' ((conv => whnf); first | (refine force_om ?_) | (refine forceC_om ?_) | (refine And.intro rfl ?_))); conv => whnf
    exact .intro (.tuple [omsl 2 out, .int .i64 0]) (.inl rfl) rfl (.tupleL (.cons (.oml (sz := 2) (enc := er) rfl (fun _ _ h => by cases h)) (.cons (.refl _) .nil)))
end Go.Proofs.Ytpbadgghhiommaa.I
