/- The fastest cooling, as the program finds it. -/
import Derived.Test.YtpbadgghhiommaaGfast3
set_option linter.unusedVariables false
set_option maxHeartbeats 64000000
set_option linter.unusedSimpArgs false
namespace Go.Proofs.Ytpbadgghhiommaa.I
open Go.Ideal

theorem Fastest_ok (b0 : Int) (zs : List Zone) (hz : zs.length ≤ 9000000000000000000) (k f : Int) (st ps : List Int) (hst : st.length ≤ 9223372036854775807) (hps : ps.length ≤ 9223372036854775807) (left : Int) (H : Heap) :
    Ev T (.call (.func (.func 77) [] []) [stuffI b0 zs, .int .i64 k, .int .i64 f, sl st, sl ps, .int .i64 left] H) (.call (fastI (fastR b0 zs k f st ps left)) H) := by
  refine run_pure T77 (fastI_no _) (nn_cons (stuffI_no _ _) (nn_cons (nn_int _ _) (nn_cons (nn_int _ _) (nn_cons (sl_no _) (nn_cons (sl_no _) (nn_cons (nn_int _ _) nn_none)))))) ?_ H
  have kc := Check_ok b0 zs hz
  have ks := checkList_ok st hst 4 0 2000
  have kp := checkList_ok ps hps 4 1 200
  have e1 : (st.map ei).length = st.length := List.length_map ..
  have e2 : (ps.map ei).length = ps.length := List.length_map ..
  have hx : ∃ r, r = fastR b0 zs k f st ps left := ⟨_, rfl⟩
  obtain ⟨r, hr⟩ := hx
  rw [← hr]
  unfold fastR at hr
  have hcz := fun q => @check_zero b0 zs q
  have hsz := @listE_zero st 4 0 2000
  have hpz := @listE_zero ps 4 1 200
  have hok := @legsO_ok f ps st
  generalize hE1 : checkE b0 zs = e1' at *
  by_cases h1 : e1' = 0
  rotate_left
  · rw [if_pos h1] at hr
    repeat' ((conv => whnf); first | (refine CallP.pure kc ?_) | (first | refine condP.dec (fun h => ?_) (fun h => ?_) | refine condP.eq (fun h => ?_) (fun h => ?_) | refine condP.ne (fun h => ?_) (fun h => ?_)) | (refine .i64 (by omega) (by omega) ?_) | (refine onSome.intro (idx_fs rfl rfl (by omega) (by omega) (fun _ => rfl)) ?_) | (refine onSome.intro (load_fs rfl (by omega) (by omega) rfl) ?_) | (refine And.intro rfl ?_))
    all_goals first | (exfalso; omega) | skip
    all_goals conv => whnf
    all_goals exact .intro (.tuple [.nilslice, .int .i64 0, .int .i64 e1']) (.inl rfl) rfl (by rw [hr]; exact .tupleL (.cons .nil (.cons (.refl _) (.cons (.refl _) .nil))))
  subst h1
  rw [if_neg (by simp)] at hr
  by_cases h2 : (k < 1 ∨ 1000 < k) ∨ Outs f 2000
  · rw [if_pos h2] at hr
    unfold Outs at h2
    repeat' ((conv => whnf); first | (refine CallP.pure kc ?_) | (refine CallP.dec (outside_ok _ _) (fun h => ?_) (fun h => ?_)) | (first | refine condP.dec (fun h => ?_) (fun h => ?_) | refine condP.eq (fun h => ?_) (fun h => ?_) | refine condP.ne (fun h => ?_) (fun h => ?_)) | (refine .i64 (by omega) (by omega) ?_) | (refine onSome.intro (idx_fs rfl rfl (by omega) (by omega) (fun _ => rfl)) ?_) | (refine onSome.intro (load_fs rfl (by omega) (by omega) rfl) ?_) | (refine And.intro rfl ?_))
    all_goals unfold Outs at *
    all_goals first | (exfalso; omega) | skip
    all_goals conv => whnf
    all_goals exact .intro (.tuple [.nilslice, .int .i64 0, .int .i64 2]) (.inl rfl) rfl (by rw [hr]; exact .tupleL (.cons .nil (.cons (.refl _) (.cons (.refl _) .nil))))
  rw [if_neg h2] at hr
  have hfo : ¬ Outs f 2000 := fun h => h2 (.inr h)
  unfold Outs at h2
  generalize hE2 : listE st 4 0 2000 = e2' at *
  by_cases h3 : e2' = 0
  rotate_left
  · rw [if_pos h3] at hr
    repeat' ((conv => whnf); first | (refine CallP.pure kc ?_) | (refine CallP.dec (outside_ok _ _) (fun h => ?_) (fun h => ?_)) | (refine CallP.pure ks ?_) | (first | refine condP.dec (fun h => ?_) (fun h => ?_) | refine condP.eq (fun h => ?_) (fun h => ?_) | refine condP.ne (fun h => ?_) (fun h => ?_)) | (refine .i64 (by omega) (by omega) ?_) | (refine onSome.intro (idx_fs rfl rfl (by omega) (by omega) (fun _ => rfl)) ?_) | (refine onSome.intro (load_fs rfl (by omega) (by omega) rfl) ?_) | (refine And.intro rfl ?_))
    all_goals unfold Outs at *
    all_goals first | (exfalso; omega) | skip
    all_goals conv => whnf
    all_goals exact .intro (.tuple [.nilslice, .int .i64 0, .int .i64 e2']) (.inl rfl) rfl (by rw [hr]; exact .tupleL (.cons .nil (.cons (.refl _) (.cons (.refl _) .nil))))
  subst h3
  rw [if_neg (by simp)] at hr
  generalize hE3 : listE ps 4 1 200 = e3' at *
  by_cases h4 : e3' = 0
  rotate_left
  · rw [if_pos h4] at hr
    repeat' ((conv => whnf); first | (refine CallP.pure kc ?_) | (refine CallP.dec (outside_ok _ _) (fun h => ?_) (fun h => ?_)) | (refine CallP.pure ks ?_) | (refine CallP.pure kp ?_) | (first | refine condP.dec (fun h => ?_) (fun h => ?_) | refine condP.eq (fun h => ?_) (fun h => ?_) | refine condP.ne (fun h => ?_) (fun h => ?_)) | (refine .i64 (by omega) (by omega) ?_) | (refine onSome.intro (idx_fs rfl rfl (by omega) (by omega) (fun _ => rfl)) ?_) | (refine onSome.intro (load_fs rfl (by omega) (by omega) rfl) ?_) | (refine And.intro rfl ?_))
    all_goals unfold Outs at *
    all_goals first | (exfalso; omega) | skip
    all_goals conv => whnf
    all_goals exact .intro (.tuple [.nilslice, .int .i64 0, .int .i64 e3']) (.inl rfl) rfl (by rw [hr]; exact .tupleL (.cons .nil (.cons (.refl _) (.cons (.refl _) .nil))))
  subst h4
  rw [if_neg (by simp)] at hr
  by_cases h5 : Outs left 1099511627776
  · rw [if_pos h5] at hr
    unfold Outs at h5
    repeat' ((conv => whnf); first | (refine CallP.pure kc ?_) | (refine CallP.dec (outside_ok _ _) (fun h => ?_) (fun h => ?_)) | (refine CallP.pure ks ?_) | (refine CallP.pure kp ?_) | (first | refine condP.dec (fun h => ?_) (fun h => ?_) | refine condP.eq (fun h => ?_) (fun h => ?_) | refine condP.ne (fun h => ?_) (fun h => ?_)) | (refine .i64 (by omega) (by omega) ?_) | (refine onSome.intro (idx_fs rfl rfl (by omega) (by omega) (fun _ => rfl)) ?_) | (refine onSome.intro (load_fs rfl (by omega) (by omega) rfl) ?_) | (refine And.intro rfl ?_))
    all_goals unfold Outs at *
    all_goals first | (exfalso; omega) | skip
    all_goals conv => whnf
    all_goals exact .intro (.tuple [.nilslice, .int .i64 0, .int .i64 2]) (.inl rfl) rfl (by rw [hr]; exact .tupleL (.cons .nil (.cons (.refl _) (.cons (.refl _) .nil))))
  rw [if_neg h5] at hr
  unfold Outs at h5
  obtain ⟨cb, hZ⟩ := hcz rfl
  obtain ⟨s1, s2, s3⟩ := hsz rfl
  obtain ⟨p1, p2, p3⟩ := hpz rfl
  have hpow : ps.length ^ st.length ≤ 256 := Nat.le_trans (Nat.pow_le_pow_left (by omega) _) (Nat.le_trans (Nat.pow_le_pow_right (n := 4) (by decide) (by omega : st.length ≤ 4)) (by decide))
  have hpos : 0 < ps.length ^ st.length := Nat.pow_pos p1
  unfold fastB at hr
  have kj := fun o (h1 : o.length = st.length) h2 => judge_ok b0 zs (by omega) (by omega) hZ k f (by omega) (by omega) (legN ps st o st.length) (hok hfo rfl rfl h1 h2) left (by omega) (by omega)
  have hS : ∀ o, sureP b0 zs k f st ps left o ↔ (judgeV b0 zs k f (legN ps st o st.length) left).1 = 1 := fun o => Iff.rfl
  have B0 : bestF ps (sureP b0 zs k f st ps left) ps.length st.length 0 = ([], 0) := rfl
  have Bt := fun j => @bestF_take ps (sureP b0 zs k f st ps left) ps.length st.length j
  have Bs := fun j => @bestF_skip ps (sureP b0 zs k f st ps left) ps.length st.length j
  have Bn := fun j => @bestF_not ps (sureP b0 zs k f st ps left) ps.length st.length j
  generalize bestF ps (sureP b0 zs k f st ps left) ps.length st.length = B at *
  generalize sureP b0 zs k f st ps left = S at *
  repeat' ((conv => whnf); first | (refine CallP.pure kc ?_) | (refine CallP.dec (outside_ok _ _) (fun h => ?_) (fun h => ?_)) | (refine CallP.pure ks ?_) | (refine CallP.pure kp ?_) | (first | refine condP.dec (fun h => ?_) (fun h => ?_) | refine condP.eq (fun h => ?_) (fun h => ?_) | refine condP.ne (fun h => ?_) (fun h => ?_)) | (refine .i64 (by omega) (by omega) ?_) | (refine onSome.intro (idx_fs rfl rfl (by omega) (by omega) (fun _ => rfl)) ?_) | (refine onSome.intro (load_fs rfl (by omega) (by omega) rfl) ?_) | (refine And.intro rfl ?_))
  all_goals unfold Outs at *
  all_goals first | (exfalso; omega) | skip
  conv => whnf
  refine .make (n := st.length) (r := (digs ps.length st.length 0).map ei) (by show i6 _ = i6 _; rw [e1]) (by show i6 _ = i6 _; rw [e1]) (by omega) (by omega) (by rw [digs_zero p1, List.map_replicate]; rfl) ?_
  conv => whnf
  refine .pad 1 ?_
  refine loop_grow (X := Nat) (fun j => [(1, .int .i64 k), (2, .int .i64 f), (3, sl st), (4, sl ps), (5, .int .i64 left), (6, .ptr 0 0 0), (12, omsl 2 (B j).1), (13, .int .i64 (B j).2), (18, .mslice 1 0 st.length st.length true)]) (fun j => [.live 2 [[.int .i64 b0, zsl zs]], .live 1 ((digs ps.length st.length j).map ei), lsS 1 ei (B j).1]) (fun j => ps.length ^ st.length - j) (fun j => j < ps.length ^ st.length) 0
    hpos ⟨rfl, rfl, rfl, rfl, rfl, rfl, (by show IV.nilslice = omsl 2 (B 0).1; rw [B0]; rfl), (by show i6 0 = i6 (B 0).2; rw [B0]), rfl, trivial⟩ (by show [_, _, Slot.dead] = [_, _, lsS 1 ei (B 0).1]; rw [B0]; rfl) (fun j hj => ?_)
  have hdl := digs_len ps.length st.length j
  have hdi := digs_in p1 st.length j
  have hdn := digs_ne (b := ps.length) s1 j
  have hBt := Bt j
  have hBs := Bs j
  have hBn := Bn j
  generalize ho : digs ps.length st.length j = o at *
  have kji := kj o hdl hdi
  have hSo := hS o
  have hpi := pace_in p3 hdl hdi
  have htn := tickN_in ps (o := o) (m := st.length) (fun j hj => by have := (hpi j hj).2; omega)
  have e4 : (o.map ei).length = o.length := List.length_map ..
  generalize judgeV b0 zs k f (legN ps st o st.length) left = jv at *
  clear Bt Bs Bn kj hS hok
  repeat' ((conv => whnf); first | (refine force_om ?_) | (refine forceC_om ?_) | (first | refine condP.dec (fun h => ?_) (fun h => ?_) | refine condP.eq (fun h => ?_) (fun h => ?_) | refine condP.ne (fun h => ?_) (fun h => ?_)) | (refine .i64 (by omega) (by omega) ?_) | (refine onSome.intro (idx_fs rfl rfl (by omega) (by omega) (fun _ => rfl)) ?_) | (refine onSome.intro (load_fs rfl (by omega) (by omega) rfl) ?_) | (refine And.intro rfl ?_))
  refine .pad 1 ?_
  refine loop_grow (X := Nat) (fun q => [(1, .int .i64 k), (2, .int .i64 f), (3, sl st), (4, sl ps), (5, .int .i64 left), (6, .ptr 0 0 0), (12, omsl 2 (B j).1), (13, .int .i64 (B j).2), (18, .mslice 1 0 st.length st.length true), (19, .ptr 3 0 0), (20, .int .i64 (tickN ps o q)), (58, .mslice 1 0 st.length st.length true), (59, .int .i64 st.length), (60, .int .i64 q)]) (fun q => [.live 2 [[.int .i64 b0, zsl zs]], .live 1 (o.map ei), lsS 1 ei (B j).1, .live 2 [[.int .i64 f, omsl 4 (legN ps st o q)]], lsS 2 lr (legN ps st o q)]) (fun q => st.length - q) (fun q => q ≤ st.length) 0
    (Nat.zero_le _) ⟨rfl, rfl, rfl, rfl, rfl, rfl, rfl, rfl, rfl, rfl, rfl, rfl, rfl, rfl, trivial⟩ rfl (fun q hq => ?_)
  have htq := htn q hq
  have hql := legN_len ps st o q
  rcases Nat.lt_or_ge q st.length with hql' | hqg
  · have hpq := hpi q hql'
    have htq1 := htn (q + 1) hql'
    have e5 : legN ps st o (q + 1) = legN ps st o q ++ [⟨at' ps (at' o (q : Int)), at' st (q : Int)⟩] := rfl
    have e6 : tickN ps o (q + 1) = tickN ps o q + at' ps (at' o (q : Int)) := rfl
    generalize legN ps st o q = L at *
    generalize hd : at' o (q : Int) = d at *
    generalize hp : at' ps d = p at *
    generalize hs : at' st (q : Int) = s at *
    repeat' ((conv => whnf); first | (refine force_om ?_) | (refine forceC_om ?_) | (refine condP.dec (fun _ => ?_) (fun h => absurd (by omega) h)) | (refine onSome.intro (idx_ms (n := (q : Int)) rfl rfl rfl (by omega) (by omega)) ?_) | (refine onSome.intro (load_ms (l := o) (enc := ei) (i := (q : Int)) (v := .int .i64 d) rfl rfl (by omega) (by omega) (by rw [hd]; rfl)) ?_) | (refine onSome.intro (idx_fs (l := ps) (enc := ei) (n := d) rfl rfl (by omega) (by omega) (fun _ => rfl)) ?_) | (refine onSome.intro (load_fs (l := ps) (enc := ei) (i := d) (v := .int .i64 p) rfl (by omega) (by omega) (by rw [hp]; rfl)) ?_) | (refine onSome.intro (idx_fs (l := st) (enc := ei) (n := (q : Int)) rfl rfl (by omega) (by omega) (fun _ => rfl)) ?_) | (refine onSome.intro (load_fs (l := st) (enc := ei) (i := (q : Int)) (v := .int .i64 s) rfl (by omega) (by omega) (by rw [hs]; rfl)) ?_) | (refine OpP.snoc (enc := lr) (l := L) (b := 4) (r := [.int .i64 p, .int .i64 s]) rfl rfl rfl rfl (fun c hc => by simp at hc; rcases hc with rfl | rfl <;> rfl) (by omega) ?_) | (first | refine condP.dec (fun h => ?_) (fun h => ?_) | refine condP.eq (fun h => ?_) (fun h => ?_) | refine condP.ne (fun h => ?_) (fun h => ?_)) | (refine .i64 (by omega) (by omega) ?_) | (refine onSome.intro (idx_fs rfl rfl (by omega) (by omega) (fun _ => rfl)) ?_) | (refine onSome.intro (load_fs rfl (by omega) (by omega) rfl) ?_) | (refine And.intro rfl ?_))
    exact .more (q + 1) [0, 1, 2, 3, 6] rfl (by omega) (by omega) rfl ⟨.same (.int _ _), .same (.int _ _), .same (sl_no _), .same (sl_no _), .same (.int _ _), .pt rfl, .omsl rfl, .same (.int _ _), .ms rfl, .pt rfl, .nn (.int _ _) (frz_int (by rw [e6])), .ms rfl, .same (.int _ _), .nn (.int _ _) (frz_int (by omega)), trivial⟩
      ⟨.same (noS_row (nn_cons (.int _ _) (nn_cons (zsl_no _) nn_none))), .same noS_ints, .same (lsS_no ei_no), .row (.cons (.same (.int _ _)) (.cons (by rw [e5]; exact .grown rfl (by simp) (by simp)) .nil)), (by rw [e5]; exact .snocL (enc := lr) (a := ⟨p, s⟩) lr_no (.cons (.same (.int _ _)) (.cons (.same (.int _ _)) .nil))), trivial⟩
  obtain rfl : q = st.length := by omega
  generalize hL : legN ps st o st.length = L at *
  generalize tickN ps o st.length = tk at *
  have hFz : ∀ {H' : Heap}, (∀ sz e, H' 4 ≠ .live sz e) → ∀ {H : Heap}, H 4 = lsS 2 lr L → Frz H H' (.agg [.int .i64 f, omsl 4 L]) (ovenI f L) := fun h1 _ h2 => .aggL (.cons (.refl _) (.cons (.oml (enc := lr) h2 h1) .nil))
  have hjb : Bare (IV.tuple [.int .i64 jv.1, .int .i64 jv.2]) := .tupleL (.cons (.int _ _) (.cons (.int _ _) .nil))
  have hLi : ∀ n, 4 < n → ∀ (j k : Nat) (h : j < [[IV.int .i64 f, omsl 4 L]].length) (h' : k < [[IV.int .i64 f, omsl 4 L]][j].length), Inn (· < n) [[IV.int .i64 f, omsl 4 L]][j][k] := fun n hn => inn_row (in_cons (.int _ _) (in_one (by
    cases L with
    | nil => exact .nilslice
    | cons a L => exact .mslice _ _ _ _ _ hn)))
  have hLi2 : ∀ n, chkS (· < n) [lsS 2 lr L] := fun n => lsS_inn lr_no trivial
  generalize hBB : B j = bb at *
  obtain ⟨best, least⟩ := bb
  dsimp only at *
  rcases best with _ | ⟨a0, bs⟩
  · have hu : List.all [.live 2 [[.int .i64 b0, zsl zs]], .live 1 (o.map ei), lsS 1 ei ([] : List Int), .live 2 [[.int .i64 f, omsl 4 L]], lsS 2 lr L] Slot.used = true := by rw [List.all_cons, List.all_cons, List.all_cons, List.all_cons, List.all_cons, lsS_used, lsS_used]; rfl
    repeat' ((conv => whnf); first | (refine force_om ?_) | (refine forceC_om ?_) | (refine condP.dec (fun h => absurd h (by omega)) (fun _ => ?_)) | (first | refine condP.dec (fun h => ?_) (fun h => ?_) | refine condP.eq (fun h => ?_) (fun h => ?_) | refine condP.ne (fun h => ?_) (fun h => ?_)) | (refine .i64 (by omega) (by omega) ?_) | (refine onSome.intro (idx_fs rfl rfl (by omega) (by omega) (fun _ => rfl)) ?_) | (refine onSome.intro (load_fs rfl (by omega) (by omega) rfl) ?_) | (refine And.intro rfl ?_))
    refine .done (by simp) ?_
    repeat' ((conv => whnf); first | (refine force_om ?_) | (refine forceC_om ?_) | (refine CallP.borrow [3, 4] hu (.cons (.refl _) (.cons (.refl _) (.cons (hFz (fun _ _ h => by cases h) rfl) (.cons (.refl _) .nil)))) (nn_cons (stuffI_no _ _) (nn_cons (nn_int _ _) (nn_cons (ovenI_no _ _) (nn_cons (nn_int _ _) nn_none)))) kji hjb ?_) | (first | refine condP.dec (fun h => ?_) (fun h => ?_) | refine condP.eq (fun h => ?_) (fun h => ?_) | refine condP.ne (fun h => ?_) (fun h => ?_)) | (refine .i64 (by omega) (by omega) ?_) | (refine onSome.intro (idx_fs rfl rfl (by omega) (by omega) (fun _ => rfl)) ?_) | (refine onSome.intro (load_fs rfl (by omega) (by omega) rfl) ?_) | (refine And.intro rfl ?_))
    · have hB1 := hBt (.inl rfl) (hSo.mpr (by assumption))
      conv => whnf
      refine CallP.inl T115 hu ?_
      conv => whnf
      refine .full (es := []) (n := 0) rfl rfl rfl (elsOf_ms rfl (by rw [e4, hdl])) (by simpa using hdn) ei_len ei_ok (r := o.map ei) rfl (n' := st.length) (by rw [e4, hdl]) (by omega) ?_

      repeat' ((conv => whnf); first | (refine force_om ?_) | (refine forceC_om ?_) | (first | refine condP.dec (fun h => ?_) (fun h => ?_) | refine condP.eq (fun h => ?_) (fun h => ?_) | refine condP.ne (fun h => ?_) (fun h => ?_)) | (refine .i64 (by omega) (by omega) ?_) | (refine onSome.intro (idx_fs rfl rfl (by omega) (by omega) (fun _ => rfl)) ?_) | (refine onSome.intro (load_fs rfl (by omega) (by omega) rfl) ?_) | (refine And.intro rfl ?_))
      refine loop_rule (X := Nat × Nat) (fun x => [(1, .int .i64 k), (2, .int .i64 f), (3, sl st), (4, sl ps), (5, .int .i64 left), (6, .ptr 0 0 0), (12, .mslice 6 0 st.length st.length false), (13, .int .i64 tk), (18, .mslice 1 0 st.length st.length true), (25, .int .i64 ((x.1 : Int) - 1))]) (fun x => [.live 2 [[.int .i64 b0, zsl zs]], .live 1 ((odoL ps.length st.length x.1 x.2).map ei), lsS 1 ei ([] : List Int), .live 2 [[.int .i64 f, omsl 4 L]], lsS 2 lr L, .live 1 [], .live 1 (o.map ei)]) (fun x => x.1) (fun x => Odo ps.length st.length j x.1 x.2) (st.length, j)
        (Odo.init hj) ⟨rfl, rfl, rfl, rfl, rfl, rfl, rfl, rfl, rfl, rfl, trivial⟩ (by dsimp only; rw [odoL_init, ho]; try rfl) (fun _ _ => rfl) (fun x hx => ?_)
      obtain ⟨q, i⟩ := x
      dsimp only at hx ⊢
      have hle := hx.le
      rcases q with _ | q
      · have hz := hx.zero
        rw [← hz, hB1] at hr
        repeat' ((conv => whnf); first | (refine condP.dec (fun h => absurd h (by omega)) (fun _ => ?_)) | (first | refine condP.dec (fun h => ?_) (fun h => ?_) | refine condP.eq (fun h => ?_) (fun h => ?_) | refine condP.ne (fun h => ?_) (fun h => ?_)) | (refine .i64 (by omega) (by omega) ?_) | (refine onSome.intro (idx_fs rfl rfl (by omega) (by omega) (fun _ => rfl)) ?_) | (refine onSome.intro (load_fs rfl (by omega) (by omega) rfl) ?_) | (refine And.intro rfl ?_))
        refine .done (by simp) ?_
        conv => whnf
        refine .done (by simp) ?_
        rw [if_neg hdn] at hr
        conv => whnf
        exact .intro (.tuple [.mslice 6 0 st.length st.length false, .int .i64 tk, .int .i64 0]) (.inl rfl) rfl (by rw [hr]; exact .tupleL (.cons (.ints (sz := 1) (l := o) rfl (fun _ _ h => by cases h) (by omega)) (.cons (.refl _) (.cons (.refl _) .nil))))
      · have hol := odoL_len (b := ps.length) (i := i) hle
        have hoa := odoL_at (b := ps.length) (i := i) hle
        have hos := odoL_set (b := ps.length) (i := i) hle ((i % ps.length : Nat) + 1 : Int)
        have hoa2 := odoL_at2 (b := ps.length) (i := i) hle ((i % ps.length : Nat) + 1 : Int)
        have hos2 := odoL_set2 (b := ps.length) (i := i) hle ((i % ps.length : Nat) + 1 : Int)
        have hnx := hx.next p1
        have hcy := hx.carry p1
        have hml := Nat.mod_lt i p1
        have hl2 : (digs ps.length q (i / ps.length) ++ [((i % ps.length : Nat) + 1 : Int)] ++ List.replicate (st.length - (q + 1)) 0).length = st.length := by rw [← hos, List.length_set, hol]
        generalize digs ps.length q (i / ps.length) ++ [((i % ps.length : Nat) + 1 : Int)] ++ List.replicate (st.length - (q + 1)) 0 = N2 at *
        generalize hN1 : odoL ps.length st.length (q + 1) i = N1 at *
        generalize i % ps.length = xd at *
        have hq1 : (((q + 1 : Nat) : Int) - 1).toNat = q := by omega
        repeat' ((conv => whnf); first | (refine condP.dec (fun _ => ?_) (fun h => absurd (by omega) h)) | (refine onSome.intro (idx_ms (n := ((q + 1 : Nat) : Int) - 1) rfl rfl rfl (by omega) (by omega)) ?_) | (refine onSome.intro (load_ms (l := N1) (enc := ei) (i := ((q + 1 : Nat) : Int) - 1) (v := .int .i64 (xd : Int)) rfl rfl (by omega) (by omega) (by rw [show ((q + 1 : Nat) : Int) - 1 = (q : Int) by omega, hoa]; rfl)) ?_) | (refine onSome.intro (a := [.int .i64 (xd : Int)]) (by show (N1.map ei)[(((q + 1 : Nat) : Int) - 1).toNat]? = _; rw [hq1, get_ei (by omega)]; congr 1; rw [← at'_get (show q < N1.length by omega), hoa]; rfl) ?_) | (first | refine condP.dec (fun h => ?_) (fun h => ?_) | refine condP.eq (fun h => ?_) (fun h => ?_) | refine condP.ne (fun h => ?_) (fun h => ?_)) | (refine .i64 (by omega) (by omega) ?_) | (refine onSome.intro (idx_fs rfl rfl (by omega) (by omega) (fun _ => rfl)) ?_) | (refine onSome.intro (load_fs rfl (by omega) (by omega) rfl) ?_) | (refine And.intro rfl ?_))
        refine store_ei (l' := N2) (v := (xd : Int) + 1) rfl (by rw [hq1]; exact hos) ?_
        conv => whnf
        refine onSome.intro (idx_ms (n := ((q + 1 : Nat) : Int) - 1) rfl rfl rfl (by omega) (by omega)) ?_
        conv => whnf
        refine onSome.intro (load_ms (l := N2) (enc := ei) (i := ((q + 1 : Nat) : Int) - 1) (v := .int .i64 ((xd : Int) + 1)) rfl rfl (by omega) (by omega) (by rw [show ((q + 1 : Nat) : Int) - 1 = (q : Int) by omega, hoa2]; rfl)) ?_
        conv => whnf
        refine condP.dec (fun hc => ?_) (fun hc => ?_)
        · obtain ⟨g1, g2⟩ := hnx (by omega)
          conv => whnf
          refine .done (by simp) ?_
          conv => whnf
          exact .more (j + 1) [0, 1, 6] rfl g1 (by omega) rfl ⟨.same (.int _ _), .same (.int _ _), .same (sl_no _), .same (sl_no _), .same (.int _ _), .pt rfl, (by rw [hB1]; exact .grown rfl (by omega) hdn), (by rw [hB1]; exact .same (.int _ _)), .ms rfl, trivial⟩ ⟨.same (noS_row (nn_cons (.int _ _) (nn_cons (zsl_no _) nn_none))), (by rw [g2]; exact .same noS_ints), (by rw [hB1]; show MvS _ _ _ _ (lsS 1 ei o); rw [lsS_ne hdn]; exact .same noS_ints), trivial⟩
        · have hcy := hcy (by omega)
          conv => whnf
          refine onSome.intro (idx_ms (n := ((q + 1 : Nat) : Int) - 1) rfl rfl rfl (by omega) (by omega)) ?_
          conv => whnf
          refine onSome.intro (a := [.int .i64 ((xd : Int) + 1)]) (by show (N2.map ei)[(((q + 1 : Nat) : Int) - 1).toNat]? = _; rw [hq1, get_ei (by omega)]; congr 1; rw [← at'_get (show q < N2.length by omega), hoa2]; rfl) ?_
          conv => whnf
          refine store_ei (l' := odoL ps.length st.length q (i / ps.length)) (v := 0) rfl (by rw [hq1]; exact hos2) ?_
          conv => whnf
          refine .i64 (by omega) (by omega) ?_
          conv => whnf
          exact .more (q, i / ps.length) rfl hcy (by dsimp only; omega) ⟨rfl, rfl, rfl, rfl, rfl, rfl, rfl, rfl, rfl, (by show i6 _ = i6 _; congr 1; dsimp only; omega), trivial⟩ rfl
            ⟨.int _ _, .int _ _, (sl_no _).inn _, (sl_no _).inn _, .int _ _, .ptr _ _ _ (by simp), .mslice _ _ _ _ _ (by simp), .int _ _, .mslice _ _ _ _ _ (by simp), .int _ _, trivial⟩ ⟨(fun j k h h' => (noS_row (sz := 2) (nn_cons (.int _ _) (nn_cons (zsl_no _) nn_none)) _ (List.getElem_mem h) _ (List.getElem_mem h')).inn _), (fun j k h h' => (noS_ints (sz := 1) _ (List.getElem_mem h) _ (List.getElem_mem h')).inn _), hLi _ (by simp), lsS_inn lr_no ⟨(fun j k h => by simp at h), (fun j k h h' => (noS_ints (sz := 1) _ (List.getElem_mem h) _ (List.getElem_mem h')).inn _), trivial⟩⟩

    · have hB1 := hBn (fun h => absurd (hSo.mp h) (by assumption))
      repeat' ((conv => whnf); first | (refine force_om ?_) | (refine forceC_om ?_) | (first | refine condP.dec (fun h => ?_) (fun h => ?_) | refine condP.eq (fun h => ?_) (fun h => ?_) | refine condP.ne (fun h => ?_) (fun h => ?_)) | (refine .i64 (by omega) (by omega) ?_) | (refine onSome.intro (idx_fs rfl rfl (by omega) (by omega) (fun _ => rfl)) ?_) | (refine onSome.intro (load_fs rfl (by omega) (by omega) rfl) ?_) | (refine And.intro rfl ?_))
      refine loop_rule (X := Nat × Nat) (fun x => [(1, .int .i64 k), (2, .int .i64 f), (3, sl st), (4, sl ps), (5, .int .i64 left), (6, .ptr 0 0 0), (12, omsl 2 ([] : List Int)), (13, .int .i64 least), (18, .mslice 1 0 st.length st.length true), (25, .int .i64 ((x.1 : Int) - 1))]) (fun x => [.live 2 [[.int .i64 b0, zsl zs]], .live 1 ((odoL ps.length st.length x.1 x.2).map ei), lsS 1 ei ([] : List Int), .live 2 [[.int .i64 f, omsl 4 L]], lsS 2 lr L]) (fun x => x.1) (fun x => Odo ps.length st.length j x.1 x.2) (st.length, j)
        (Odo.init hj) ⟨rfl, rfl, rfl, rfl, rfl, rfl, rfl, rfl, rfl, rfl, trivial⟩ (by dsimp only; rw [odoL_init, ho]; try rfl) (fun _ _ => rfl) (fun x hx => ?_)
      obtain ⟨q, i⟩ := x
      dsimp only at hx ⊢
      have hle := hx.le
      rcases q with _ | q
      · have hz := hx.zero
        rw [← hz, hB1] at hr
        repeat' ((conv => whnf); first | (refine condP.dec (fun h => absurd h (by omega)) (fun _ => ?_)) | (first | refine condP.dec (fun h => ?_) (fun h => ?_) | refine condP.eq (fun h => ?_) (fun h => ?_) | refine condP.ne (fun h => ?_) (fun h => ?_)) | (refine .i64 (by omega) (by omega) ?_) | (refine onSome.intro (idx_fs rfl rfl (by omega) (by omega) (fun _ => rfl)) ?_) | (refine onSome.intro (load_fs rfl (by omega) (by omega) rfl) ?_) | (refine And.intro rfl ?_))
        refine .done (by simp) ?_
        conv => whnf
        refine .done (by simp) ?_
        rw [if_pos rfl] at hr
        conv => whnf
        exact .intro (.tuple [.nilslice, .int .i64 0, .int .i64 7]) (.inl rfl) rfl (by rw [hr]; exact .tupleL (.cons .nil (.cons (.refl _) (.cons (.refl _) .nil))))
      · have hol := odoL_len (b := ps.length) (i := i) hle
        have hoa := odoL_at (b := ps.length) (i := i) hle
        have hos := odoL_set (b := ps.length) (i := i) hle ((i % ps.length : Nat) + 1 : Int)
        have hoa2 := odoL_at2 (b := ps.length) (i := i) hle ((i % ps.length : Nat) + 1 : Int)
        have hos2 := odoL_set2 (b := ps.length) (i := i) hle ((i % ps.length : Nat) + 1 : Int)
        have hnx := hx.next p1
        have hcy := hx.carry p1
        have hml := Nat.mod_lt i p1
        have hl2 : (digs ps.length q (i / ps.length) ++ [((i % ps.length : Nat) + 1 : Int)] ++ List.replicate (st.length - (q + 1)) 0).length = st.length := by rw [← hos, List.length_set, hol]
        generalize digs ps.length q (i / ps.length) ++ [((i % ps.length : Nat) + 1 : Int)] ++ List.replicate (st.length - (q + 1)) 0 = N2 at *
        generalize hN1 : odoL ps.length st.length (q + 1) i = N1 at *
        generalize i % ps.length = xd at *
        have hq1 : (((q + 1 : Nat) : Int) - 1).toNat = q := by omega
        repeat' ((conv => whnf); first | (refine condP.dec (fun _ => ?_) (fun h => absurd (by omega) h)) | (refine onSome.intro (idx_ms (n := ((q + 1 : Nat) : Int) - 1) rfl rfl rfl (by omega) (by omega)) ?_) | (refine onSome.intro (load_ms (l := N1) (enc := ei) (i := ((q + 1 : Nat) : Int) - 1) (v := .int .i64 (xd : Int)) rfl rfl (by omega) (by omega) (by rw [show ((q + 1 : Nat) : Int) - 1 = (q : Int) by omega, hoa]; rfl)) ?_) | (refine onSome.intro (a := [.int .i64 (xd : Int)]) (by show (N1.map ei)[(((q + 1 : Nat) : Int) - 1).toNat]? = _; rw [hq1, get_ei (by omega)]; congr 1; rw [← at'_get (show q < N1.length by omega), hoa]; rfl) ?_) | (first | refine condP.dec (fun h => ?_) (fun h => ?_) | refine condP.eq (fun h => ?_) (fun h => ?_) | refine condP.ne (fun h => ?_) (fun h => ?_)) | (refine .i64 (by omega) (by omega) ?_) | (refine onSome.intro (idx_fs rfl rfl (by omega) (by omega) (fun _ => rfl)) ?_) | (refine onSome.intro (load_fs rfl (by omega) (by omega) rfl) ?_) | (refine And.intro rfl ?_))
        refine store_ei (l' := N2) (v := (xd : Int) + 1) rfl (by rw [hq1]; exact hos) ?_
        conv => whnf
        refine onSome.intro (idx_ms (n := ((q + 1 : Nat) : Int) - 1) rfl rfl rfl (by omega) (by omega)) ?_
        conv => whnf
        refine onSome.intro (load_ms (l := N2) (enc := ei) (i := ((q + 1 : Nat) : Int) - 1) (v := .int .i64 ((xd : Int) + 1)) rfl rfl (by omega) (by omega) (by rw [show ((q + 1 : Nat) : Int) - 1 = (q : Int) by omega, hoa2]; rfl)) ?_
        conv => whnf
        refine condP.dec (fun hc => ?_) (fun hc => ?_)
        · obtain ⟨g1, g2⟩ := hnx (by omega)
          conv => whnf
          refine .done (by simp) ?_
          conv => whnf
          exact .more (j + 1) [0, 1, 2] rfl g1 (by omega) rfl ⟨.same (.int _ _), .same (.int _ _), .same (sl_no _), .same (sl_no _), .same (.int _ _), .pt rfl, (by rw [hB1]; exact .same .nilslice), (by rw [hB1]; exact .same (.int _ _)), .ms rfl, trivial⟩ ⟨.same (noS_row (nn_cons (.int _ _) (nn_cons (zsl_no _) nn_none))), (by rw [g2]; exact .same noS_ints), (by rw [hB1]; exact .same (s := .dead) trivial), trivial⟩
        · have hcy := hcy (by omega)
          conv => whnf
          refine onSome.intro (idx_ms (n := ((q + 1 : Nat) : Int) - 1) rfl rfl rfl (by omega) (by omega)) ?_
          conv => whnf
          refine onSome.intro (a := [.int .i64 ((xd : Int) + 1)]) (by show (N2.map ei)[(((q + 1 : Nat) : Int) - 1).toNat]? = _; rw [hq1, get_ei (by omega)]; congr 1; rw [← at'_get (show q < N2.length by omega), hoa2]; rfl) ?_
          conv => whnf
          refine store_ei (l' := odoL ps.length st.length q (i / ps.length)) (v := 0) rfl (by rw [hq1]; exact hos2) ?_
          conv => whnf
          refine .i64 (by omega) (by omega) ?_
          conv => whnf
          exact .more (q, i / ps.length) rfl hcy (by dsimp only; omega) ⟨rfl, rfl, rfl, rfl, rfl, rfl, rfl, rfl, rfl, (by show i6 _ = i6 _; congr 1; dsimp only; omega), trivial⟩ rfl
            ⟨.int _ _, .int _ _, (sl_no _).inn _, (sl_no _).inn _, .int _ _, .ptr _ _ _ (by simp), .nilslice, .int _ _, .mslice _ _ _ _ _ (by simp), .int _ _, trivial⟩ ⟨(fun j k h h' => (noS_row (sz := 2) (nn_cons (.int _ _) (nn_cons (zsl_no _) nn_none)) _ (List.getElem_mem h) _ (List.getElem_mem h')).inn _), (fun j k h h' => (noS_ints (sz := 1) _ (List.getElem_mem h) _ (List.getElem_mem h')).inn _), hLi _ (by simp), hLi2 _⟩

  · have hu : List.all [.live 2 [[.int .i64 b0, zsl zs]], .live 1 (o.map ei), lsS 1 ei (a0 :: bs), .live 2 [[.int .i64 f, omsl 4 L]], lsS 2 lr L] Slot.used = true := by rw [List.all_cons, List.all_cons, List.all_cons, List.all_cons, List.all_cons, lsS_used, lsS_used]; rfl
    repeat' ((conv => whnf); first | (refine force_om ?_) | (refine forceC_om ?_) | (refine condP.dec (fun h => absurd h (by omega)) (fun _ => ?_)) | (first | refine condP.dec (fun h => ?_) (fun h => ?_) | refine condP.eq (fun h => ?_) (fun h => ?_) | refine condP.ne (fun h => ?_) (fun h => ?_)) | (refine .i64 (by omega) (by omega) ?_) | (refine onSome.intro (idx_fs rfl rfl (by omega) (by omega) (fun _ => rfl)) ?_) | (refine onSome.intro (load_fs rfl (by omega) (by omega) rfl) ?_) | (refine And.intro rfl ?_))
    refine .done (by simp) ?_
    repeat' ((conv => whnf); first | (refine force_om ?_) | (refine forceC_om ?_) | (refine CallP.borrow [3, 4] hu (.cons (.refl _) (.cons (.refl _) (.cons (hFz (fun _ _ h => by cases h) rfl) (.cons (.refl _) .nil)))) (nn_cons (stuffI_no _ _) (nn_cons (nn_int _ _) (nn_cons (ovenI_no _ _) (nn_cons (nn_int _ _) nn_none)))) kji hjb ?_) | (first | refine condP.dec (fun h => ?_) (fun h => ?_) | refine condP.eq (fun h => ?_) (fun h => ?_) | refine condP.ne (fun h => ?_) (fun h => ?_)) | (refine .i64 (by omega) (by omega) ?_) | (refine onSome.intro (idx_fs rfl rfl (by omega) (by omega) (fun _ => rfl)) ?_) | (refine onSome.intro (load_fs rfl (by omega) (by omega) rfl) ?_) | (refine And.intro rfl ?_))
    · have hB1 := hBt (.inr (by omega)) (hSo.mpr (by assumption))
      conv => whnf
      refine CallP.inl T115 hu ?_
      conv => whnf
      refine .full (es := []) (n := 0) rfl rfl rfl (elsOf_ms rfl (by rw [e4, hdl])) (by simpa using hdn) ei_len ei_ok (r := o.map ei) rfl (n' := st.length) (by rw [e4, hdl]) (by omega) ?_

      repeat' ((conv => whnf); first | (refine force_om ?_) | (refine forceC_om ?_) | (first | refine condP.dec (fun h => ?_) (fun h => ?_) | refine condP.eq (fun h => ?_) (fun h => ?_) | refine condP.ne (fun h => ?_) (fun h => ?_)) | (refine .i64 (by omega) (by omega) ?_) | (refine onSome.intro (idx_fs rfl rfl (by omega) (by omega) (fun _ => rfl)) ?_) | (refine onSome.intro (load_fs rfl (by omega) (by omega) rfl) ?_) | (refine And.intro rfl ?_))
      refine loop_rule (X := Nat × Nat) (fun x => [(1, .int .i64 k), (2, .int .i64 f), (3, sl st), (4, sl ps), (5, .int .i64 left), (6, .ptr 0 0 0), (12, .mslice 6 0 st.length st.length false), (13, .int .i64 tk), (18, .mslice 1 0 st.length st.length true), (25, .int .i64 ((x.1 : Int) - 1))]) (fun x => [.live 2 [[.int .i64 b0, zsl zs]], .live 1 ((odoL ps.length st.length x.1 x.2).map ei), lsS 1 ei (a0 :: bs), .live 2 [[.int .i64 f, omsl 4 L]], lsS 2 lr L, .live 1 [], .live 1 (o.map ei)]) (fun x => x.1) (fun x => Odo ps.length st.length j x.1 x.2) (st.length, j)
        (Odo.init hj) ⟨rfl, rfl, rfl, rfl, rfl, rfl, rfl, rfl, rfl, rfl, trivial⟩ (by dsimp only; rw [odoL_init, ho]; try rfl) (fun _ _ => rfl) (fun x hx => ?_)
      obtain ⟨q, i⟩ := x
      dsimp only at hx ⊢
      have hle := hx.le
      rcases q with _ | q
      · have hz := hx.zero
        rw [← hz, hB1] at hr
        repeat' ((conv => whnf); first | (refine condP.dec (fun h => absurd h (by omega)) (fun _ => ?_)) | (first | refine condP.dec (fun h => ?_) (fun h => ?_) | refine condP.eq (fun h => ?_) (fun h => ?_) | refine condP.ne (fun h => ?_) (fun h => ?_)) | (refine .i64 (by omega) (by omega) ?_) | (refine onSome.intro (idx_fs rfl rfl (by omega) (by omega) (fun _ => rfl)) ?_) | (refine onSome.intro (load_fs rfl (by omega) (by omega) rfl) ?_) | (refine And.intro rfl ?_))
        refine .done (by simp) ?_
        conv => whnf
        refine .done (by simp) ?_
        rw [if_neg hdn] at hr
        conv => whnf
        exact .intro (.tuple [.mslice 6 0 st.length st.length false, .int .i64 tk, .int .i64 0]) (.inl rfl) rfl (by rw [hr]; exact .tupleL (.cons (.ints (sz := 1) (l := o) rfl (fun _ _ h => by cases h) (by omega)) (.cons (.refl _) (.cons (.refl _) .nil))))
      · have hol := odoL_len (b := ps.length) (i := i) hle
        have hoa := odoL_at (b := ps.length) (i := i) hle
        have hos := odoL_set (b := ps.length) (i := i) hle ((i % ps.length : Nat) + 1 : Int)
        have hoa2 := odoL_at2 (b := ps.length) (i := i) hle ((i % ps.length : Nat) + 1 : Int)
        have hos2 := odoL_set2 (b := ps.length) (i := i) hle ((i % ps.length : Nat) + 1 : Int)
        have hnx := hx.next p1
        have hcy := hx.carry p1
        have hml := Nat.mod_lt i p1
        have hl2 : (digs ps.length q (i / ps.length) ++ [((i % ps.length : Nat) + 1 : Int)] ++ List.replicate (st.length - (q + 1)) 0).length = st.length := by rw [← hos, List.length_set, hol]
        generalize digs ps.length q (i / ps.length) ++ [((i % ps.length : Nat) + 1 : Int)] ++ List.replicate (st.length - (q + 1)) 0 = N2 at *
        generalize hN1 : odoL ps.length st.length (q + 1) i = N1 at *
        generalize i % ps.length = xd at *
        have hq1 : (((q + 1 : Nat) : Int) - 1).toNat = q := by omega
        repeat' ((conv => whnf); first | (refine condP.dec (fun _ => ?_) (fun h => absurd (by omega) h)) | (refine onSome.intro (idx_ms (n := ((q + 1 : Nat) : Int) - 1) rfl rfl rfl (by omega) (by omega)) ?_) | (refine onSome.intro (load_ms (l := N1) (enc := ei) (i := ((q + 1 : Nat) : Int) - 1) (v := .int .i64 (xd : Int)) rfl rfl (by omega) (by omega) (by rw [show ((q + 1 : Nat) : Int) - 1 = (q : Int) by omega, hoa]; rfl)) ?_) | (refine onSome.intro (a := [.int .i64 (xd : Int)]) (by show (N1.map ei)[(((q + 1 : Nat) : Int) - 1).toNat]? = _; rw [hq1, get_ei (by omega)]; congr 1; rw [← at'_get (show q < N1.length by omega), hoa]; rfl) ?_) | (first | refine condP.dec (fun h => ?_) (fun h => ?_) | refine condP.eq (fun h => ?_) (fun h => ?_) | refine condP.ne (fun h => ?_) (fun h => ?_)) | (refine .i64 (by omega) (by omega) ?_) | (refine onSome.intro (idx_fs rfl rfl (by omega) (by omega) (fun _ => rfl)) ?_) | (refine onSome.intro (load_fs rfl (by omega) (by omega) rfl) ?_) | (refine And.intro rfl ?_))
        refine store_ei (l' := N2) (v := (xd : Int) + 1) rfl (by rw [hq1]; exact hos) ?_
        conv => whnf
        refine onSome.intro (idx_ms (n := ((q + 1 : Nat) : Int) - 1) rfl rfl rfl (by omega) (by omega)) ?_
        conv => whnf
        refine onSome.intro (load_ms (l := N2) (enc := ei) (i := ((q + 1 : Nat) : Int) - 1) (v := .int .i64 ((xd : Int) + 1)) rfl rfl (by omega) (by omega) (by rw [show ((q + 1 : Nat) : Int) - 1 = (q : Int) by omega, hoa2]; rfl)) ?_
        conv => whnf
        refine condP.dec (fun hc => ?_) (fun hc => ?_)
        · obtain ⟨g1, g2⟩ := hnx (by omega)
          conv => whnf
          refine .done (by simp) ?_
          conv => whnf
          exact .more (j + 1) [0, 1, 6] rfl g1 (by omega) rfl ⟨.same (.int _ _), .same (.int _ _), .same (sl_no _), .same (sl_no _), .same (.int _ _), .pt rfl, (by rw [hB1]; exact .grown rfl (by omega) hdn), (by rw [hB1]; exact .same (.int _ _)), .ms rfl, trivial⟩ ⟨.same (noS_row (nn_cons (.int _ _) (nn_cons (zsl_no _) nn_none))), (by rw [g2]; exact .same noS_ints), (by rw [hB1]; show MvS _ _ _ _ (lsS 1 ei o); rw [lsS_ne hdn]; exact .same noS_ints), trivial⟩
        · have hcy := hcy (by omega)
          conv => whnf
          refine onSome.intro (idx_ms (n := ((q + 1 : Nat) : Int) - 1) rfl rfl rfl (by omega) (by omega)) ?_
          conv => whnf
          refine onSome.intro (a := [.int .i64 ((xd : Int) + 1)]) (by show (N2.map ei)[(((q + 1 : Nat) : Int) - 1).toNat]? = _; rw [hq1, get_ei (by omega)]; congr 1; rw [← at'_get (show q < N2.length by omega), hoa2]; rfl) ?_
          conv => whnf
          refine store_ei (l' := odoL ps.length st.length q (i / ps.length)) (v := 0) rfl (by rw [hq1]; exact hos2) ?_
          conv => whnf
          refine .i64 (by omega) (by omega) ?_
          conv => whnf
          exact .more (q, i / ps.length) rfl hcy (by dsimp only; omega) ⟨rfl, rfl, rfl, rfl, rfl, rfl, rfl, rfl, rfl, (by show i6 _ = i6 _; congr 1; dsimp only; omega), trivial⟩ rfl
            ⟨.int _ _, .int _ _, (sl_no _).inn _, (sl_no _).inn _, .int _ _, .ptr _ _ _ (by simp), .mslice _ _ _ _ _ (by simp), .int _ _, .mslice _ _ _ _ _ (by simp), .int _ _, trivial⟩ ⟨(fun j k h h' => (noS_row (sz := 2) (nn_cons (.int _ _) (nn_cons (zsl_no _) nn_none)) _ (List.getElem_mem h) _ (List.getElem_mem h')).inn _), (fun j k h h' => (noS_ints (sz := 1) _ (List.getElem_mem h) _ (List.getElem_mem h')).inn _), (fun j k h h' => (noS_map (sz := 1) (l := a0 :: bs) (enc := ei) ei_no _ (List.getElem_mem h) _ (List.getElem_mem h')).inn _), hLi _ (by simp), lsS_inn lr_no ⟨(fun j k h => by simp at h), (fun j k h h' => (noS_ints (sz := 1) _ (List.getElem_mem h) _ (List.getElem_mem h')).inn _), trivial⟩⟩

    · have hB1 := hBn (fun h => absurd (hSo.mp h) (by assumption))
      repeat' ((conv => whnf); first | (refine force_om ?_) | (refine forceC_om ?_) | (first | refine condP.dec (fun h => ?_) (fun h => ?_) | refine condP.eq (fun h => ?_) (fun h => ?_) | refine condP.ne (fun h => ?_) (fun h => ?_)) | (refine .i64 (by omega) (by omega) ?_) | (refine onSome.intro (idx_fs rfl rfl (by omega) (by omega) (fun _ => rfl)) ?_) | (refine onSome.intro (load_fs rfl (by omega) (by omega) rfl) ?_) | (refine And.intro rfl ?_))
      refine loop_rule (X := Nat × Nat) (fun x => [(1, .int .i64 k), (2, .int .i64 f), (3, sl st), (4, sl ps), (5, .int .i64 left), (6, .ptr 0 0 0), (12, omsl 2 (a0 :: bs)), (13, .int .i64 least), (18, .mslice 1 0 st.length st.length true), (25, .int .i64 ((x.1 : Int) - 1))]) (fun x => [.live 2 [[.int .i64 b0, zsl zs]], .live 1 ((odoL ps.length st.length x.1 x.2).map ei), lsS 1 ei (a0 :: bs), .live 2 [[.int .i64 f, omsl 4 L]], lsS 2 lr L]) (fun x => x.1) (fun x => Odo ps.length st.length j x.1 x.2) (st.length, j)
        (Odo.init hj) ⟨rfl, rfl, rfl, rfl, rfl, rfl, rfl, rfl, rfl, rfl, trivial⟩ (by dsimp only; rw [odoL_init, ho]; try rfl) (fun _ _ => rfl) (fun x hx => ?_)
      obtain ⟨q, i⟩ := x
      dsimp only at hx ⊢
      have hle := hx.le
      rcases q with _ | q
      · have hz := hx.zero
        rw [← hz, hB1] at hr
        repeat' ((conv => whnf); first | (refine condP.dec (fun h => absurd h (by omega)) (fun _ => ?_)) | (first | refine condP.dec (fun h => ?_) (fun h => ?_) | refine condP.eq (fun h => ?_) (fun h => ?_) | refine condP.ne (fun h => ?_) (fun h => ?_)) | (refine .i64 (by omega) (by omega) ?_) | (refine onSome.intro (idx_fs rfl rfl (by omega) (by omega) (fun _ => rfl)) ?_) | (refine onSome.intro (load_fs rfl (by omega) (by omega) rfl) ?_) | (refine And.intro rfl ?_))
        refine .done (by simp) ?_
        conv => whnf
        refine .done (by simp) ?_
        rw [if_neg (by simp)] at hr
        conv => whnf
        exact .intro (.tuple [.mslice 2 0 (bs.length + 1) (bs.length + 1) false, .int .i64 least, .int .i64 0]) (.inl rfl) rfl (by rw [hr]; exact .tupleL (.cons (.ints (sz := 1) (l := a0 :: bs) rfl (fun _ _ h => by cases h) rfl) (.cons (.refl _) (.cons (.refl _) .nil))))
      · have hol := odoL_len (b := ps.length) (i := i) hle
        have hoa := odoL_at (b := ps.length) (i := i) hle
        have hos := odoL_set (b := ps.length) (i := i) hle ((i % ps.length : Nat) + 1 : Int)
        have hoa2 := odoL_at2 (b := ps.length) (i := i) hle ((i % ps.length : Nat) + 1 : Int)
        have hos2 := odoL_set2 (b := ps.length) (i := i) hle ((i % ps.length : Nat) + 1 : Int)
        have hnx := hx.next p1
        have hcy := hx.carry p1
        have hml := Nat.mod_lt i p1
        have hl2 : (digs ps.length q (i / ps.length) ++ [((i % ps.length : Nat) + 1 : Int)] ++ List.replicate (st.length - (q + 1)) 0).length = st.length := by rw [← hos, List.length_set, hol]
        generalize digs ps.length q (i / ps.length) ++ [((i % ps.length : Nat) + 1 : Int)] ++ List.replicate (st.length - (q + 1)) 0 = N2 at *
        generalize hN1 : odoL ps.length st.length (q + 1) i = N1 at *
        generalize i % ps.length = xd at *
        have hq1 : (((q + 1 : Nat) : Int) - 1).toNat = q := by omega
        repeat' ((conv => whnf); first | (refine condP.dec (fun _ => ?_) (fun h => absurd (by omega) h)) | (refine onSome.intro (idx_ms (n := ((q + 1 : Nat) : Int) - 1) rfl rfl rfl (by omega) (by omega)) ?_) | (refine onSome.intro (load_ms (l := N1) (enc := ei) (i := ((q + 1 : Nat) : Int) - 1) (v := .int .i64 (xd : Int)) rfl rfl (by omega) (by omega) (by rw [show ((q + 1 : Nat) : Int) - 1 = (q : Int) by omega, hoa]; rfl)) ?_) | (refine onSome.intro (a := [.int .i64 (xd : Int)]) (by show (N1.map ei)[(((q + 1 : Nat) : Int) - 1).toNat]? = _; rw [hq1, get_ei (by omega)]; congr 1; rw [← at'_get (show q < N1.length by omega), hoa]; rfl) ?_) | (first | refine condP.dec (fun h => ?_) (fun h => ?_) | refine condP.eq (fun h => ?_) (fun h => ?_) | refine condP.ne (fun h => ?_) (fun h => ?_)) | (refine .i64 (by omega) (by omega) ?_) | (refine onSome.intro (idx_fs rfl rfl (by omega) (by omega) (fun _ => rfl)) ?_) | (refine onSome.intro (load_fs rfl (by omega) (by omega) rfl) ?_) | (refine And.intro rfl ?_))
        refine store_ei (l' := N2) (v := (xd : Int) + 1) rfl (by rw [hq1]; exact hos) ?_
        conv => whnf
        refine onSome.intro (idx_ms (n := ((q + 1 : Nat) : Int) - 1) rfl rfl rfl (by omega) (by omega)) ?_
        conv => whnf
        refine onSome.intro (load_ms (l := N2) (enc := ei) (i := ((q + 1 : Nat) : Int) - 1) (v := .int .i64 ((xd : Int) + 1)) rfl rfl (by omega) (by omega) (by rw [show ((q + 1 : Nat) : Int) - 1 = (q : Int) by omega, hoa2]; rfl)) ?_
        conv => whnf
        refine condP.dec (fun hc => ?_) (fun hc => ?_)
        · obtain ⟨g1, g2⟩ := hnx (by omega)
          conv => whnf
          refine .done (by simp) ?_
          conv => whnf
          exact .more (j + 1) [0, 1, 2] rfl g1 (by omega) rfl ⟨.same (.int _ _), .same (.int _ _), .same (sl_no _), .same (sl_no _), .same (.int _ _), .pt rfl, (by rw [hB1]; exact .omsl (l := a0 :: bs) rfl), (by rw [hB1]; exact .same (.int _ _)), .ms rfl, trivial⟩ ⟨.same (noS_row (nn_cons (.int _ _) (nn_cons (zsl_no _) nn_none))), (by rw [g2]; exact .same noS_ints), (by rw [hB1]; exact .same (s := lsS 1 ei (a0 :: bs)) (lsS_no ei_no)), trivial⟩
        · have hcy := hcy (by omega)
          conv => whnf
          refine onSome.intro (idx_ms (n := ((q + 1 : Nat) : Int) - 1) rfl rfl rfl (by omega) (by omega)) ?_
          conv => whnf
          refine onSome.intro (a := [.int .i64 ((xd : Int) + 1)]) (by show (N2.map ei)[(((q + 1 : Nat) : Int) - 1).toNat]? = _; rw [hq1, get_ei (by omega)]; congr 1; rw [← at'_get (show q < N2.length by omega), hoa2]; rfl) ?_
          conv => whnf
          refine store_ei (l' := odoL ps.length st.length q (i / ps.length)) (v := 0) rfl (by rw [hq1]; exact hos2) ?_
          conv => whnf
          refine .i64 (by omega) (by omega) ?_
          conv => whnf
          exact .more (q, i / ps.length) rfl hcy (by dsimp only; omega) ⟨rfl, rfl, rfl, rfl, rfl, rfl, rfl, rfl, rfl, (by show i6 _ = i6 _; congr 1; dsimp only; omega), trivial⟩ rfl
            ⟨.int _ _, .int _ _, (sl_no _).inn _, (sl_no _).inn _, .int _ _, .ptr _ _ _ (by simp), .mslice _ _ _ _ _ (by simp), .int _ _, .mslice _ _ _ _ _ (by simp), .int _ _, trivial⟩ ⟨(fun j k h h' => (noS_row (sz := 2) (nn_cons (.int _ _) (nn_cons (zsl_no _) nn_none)) _ (List.getElem_mem h) _ (List.getElem_mem h')).inn _), (fun j k h h' => (noS_ints (sz := 1) _ (List.getElem_mem h) _ (List.getElem_mem h')).inn _), (fun j k h h' => (noS_map (sz := 1) (l := a0 :: bs) (enc := ei) ei_no _ (List.getElem_mem h) _ (List.getElem_mem h')).inn _), hLi _ (by simp), hLi2 _⟩

    · have hB1 := hBs (by rintro (h | h); exact absurd h (by simp); omega)
      repeat' ((conv => whnf); first | (refine force_om ?_) | (refine forceC_om ?_) | (first | refine condP.dec (fun h => ?_) (fun h => ?_) | refine condP.eq (fun h => ?_) (fun h => ?_) | refine condP.ne (fun h => ?_) (fun h => ?_)) | (refine .i64 (by omega) (by omega) ?_) | (refine onSome.intro (idx_fs rfl rfl (by omega) (by omega) (fun _ => rfl)) ?_) | (refine onSome.intro (load_fs rfl (by omega) (by omega) rfl) ?_) | (refine And.intro rfl ?_))
      refine loop_rule (X := Nat × Nat) (fun x => [(1, .int .i64 k), (2, .int .i64 f), (3, sl st), (4, sl ps), (5, .int .i64 left), (6, .ptr 0 0 0), (12, omsl 2 (a0 :: bs)), (13, .int .i64 least), (18, .mslice 1 0 st.length st.length true), (25, .int .i64 ((x.1 : Int) - 1))]) (fun x => [.live 2 [[.int .i64 b0, zsl zs]], .live 1 ((odoL ps.length st.length x.1 x.2).map ei), lsS 1 ei (a0 :: bs), .live 2 [[.int .i64 f, omsl 4 L]], lsS 2 lr L]) (fun x => x.1) (fun x => Odo ps.length st.length j x.1 x.2) (st.length, j)
        (Odo.init hj) ⟨rfl, rfl, rfl, rfl, rfl, rfl, rfl, rfl, rfl, rfl, trivial⟩ (by dsimp only; rw [odoL_init, ho]; try rfl) (fun _ _ => rfl) (fun x hx => ?_)
      obtain ⟨q, i⟩ := x
      dsimp only at hx ⊢
      have hle := hx.le
      rcases q with _ | q
      · have hz := hx.zero
        rw [← hz, hB1] at hr
        repeat' ((conv => whnf); first | (refine condP.dec (fun h => absurd h (by omega)) (fun _ => ?_)) | (first | refine condP.dec (fun h => ?_) (fun h => ?_) | refine condP.eq (fun h => ?_) (fun h => ?_) | refine condP.ne (fun h => ?_) (fun h => ?_)) | (refine .i64 (by omega) (by omega) ?_) | (refine onSome.intro (idx_fs rfl rfl (by omega) (by omega) (fun _ => rfl)) ?_) | (refine onSome.intro (load_fs rfl (by omega) (by omega) rfl) ?_) | (refine And.intro rfl ?_))
        refine .done (by simp) ?_
        conv => whnf
        refine .done (by simp) ?_
        rw [if_neg (by simp)] at hr
        conv => whnf
        exact .intro (.tuple [.mslice 2 0 (bs.length + 1) (bs.length + 1) false, .int .i64 least, .int .i64 0]) (.inl rfl) rfl (by rw [hr]; exact .tupleL (.cons (.ints (sz := 1) (l := a0 :: bs) rfl (fun _ _ h => by cases h) rfl) (.cons (.refl _) (.cons (.refl _) .nil))))
      · have hol := odoL_len (b := ps.length) (i := i) hle
        have hoa := odoL_at (b := ps.length) (i := i) hle
        have hos := odoL_set (b := ps.length) (i := i) hle ((i % ps.length : Nat) + 1 : Int)
        have hoa2 := odoL_at2 (b := ps.length) (i := i) hle ((i % ps.length : Nat) + 1 : Int)
        have hos2 := odoL_set2 (b := ps.length) (i := i) hle ((i % ps.length : Nat) + 1 : Int)
        have hnx := hx.next p1
        have hcy := hx.carry p1
        have hml := Nat.mod_lt i p1
        have hl2 : (digs ps.length q (i / ps.length) ++ [((i % ps.length : Nat) + 1 : Int)] ++ List.replicate (st.length - (q + 1)) 0).length = st.length := by rw [← hos, List.length_set, hol]
        generalize digs ps.length q (i / ps.length) ++ [((i % ps.length : Nat) + 1 : Int)] ++ List.replicate (st.length - (q + 1)) 0 = N2 at *
        generalize hN1 : odoL ps.length st.length (q + 1) i = N1 at *
        generalize i % ps.length = xd at *
        have hq1 : (((q + 1 : Nat) : Int) - 1).toNat = q := by omega
        repeat' ((conv => whnf); first | (refine condP.dec (fun _ => ?_) (fun h => absurd (by omega) h)) | (refine onSome.intro (idx_ms (n := ((q + 1 : Nat) : Int) - 1) rfl rfl rfl (by omega) (by omega)) ?_) | (refine onSome.intro (load_ms (l := N1) (enc := ei) (i := ((q + 1 : Nat) : Int) - 1) (v := .int .i64 (xd : Int)) rfl rfl (by omega) (by omega) (by rw [show ((q + 1 : Nat) : Int) - 1 = (q : Int) by omega, hoa]; rfl)) ?_) | (refine onSome.intro (a := [.int .i64 (xd : Int)]) (by show (N1.map ei)[(((q + 1 : Nat) : Int) - 1).toNat]? = _; rw [hq1, get_ei (by omega)]; congr 1; rw [← at'_get (show q < N1.length by omega), hoa]; rfl) ?_) | (first | refine condP.dec (fun h => ?_) (fun h => ?_) | refine condP.eq (fun h => ?_) (fun h => ?_) | refine condP.ne (fun h => ?_) (fun h => ?_)) | (refine .i64 (by omega) (by omega) ?_) | (refine onSome.intro (idx_fs rfl rfl (by omega) (by omega) (fun _ => rfl)) ?_) | (refine onSome.intro (load_fs rfl (by omega) (by omega) rfl) ?_) | (refine And.intro rfl ?_))
        refine store_ei (l' := N2) (v := (xd : Int) + 1) rfl (by rw [hq1]; exact hos) ?_
        conv => whnf
        refine onSome.intro (idx_ms (n := ((q + 1 : Nat) : Int) - 1) rfl rfl rfl (by omega) (by omega)) ?_
        conv => whnf
        refine onSome.intro (load_ms (l := N2) (enc := ei) (i := ((q + 1 : Nat) : Int) - 1) (v := .int .i64 ((xd : Int) + 1)) rfl rfl (by omega) (by omega) (by rw [show ((q + 1 : Nat) : Int) - 1 = (q : Int) by omega, hoa2]; rfl)) ?_
        conv => whnf
        refine condP.dec (fun hc => ?_) (fun hc => ?_)
        · obtain ⟨g1, g2⟩ := hnx (by omega)
          conv => whnf
          refine .done (by simp) ?_
          conv => whnf
          exact .more (j + 1) [0, 1, 2] rfl g1 (by omega) rfl ⟨.same (.int _ _), .same (.int _ _), .same (sl_no _), .same (sl_no _), .same (.int _ _), .pt rfl, (by rw [hB1]; exact .omsl (l := a0 :: bs) rfl), (by rw [hB1]; exact .same (.int _ _)), .ms rfl, trivial⟩ ⟨.same (noS_row (nn_cons (.int _ _) (nn_cons (zsl_no _) nn_none))), (by rw [g2]; exact .same noS_ints), (by rw [hB1]; exact .same (s := lsS 1 ei (a0 :: bs)) (lsS_no ei_no)), trivial⟩
        · have hcy := hcy (by omega)
          conv => whnf
          refine onSome.intro (idx_ms (n := ((q + 1 : Nat) : Int) - 1) rfl rfl rfl (by omega) (by omega)) ?_
          conv => whnf
          refine onSome.intro (a := [.int .i64 ((xd : Int) + 1)]) (by show (N2.map ei)[(((q + 1 : Nat) : Int) - 1).toNat]? = _; rw [hq1, get_ei (by omega)]; congr 1; rw [← at'_get (show q < N2.length by omega), hoa2]; rfl) ?_
          conv => whnf
          refine store_ei (l' := odoL ps.length st.length q (i / ps.length)) (v := 0) rfl (by rw [hq1]; exact hos2) ?_
          conv => whnf
          refine .i64 (by omega) (by omega) ?_
          conv => whnf
          exact .more (q, i / ps.length) rfl hcy (by dsimp only; omega) ⟨rfl, rfl, rfl, rfl, rfl, rfl, rfl, rfl, rfl, (by show i6 _ = i6 _; congr 1; dsimp only; omega), trivial⟩ rfl
            ⟨.int _ _, .int _ _, (sl_no _).inn _, (sl_no _).inn _, .int _ _, .ptr _ _ _ (by simp), .mslice _ _ _ _ _ (by simp), .int _ _, .mslice _ _ _ _ _ (by simp), .int _ _, trivial⟩ ⟨(fun j k h h' => (noS_row (sz := 2) (nn_cons (.int _ _) (nn_cons (zsl_no _) nn_none)) _ (List.getElem_mem h) _ (List.getElem_mem h')).inn _), (fun j k h h' => (noS_ints (sz := 1) _ (List.getElem_mem h) _ (List.getElem_mem h')).inn _), (fun j k h h' => (noS_map (sz := 1) (l := a0 :: bs) (enc := ei) ei_no _ (List.getElem_mem h) _ (List.getElem_mem h')).inn _), hLi _ (by simp), hLi2 _⟩

end Go.Proofs.Ytpbadgghhiommaa.I
