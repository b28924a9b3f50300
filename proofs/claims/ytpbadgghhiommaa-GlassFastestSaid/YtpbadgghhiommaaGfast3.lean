/- The fastest cooling, as the reference finds it. -/
import Derived.Test.YtpbadgghhiommaaGfast2
set_option linter.unusedVariables false
set_option maxHeartbeats 32000000
set_option linter.unusedSimpArgs false
namespace Go.Proofs.Ytpbadgghhiommaa.I
open Go.Ideal

section
variable (b0 : Int) (zs : List Zone) (k f : Int) (st ps : List Int) (left : Int)
/-- A cooling with these paces is Sure. -/
def sureP (o : List Int) : Prop := (judgeV b0 zs k f (legN ps st o st.length) left).1 = 1
noncomputable def fastB : List Int × Int := bestF ps (sureP b0 zs k f st ps left) ps.length st.length (ps.length ^ st.length)
noncomputable def fastR : (List Int × Int) × Int :=
  if checkE b0 zs ≠ 0 then (([], 0), checkE b0 zs) else if (k < 1 ∨ 1000 < k) ∨ Outs f 2000 then (([], 0), 2) else if listE st 4 0 2000 ≠ 0 then (([], 0), listE st 4 0 2000) else
  if listE ps 4 1 200 ≠ 0 then (([], 0), listE ps 4 1 200) else if Outs left 1099511627776 then (([], 0), 2) else if (fastB b0 zs k f st ps left).1 = [] then (([], 0), 7) else (fastB b0 zs k f st ps left, 0)
end
def fastI (r : (List Int × Int) × Int) : IV := .tuple [sl r.1.1, .int .i64 r.1.2, .int .i64 r.2]
theorem fastI_no (r : (List Int × Int) × Int) : Noname (fastI r) := nn_tuple (nn_cons (sl_no _) (nn_cons (nn_int _ _) (nn_cons (nn_int _ _) nn_none)))
theorem legsO_ok {f : Int} {ps st o : List Int} (hf : ¬ Outs f 2000) (hst : listE st 4 0 2000 = 0) (hps : listE ps 4 1 200 = 0) (ho : o.length = st.length) (hin : ∀ x ∈ o, 0 ≤ x ∧ x < ps.length) : OOk f (legN ps st o st.length) := by
  obtain ⟨s1, s2, s3⟩ := listE_zero hst
  obtain ⟨p1, p2, p3⟩ := listE_zero hps
  unfold Outs at hf
  refine ⟨by omega, by rw [legN_len]; omega, fun i hi => ?_⟩
  rw [legN_len] at hi
  have e := legN_at ps st o st.length i hi
  have : ln (legN ps st o st.length) i = at' (legN ps st o st.length) (i : Int) := rfl
  rw [this, e]
  have a := hin o[i] (List.getElem_mem (by omega))
  have b := at'_get (l := o) (j := i) (by omega)
  rw [← b] at a
  obtain ⟨d, hd⟩ := Int.eq_ofNat_of_zero_le a.1
  have c := p3 d (by omega)
  have g := s3 i hi
  dsimp only
  rw [hd]
  omega
theorem pace_in {ps o : List Int} (hps : InL ps 1 200) {m : Nat} (ho : o.length = m) (hin : ∀ x ∈ o, 0 ≤ x ∧ x < ps.length) : ∀ i : Nat, i < m → (0 ≤ at' o (i : Int) ∧ at' o (i : Int) < ps.length) ∧ 1 ≤ at' ps (at' o (i : Int)) ∧ at' ps (at' o (i : Int)) ≤ 200 := fun i hi => by
  have a := hin o[i] (List.getElem_mem (by omega))
  have b := at'_get (l := o) (j := i) (by omega)
  rw [← b] at a
  obtain ⟨d, hd⟩ := Int.eq_ofNat_of_zero_le a.1
  have c := hps d (by omega)
  rw [hd] at a ⊢
  exact ⟨a, c⟩

theorem rFastest_ok (b0 : Int) (zs : List Zone) (hz : zs.length ≤ 9000000000000000000) (k f : Int) (st ps : List Int) (hst : st.length ≤ 9223372036854775807) (hps : ps.length ≤ 9223372036854775807) (left : Int) (H : Heap) :
    Ev T (.call (.func (.func 78) [] []) [stuffI b0 zs, .int .i64 k, .int .i64 f, sl st, sl ps, .int .i64 left] H) (.call (fastI (fastR b0 zs k f st ps left)) H) := by
  refine run_pure T78 (fastI_no _) (nn_cons (stuffI_no _ _) (nn_cons (nn_int _ _) (nn_cons (nn_int _ _) (nn_cons (sl_no _) (nn_cons (sl_no _) (nn_cons (nn_int _ _) nn_none)))))) ?_ H
  have kc := rCheck_ok b0 zs hz
  have ks := rcheckList_ok st hst 4 0 2000
  have kp := rcheckList_ok ps hps 4 1 200
  have e1 : (st.map ei).length = st.length := List.length_map ..
  have e2 : (ps.map ei).length = ps.length := List.length_map ..
  have hx : ∃ r, r = fastR b0 zs k f st ps left := ⟨_, rfl⟩
  obtain ⟨r, hr⟩ := hx
  rw [← hr]
  unfold fastR at hr
  have hcz := fun q => @check_zero b0 zs q
  have hsz := @listE_zero st 4 0 2000
  have hpz := @listE_zero ps 4 1 200
  have hok := @legsO_ok f ps st
  have hr0 : r = fastR b0 zs k f st ps left := by unfold fastR; exact hr
  clear hr0
  generalize hE1 : checkE b0 zs = e1' at *
  by_cases h1 : e1' = 0
  rotate_left
  · rw [if_pos h1] at hr
    repeat' ((conv => whnf); first | (refine CallP.pure kc ?_) | (first | refine condP.dec (fun h => ?_) (fun h => ?_) | refine condP.eq (fun h => ?_) (fun h => ?_) | refine condP.ne (fun h => ?_) (fun h => ?_)) | (refine .i64 (by omega) (by omega) ?_) | (refine onSome.intro (idx_fs rfl rfl (by omega) (by omega) (fun _ => rfl)) ?_) | (refine onSome.intro (load_fs rfl (by omega) (by omega) rfl) ?_) | (refine And.intro rfl ?_))
    all_goals first | (exfalso; omega) | skip
    all_goals conv => whnf
    all_goals exact .intro (.tuple [.nilslice, .int .i64 0, .int .i64 e1']) (.inl rfl) rfl (by rw [hr]; exact .tupleL (.cons .nil (.cons (.refl _) (.cons (.refl _) .nil))))
  subst h1
  rw [if_neg (by simp)] at hr
  by_cases h2 : (k < 1 ∨ 1000 < k) ∨ Outs f 2000
  · rw [if_pos h2] at hr
    unfold Outs at h2
    repeat' ((conv => whnf); first | (refine CallP.pure kc ?_) | (refine CallP.dec (beyond_ok _ _ _) (fun h => ?_) (fun h => ?_)) | (first | refine condP.dec (fun h => ?_) (fun h => ?_) | refine condP.eq (fun h => ?_) (fun h => ?_) | refine condP.ne (fun h => ?_) (fun h => ?_)) | (refine .i64 (by omega) (by omega) ?_) | (refine onSome.intro (idx_fs rfl rfl (by omega) (by omega) (fun _ => rfl)) ?_) | (refine onSome.intro (load_fs rfl (by omega) (by omega) rfl) ?_) | (refine And.intro rfl ?_))
    all_goals unfold Beyond at *
    all_goals first | (exfalso; omega) | skip
    all_goals conv => whnf
    all_goals exact .intro (.tuple [.nilslice, .int .i64 0, .int .i64 2]) (.inl rfl) rfl (by rw [hr]; exact .tupleL (.cons .nil (.cons (.refl _) (.cons (.refl _) .nil))))
  rw [if_neg h2] at hr
  have hfo : ¬ Outs f 2000 := fun h => h2 (.inr h)
  unfold Outs at h2
  generalize hE2 : listE st 4 0 2000 = e2' at *
  by_cases h3 : e2' = 0
  rotate_left
  · rw [if_pos h3] at hr
    repeat' ((conv => whnf); first | (refine CallP.pure kc ?_) | (refine CallP.dec (beyond_ok _ _ _) (fun h => ?_) (fun h => ?_)) | (refine CallP.pure ks ?_) | (first | refine condP.dec (fun h => ?_) (fun h => ?_) | refine condP.eq (fun h => ?_) (fun h => ?_) | refine condP.ne (fun h => ?_) (fun h => ?_)) | (refine .i64 (by omega) (by omega) ?_) | (refine onSome.intro (idx_fs rfl rfl (by omega) (by omega) (fun _ => rfl)) ?_) | (refine onSome.intro (load_fs rfl (by omega) (by omega) rfl) ?_) | (refine And.intro rfl ?_))
    all_goals unfold Beyond at *
    all_goals first | (exfalso; omega) | skip
    all_goals conv => whnf
    all_goals exact .intro (.tuple [.nilslice, .int .i64 0, .int .i64 e2']) (.inl rfl) rfl (by rw [hr]; exact .tupleL (.cons .nil (.cons (.refl _) (.cons (.refl _) .nil))))
  subst h3
  rw [if_neg (by simp)] at hr
  generalize hE3 : listE ps 4 1 200 = e3' at *
  by_cases h4 : e3' = 0
  rotate_left
  · rw [if_pos h4] at hr
    repeat' ((conv => whnf); first | (refine CallP.pure kc ?_) | (refine CallP.dec (beyond_ok _ _ _) (fun h => ?_) (fun h => ?_)) | (refine CallP.pure ks ?_) | (refine CallP.pure kp ?_) | (first | refine condP.dec (fun h => ?_) (fun h => ?_) | refine condP.eq (fun h => ?_) (fun h => ?_) | refine condP.ne (fun h => ?_) (fun h => ?_)) | (refine .i64 (by omega) (by omega) ?_) | (refine onSome.intro (idx_fs rfl rfl (by omega) (by omega) (fun _ => rfl)) ?_) | (refine onSome.intro (load_fs rfl (by omega) (by omega) rfl) ?_) | (refine And.intro rfl ?_))
    all_goals unfold Beyond at *
    all_goals first | (exfalso; omega) | skip
    all_goals conv => whnf
    all_goals exact .intro (.tuple [.nilslice, .int .i64 0, .int .i64 e3']) (.inl rfl) rfl (by rw [hr]; exact .tupleL (.cons .nil (.cons (.refl _) (.cons (.refl _) .nil))))
  subst h4
  rw [if_neg (by simp)] at hr
  by_cases h5 : Outs left 1099511627776
  · rw [if_pos h5] at hr
    unfold Outs at h5
    repeat' ((conv => whnf); first | (refine CallP.pure kc ?_) | (refine CallP.dec (beyond_ok _ _ _) (fun h => ?_) (fun h => ?_)) | (refine CallP.pure ks ?_) | (refine CallP.pure kp ?_) | (first | refine condP.dec (fun h => ?_) (fun h => ?_) | refine condP.eq (fun h => ?_) (fun h => ?_) | refine condP.ne (fun h => ?_) (fun h => ?_)) | (refine .i64 (by omega) (by omega) ?_) | (refine onSome.intro (idx_fs rfl rfl (by omega) (by omega) (fun _ => rfl)) ?_) | (refine onSome.intro (load_fs rfl (by omega) (by omega) rfl) ?_) | (refine And.intro rfl ?_))
    all_goals unfold Beyond at *
    all_goals first | (exfalso; omega) | skip
    all_goals conv => whnf
    all_goals exact .intro (.tuple [.nilslice, .int .i64 0, .int .i64 2]) (.inl rfl) rfl (by rw [hr]; exact .tupleL (.cons .nil (.cons (.refl _) (.cons (.refl _) .nil))))
  rw [if_neg h5] at hr
  unfold Outs at h5
  obtain ⟨cb, hZ⟩ := hcz rfl
  obtain ⟨s1, s2, s3⟩ := hsz rfl
  obtain ⟨p1, p2, p3⟩ := hpz rfl
  have kl : ∀ H, Ev T (.call (.func (.func 117) [] []) [.int .i64 ((st.map ei).length : Int), .int .i64 ((ps.map ei).length : Int)] H) (.call (sll (listsL ps.length st.length)) H) := fun H => by
    rw [e1, e2]; exact lists_ok st.length ps.length (by omega) p1 (by omega) H
  have hAl := listsL_len ps.length st.length
  have hAat := fun j hj => @listsL_at ps.length p1 st.length j hj
  have hpow : ps.length ^ st.length ≤ 256 := Nat.le_trans (Nat.pow_le_pow_left (by omega) _) (Nat.le_trans (Nat.pow_le_pow_right (n := 4) (by decide) (by omega : st.length ≤ 4)) (by decide))
  unfold fastB at hr
  have kj := fun o (h1 : o.length = st.length) h2 => rjudge_ok b0 zs (by omega) (by omega) hZ k f (by omega) (by omega) (legN ps st o st.length) (hok hfo rfl rfl h1 h2) left (by omega) (by omega)
  have hS : ∀ o, sureP b0 zs k f st ps left o ↔ (judgeV b0 zs k f (legN ps st o st.length) left).1 = 1 := fun o => Iff.rfl
  have B0 : bestF ps (sureP b0 zs k f st ps left) ps.length st.length 0 = ([], 0) := rfl
  have Bt := fun j => @bestF_take ps (sureP b0 zs k f st ps left) ps.length st.length j
  have Bs := fun j => @bestF_skip ps (sureP b0 zs k f st ps left) ps.length st.length j
  have Bn := fun j => @bestF_not ps (sureP b0 zs k f st ps left) ps.length st.length j
  have Bl := bestF_len ps (sureP b0 zs k f st ps left) ps.length st.length
  generalize bestF ps (sureP b0 zs k f st ps left) ps.length st.length = B at *
  generalize sureP b0 zs k f st ps left = S at *
  generalize hA : listsL ps.length st.length = A at *
  have e3 : (A.map el).length = A.length := List.length_map ..
  repeat' ((conv => whnf); first | (refine CallP.pure kc ?_) | (refine CallP.dec (beyond_ok _ _ _) (fun h => ?_) (fun h => ?_)) | (refine CallP.pure ks ?_) | (refine CallP.pure kp ?_) | (refine CallP.pure kl ?_) | (first | refine condP.dec (fun h => ?_) (fun h => ?_) | refine condP.eq (fun h => ?_) (fun h => ?_) | refine condP.ne (fun h => ?_) (fun h => ?_)) | (refine .i64 (by omega) (by omega) ?_) | (refine onSome.intro (idx_fs rfl rfl (by omega) (by omega) (fun _ => rfl)) ?_) | (refine onSome.intro (load_fs rfl (by omega) (by omega) rfl) ?_) | (refine And.intro rfl ?_))
  all_goals unfold Beyond at *
  all_goals first | (exfalso; omega) | skip
  conv => whnf
  refine loop_rule (X := Nat) (fun i => [(1, .int .i64 k), (2, .int .i64 f), (3, sl st), (4, sl ps), (5, .int .i64 left), (6, .ptr 0 0 0), (18, sll A), (19, nilOr (B i).1), (20, .int .i64 (B i).2), (21, .int .i64 i)]) (fun _ => [.live 2 [[.int .i64 b0, zsl zs]]]) (fun i => A.length - i) (fun i => i ≤ A.length) 0
    (Nat.zero_le _) ⟨rfl, rfl, rfl, rfl, rfl, rfl, rfl, (by show IV.nilslice = nilOr (B 0).1; rw [B0]; rfl), (by show i6 0 = i6 (B 0).2; rw [B0]), rfl, trivial⟩ rfl (fun _ _ => rfl) (fun i hi => ?_)
  rcases Nat.lt_or_ge i A.length with hlt | hge
  · have hdl := digs_len ps.length st.length i
    have hdi := digs_in p1 st.length i
    have hdn := digs_ne (b := ps.length) s1 i
    have hAi := hAat i (by omega)
    have hBt := Bt i
    have hBs := Bs i
    have hBn := Bn i
    have hBl := Bl i
    generalize digs ps.length st.length i = o at *
    have kji := kj o hdl hdi
    have hSo := hS o
    have hpi := pace_in p3 hdl hdi
    have htn := tickN_in ps (o := o) (m := st.length) (fun j hj => by have := (hpi j hj).2; omega)
    have e4 : (o.map ei).length = o.length := List.length_map ..
    generalize judgeV b0 zs k f (legN ps st o st.length) left = jv at *
    clear Bt Bs Bn Bl kj hS hAat hok
    repeat' ((conv => whnf); first | (refine condP.dec (fun _ => ?_) (fun h => absurd (by omega) h)) | (first | refine condP.dec (fun h => ?_) (fun h => ?_) | refine condP.eq (fun h => ?_) (fun h => ?_) | refine condP.ne (fun h => ?_) (fun h => ?_)) | (refine .i64 (by omega) (by omega) ?_) | (refine onSome.intro (idx_fs rfl rfl (by omega) (by omega) (fun _ => rfl)) ?_) | (refine onSome.intro (load_fs rfl (by omega) (by omega) rfl) ?_) | (refine And.intro rfl ?_))
    conv => whnf
    refine .pad 1 ?_
    refine loop_grow (X := Nat) (fun q => [(1, .int .i64 k), (2, .int .i64 f), (3, sl st), (4, sl ps), (5, .int .i64 left), (6, .ptr 0 0 0), (18, sll A), (19, nilOr (B i).1), (20, .int .i64 (B i).2), (21, .int .i64 i), (22, .ptr 1 0 0), (23, .int .i64 (tickN ps o q)), (24, .int .i64 q)]) (fun q => [.live 2 [[.int .i64 b0, zsl zs]], .live 2 [[.int .i64 f, omsl 2 (legN ps st o q)]], lsS 2 lr (legN ps st o q)]) (fun q => st.length - q) (fun q => q ≤ st.length) 0
      (Nat.zero_le _) ⟨rfl, rfl, rfl, rfl, rfl, rfl, rfl, rfl, rfl, rfl, rfl, rfl, rfl, trivial⟩ rfl (fun q hq => ?_)
    have htq := htn q hq
    have hql := legN_len ps st o q
    rcases Nat.lt_or_ge q st.length with hql' | hqg
    · have hpq := hpi q hql'
      have htq1 := htn (q + 1) hql'
      have e5 : legN ps st o (q + 1) = legN ps st o q ++ [⟨at' ps (at' o (q : Int)), at' st (q : Int)⟩] := rfl
      have e6 : tickN ps o (q + 1) = tickN ps o q + at' ps (at' o (q : Int)) := rfl
      generalize legN ps st o q = L at *
      generalize hd : at' o (q : Int) = d at *
      generalize hp : at' ps d = p at *
      generalize hs : at' st (q : Int) = s at *
      repeat' ((conv => whnf); first | (refine force_om ?_) | (refine forceC_om ?_) | (refine condP.dec (fun _ => ?_) (fun h => absurd (by omega) h)) | (refine onSome.intro (idx_fs (l := A) (enc := el) (n := (i : Int)) rfl rfl (by omega) (by omega) (fun _ => rfl)) ?_) | (refine onSome.intro (load_fs (l := A) (enc := el) (i := (i : Int)) (v := sl o) rfl (by omega) (by omega) (by rw [hAi]; rfl)) ?_) | (refine onSome.intro (idx_fs (l := o) (enc := ei) (n := (q : Int)) rfl rfl (by omega) (by omega) (fun _ => rfl)) ?_) | (refine onSome.intro (load_fs (l := o) (enc := ei) (i := (q : Int)) (v := .int .i64 d) rfl (by omega) (by omega) (by rw [hd]; rfl)) ?_) | (refine onSome.intro (idx_fs (l := ps) (enc := ei) (n := d) rfl rfl (by omega) (by omega) (fun _ => rfl)) ?_) | (refine onSome.intro (load_fs (l := ps) (enc := ei) (i := d) (v := .int .i64 p) rfl (by omega) (by omega) (by rw [hp]; rfl)) ?_) | (refine onSome.intro (idx_fs (l := st) (enc := ei) (n := (q : Int)) rfl rfl (by omega) (by omega) (fun _ => rfl)) ?_) | (refine onSome.intro (load_fs (l := st) (enc := ei) (i := (q : Int)) (v := .int .i64 s) rfl (by omega) (by omega) (by rw [hs]; rfl)) ?_) | (refine OpP.snoc (enc := lr) (l := L) (b := 2) (r := [.int .i64 p, .int .i64 s]) rfl rfl rfl rfl (fun c hc => by simp at hc; rcases hc with rfl | rfl <;> rfl) (by omega) ?_) | (first | refine condP.dec (fun h => ?_) (fun h => ?_) | refine condP.eq (fun h => ?_) (fun h => ?_) | refine condP.ne (fun h => ?_) (fun h => ?_)) | (refine .i64 (by omega) (by omega) ?_) | (refine onSome.intro (idx_fs rfl rfl (by omega) (by omega) (fun _ => rfl)) ?_) | (refine onSome.intro (load_fs rfl (by omega) (by omega) rfl) ?_) | (refine And.intro rfl ?_))
      exact .more (q + 1) [0, 1, 4] rfl (by omega) (by omega) rfl ⟨.same (.int _ _), .same (.int _ _), .same (sl_no _), .same (sl_no _), .same (.int _ _), .pt rfl, .same (sll_no _), .same (nilOr_no _), .same (.int _ _), .same (.int _ _), .pt rfl, .nn (.int _ _) (frz_int (by rw [e6])), .nn (.int _ _) (frz_int (by omega)), trivial⟩
        ⟨.same (noS_row (nn_cons (.int _ _) (nn_cons (zsl_no _) nn_none))), .row (.cons (.same (.int _ _)) (.cons (by rw [e5]; exact .grown rfl (by simp) (by simp)) .nil)), (by rw [e5]; exact .snocL (enc := lr) (a := ⟨p, s⟩) lr_no (.cons (.same (.int _ _)) (.cons (.same (.int _ _)) .nil))), trivial⟩
    · obtain rfl : q = st.length := by omega
      generalize hL : legN ps st o st.length = L at *
      generalize tickN ps o st.length = tk at *
      have hFz : ∀ {H' : Heap}, (∀ sz e, H' 2 ≠ .live sz e) → ∀ {H : Heap}, H 2 = lsS 2 lr L → Frz H H' (.agg [.int .i64 f, omsl 2 L]) (ovenI f L) := fun h1 _ h2 => .aggL (.cons (.refl _) (.cons (.oml (enc := lr) h2 h1) .nil))
      have hu : List.all [.live 2 [[.int .i64 b0, zsl zs]], .live 2 [[.int .i64 f, omsl 2 L]], lsS 2 lr L] Slot.used = true := by rw [List.all_cons, List.all_cons, List.all_cons, lsS_used]; rfl
      have hbest : ∀ v : IV, v = sl o → B (i + 1) = (o, tk) → v = nilOr (B (i + 1)).1 := fun v h1 h2 => by
        rw [h1, h2]
        cases o with
        | nil => exact absurd rfl hdn
        | cons a o => rfl
      generalize hBB : B i = bb at *
      obtain ⟨best, least⟩ := bb
      dsimp only at *
      have hjb : Bare (IV.tuple [.int .i64 jv.1, .int .i64 jv.2]) := .tupleL (.cons (.int _ _) (.cons (.int _ _) .nil))
      rcases best with _ | ⟨o0, bs⟩
      · repeat' ((conv => whnf); first | (refine force_om ?_) | (refine forceC_om ?_) | (refine condP.dec (fun h => absurd h (by omega)) (fun _ => ?_)) | (first | refine condP.dec (fun h => ?_) (fun h => ?_) | refine condP.eq (fun h => ?_) (fun h => ?_) | refine condP.ne (fun h => ?_) (fun h => ?_)) | (refine .i64 (by omega) (by omega) ?_) | (refine onSome.intro (idx_fs rfl rfl (by omega) (by omega) (fun _ => rfl)) ?_) | (refine onSome.intro (load_fs rfl (by omega) (by omega) rfl) ?_) | (refine And.intro rfl ?_))
        refine .done (by simp) ?_
        repeat' ((conv => whnf); first | (refine force_om ?_) | (refine forceC_om ?_) | (refine CallP.borrow [1, 2] hu (.cons (.refl _) (.cons (.refl _) (.cons (hFz (fun _ _ h => by cases h) rfl) (.cons (.refl _) .nil)))) (nn_cons (stuffI_no _ _) (nn_cons (nn_int _ _) (nn_cons (ovenI_no _ _) (nn_cons (nn_int _ _) nn_none)))) kji hjb ?_) | (refine onSome.intro (load_fs (l := A) (enc := el) (i := (i : Int)) (v := sl o) rfl (by omega) (by omega) (by rw [hAi]; rfl)) ?_) | (first | refine condP.dec (fun h => ?_) (fun h => ?_) | refine condP.eq (fun h => ?_) (fun h => ?_) | refine condP.ne (fun h => ?_) (fun h => ?_)) | (refine .i64 (by omega) (by omega) ?_) | (refine onSome.intro (idx_fs rfl rfl (by omega) (by omega) (fun _ => rfl)) ?_) | (refine onSome.intro (load_fs rfl (by omega) (by omega) rfl) ?_) | (refine And.intro rfl ?_))
        · have hB1 := hBt (.inl rfl) (hSo.mpr (by assumption))
          conv => whnf
          exact .more (i + 1) rfl (by omega) (by omega) ⟨rfl, rfl, rfl, rfl, rfl, rfl, rfl, (hbest _ rfl hB1), (by show i6 _ = i6 _; rw [hB1]), rfl, trivial⟩ rfl ⟨.int _ _, .int _ _, (sl_no _).inn _, (sl_no _).inn _, .int _ _, .ptr _ _ _ (by simp), (sll_no _).inn _, (nilOr_no _).inn _, .int _ _, .int _ _, trivial⟩ ⟨row_inn (nn_cons (.int _ _) (nn_cons (zsl_no _) nn_none)), trivial⟩
        · have hB1 := hBn (fun h => absurd (hSo.mp h) (by assumption))
          conv => whnf
          exact .more (i + 1) rfl (by omega) (by omega) ⟨rfl, rfl, rfl, rfl, rfl, rfl, rfl, (by show IV.nilslice = nilOr _; rw [hB1]; rfl), (by show i6 _ = i6 _; rw [hB1]), rfl, trivial⟩ rfl ⟨.int _ _, .int _ _, (sl_no _).inn _, (sl_no _).inn _, .int _ _, .ptr _ _ _ (by simp), (sll_no _).inn _, (nilOr_no _).inn _, .int _ _, .int _ _, trivial⟩ ⟨row_inn (nn_cons (.int _ _) (nn_cons (zsl_no _) nn_none)), trivial⟩
      · repeat' ((conv => whnf); first | (refine force_om ?_) | (refine forceC_om ?_) | (refine condP.dec (fun h => absurd h (by omega)) (fun _ => ?_)) | (first | refine condP.dec (fun h => ?_) (fun h => ?_) | refine condP.eq (fun h => ?_) (fun h => ?_) | refine condP.ne (fun h => ?_) (fun h => ?_)) | (refine .i64 (by omega) (by omega) ?_) | (refine onSome.intro (idx_fs rfl rfl (by omega) (by omega) (fun _ => rfl)) ?_) | (refine onSome.intro (load_fs rfl (by omega) (by omega) rfl) ?_) | (refine And.intro rfl ?_))
        refine .done (by simp) ?_
        have hpos : (0 : Int) < (((o0 :: bs).map ei).length : Int) := by rw [List.length_map, List.length_cons]; omega
        repeat' ((conv => whnf); first | (refine force_om ?_) | (refine forceC_om ?_) | (refine condP.dec (fun _ => ?_) (fun h => absurd hpos h)) | (refine CallP.borrow [1, 2] hu (.cons (.refl _) (.cons (.refl _) (.cons (hFz (fun _ _ h => by cases h) rfl) (.cons (.refl _) .nil)))) (nn_cons (stuffI_no _ _) (nn_cons (nn_int _ _) (nn_cons (ovenI_no _ _) (nn_cons (nn_int _ _) nn_none)))) kji hjb ?_) | (refine onSome.intro (load_fs (l := A) (enc := el) (i := (i : Int)) (v := sl o) rfl (by omega) (by omega) (by rw [hAi]; rfl)) ?_) | (first | refine condP.dec (fun h => ?_) (fun h => ?_) | refine condP.eq (fun h => ?_) (fun h => ?_) | refine condP.ne (fun h => ?_) (fun h => ?_)) | (refine .i64 (by omega) (by omega) ?_) | (refine onSome.intro (idx_fs rfl rfl (by omega) (by omega) (fun _ => rfl)) ?_) | (refine onSome.intro (load_fs rfl (by omega) (by omega) rfl) ?_) | (refine And.intro rfl ?_))
        · have hB1 := hBs (by rintro (h | h); exact absurd h (by simp); omega)
          conv => whnf
          exact .more (i + 1) rfl (by omega) (by omega) ⟨rfl, rfl, rfl, rfl, rfl, rfl, rfl, (by show sl (o0 :: bs) = nilOr _; rw [hB1]; rfl), (by show i6 _ = i6 _; rw [hB1]), rfl, trivial⟩ rfl ⟨.int _ _, .int _ _, (sl_no _).inn _, (sl_no _).inn _, .int _ _, .ptr _ _ _ (by simp), (sll_no _).inn _, (nilOr_no _).inn _, .int _ _, .int _ _, trivial⟩ ⟨row_inn (nn_cons (.int _ _) (nn_cons (zsl_no _) nn_none)), trivial⟩
        · have hB1 := hBt (.inr (by omega)) (hSo.mpr (by assumption))
          conv => whnf
          exact .more (i + 1) rfl (by omega) (by omega) ⟨rfl, rfl, rfl, rfl, rfl, rfl, rfl, (hbest _ rfl hB1), (by show i6 _ = i6 _; rw [hB1]), rfl, trivial⟩ rfl ⟨.int _ _, .int _ _, (sl_no _).inn _, (sl_no _).inn _, .int _ _, .ptr _ _ _ (by simp), (sll_no _).inn _, (nilOr_no _).inn _, .int _ _, .int _ _, trivial⟩ ⟨row_inn (nn_cons (.int _ _) (nn_cons (zsl_no _) nn_none)), trivial⟩
        · have hB1 := hBn (fun h => absurd (hSo.mp h) (by assumption))
          conv => whnf
          exact .more (i + 1) rfl (by omega) (by omega) ⟨rfl, rfl, rfl, rfl, rfl, rfl, rfl, (by show sl (o0 :: bs) = nilOr _; rw [hB1]; rfl), (by show i6 _ = i6 _; rw [hB1]), rfl, trivial⟩ rfl ⟨.int _ _, .int _ _, (sl_no _).inn _, (sl_no _).inn _, .int _ _, .ptr _ _ _ (by simp), (sll_no _).inn _, (nilOr_no _).inn _, .int _ _, .int _ _, trivial⟩ ⟨row_inn (nn_cons (.int _ _) (nn_cons (zsl_no _) nn_none)), trivial⟩
  · obtain rfl : i = A.length := by omega
    rw [← hAl] at hr
    generalize B A.length = bb at *
    obtain ⟨best, least⟩ := bb
    dsimp only at *
    rcases best with _ | ⟨o0, bs⟩
    · rw [if_pos rfl] at hr
      repeat' ((conv => whnf); first | (refine condP.dec (fun h => absurd h (by omega)) (fun _ => ?_)) | (first | refine condP.dec (fun h => ?_) (fun h => ?_) | refine condP.eq (fun h => ?_) (fun h => ?_) | refine condP.ne (fun h => ?_) (fun h => ?_)) | (refine .i64 (by omega) (by omega) ?_) | (refine onSome.intro (idx_fs rfl rfl (by omega) (by omega) (fun _ => rfl)) ?_) | (refine onSome.intro (load_fs rfl (by omega) (by omega) rfl) ?_) | (refine And.intro rfl ?_))
      refine .done (by simp) ?_
      repeat' ((conv => whnf); first | (refine condP.eq (fun _ => ?_) (fun h => absurd (by omega) h)) | (first | refine condP.dec (fun h => ?_) (fun h => ?_) | refine condP.eq (fun h => ?_) (fun h => ?_) | refine condP.ne (fun h => ?_) (fun h => ?_)) | (refine .i64 (by omega) (by omega) ?_) | (refine onSome.intro (idx_fs rfl rfl (by omega) (by omega) (fun _ => rfl)) ?_) | (refine onSome.intro (load_fs rfl (by omega) (by omega) rfl) ?_) | (refine And.intro rfl ?_))
      conv => whnf
      exact .intro (.tuple [.nilslice, .int .i64 0, .int .i64 7]) (.inl rfl) rfl (by rw [hr]; exact .tupleL (.cons .nil (.cons (.refl _) (.cons (.refl _) .nil))))
    · rw [if_neg (by simp)] at hr
      have hpos : (((o0 :: bs).map ei).length : Int) ≠ 0 := by simp; omega
      repeat' ((conv => whnf); first | (refine condP.dec (fun h => absurd h (by omega)) (fun _ => ?_)) | (first | refine condP.dec (fun h => ?_) (fun h => ?_) | refine condP.eq (fun h => ?_) (fun h => ?_) | refine condP.ne (fun h => ?_) (fun h => ?_)) | (refine .i64 (by omega) (by omega) ?_) | (refine onSome.intro (idx_fs rfl rfl (by omega) (by omega) (fun _ => rfl)) ?_) | (refine onSome.intro (load_fs rfl (by omega) (by omega) rfl) ?_) | (refine And.intro rfl ?_))
      refine .done (by simp) ?_
      repeat' ((conv => whnf); first | (refine condP.eq (fun h => absurd h hpos) (fun _ => ?_)) | (first | refine condP.dec (fun h => ?_) (fun h => ?_) | refine condP.eq (fun h => ?_) (fun h => ?_) | refine condP.ne (fun h => ?_) (fun h => ?_)) | (refine .i64 (by omega) (by omega) ?_) | (refine onSome.intro (idx_fs rfl rfl (by omega) (by omega) (fun _ => rfl)) ?_) | (refine onSome.intro (load_fs rfl (by omega) (by omega) rfl) ?_) | (refine And.intro rfl ?_))
      conv => whnf
      exact .intro (.tuple [sl (o0 :: bs), .int .i64 least, .int .i64 0]) (.inl rfl) rfl (by rw [hr]; exact .refl _)

end Go.Proofs.Ytpbadgghhiommaa.I
