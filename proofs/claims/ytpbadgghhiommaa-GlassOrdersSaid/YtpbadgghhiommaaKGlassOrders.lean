/- GlassOrders runs to true. -/
import Derived.Test.YtpbadgghhiommaaGown
import Derived.Test.YtpbadgghhiommaaGterm
import Derived.Test.YtpbadgghhiommaaGcount
import Derived.Test.YtpbadgghhiommaaGfirst2
import Derived.Test.YtpbadgghhiommaaKGlassSeals
set_option linter.unusedVariables false
set_option maxHeartbeats 32000000
set_option linter.unusedSimpArgs false
namespace Go.Proofs.Ytpbadgghhiommaa.I
open Go.Ideal

/-- What the program and the reference say of a list of fires and an order is the same. -/
theorem same_right (l : List Fire) (hl : l.length ≤ 100000) (ha : ∀ i : Nat, i < l.length → (at' l (i : Int)).aft.length ≤ 9000000000000000000) (o : List Int) (ho : o.length ≤ 100000) : ∃ q : Bool,
    (∀ H, Ev T (.call (.func (.func 63) [] []) [frsl l, sl o] H) (.call (.bool q) H)) ∧ ∀ H, Ev T (.call (.func (.func 64) [] []) [frsl l, sl o] H) (.call (.bool q) H) := by
  obtain ⟨p, hp, kp⟩ := Right_any l hl ha o ho
  obtain ⟨q, hq, kq⟩ := rRight_any l hl ha o ho
  have : p = q := by
    cases p <;> cases q
    · rfl
    · exact absurd (hp.mpr (hq.mp rfl)) (by simp)
    · exact absurd (hq.mpr (hp.mp rfl)) (by simp)
    · rfl
  subst this
  exact ⟨p, kp, kq⟩
theorem ordL_lens (l : List Fire) : ∀ (d : Nat) (bf : List Int), ∀ o ∈ ordL l d bf, o.length = bf.length + d
  | 0, bf, o, h => by rw [ordL, List.mem_singleton] at h; rw [h]; rfl
  | d + 1, bf, o, h => by
    rw [ordL] at h
    have key : ∀ k, o ∈ ordP (fun i => if NextP l bf i then ordL l d (bf ++ [(i : Int)]) else []) k → o.length = bf.length + (d + 1) := by
      intro k
      induction k with
      | zero => intro h; cases h
      | succ k ih =>
        intro h
        rw [ordP] at h
        rcases List.mem_append.mp h with h | h
        · exact ih h
        · split at h
          · have := ordL_lens l d _ o h
            rw [List.length_append, List.length_singleton] at this
            omega
          · cases h
    exact key _ h
theorem firstR_len (l : List Fire) : (firstR l).1.length ≤ l.length := by
  unfold firstR
  split
  · simp
  · split
    · simp
    · cases h : allL l with
      | nil => simp
      | cons o os =>
        have := ordL_lens l l.length [] o (by show o ∈ allL l; rw [h]; exact List.mem_cons_self)
        simp at this
        simp [this]
theorem fires_both (l : List Fire) (hl : l.length ≤ 12) (ha : ∀ i : Nat, i < l.length → (at' l (i : Int)).aft.length ≤ 20) : ∃ (a : List Int) (e n h : Int),
    (∀ H, Ev T (.call (.func (.func 29) [] []) [frsl l] H) (.call (frsl l) H)) ∧
    (∀ H, Ev T (.call (.func (.func 59) [] []) [frsl l] H) (.call (.tuple [sl a, .int .i64 e]) H)) ∧
    (∀ H, Ev T (.call (.func (.func 60) [] []) [frsl l] H) (.call (.tuple [sl a, .int .i64 e]) H)) ∧
    (∀ H, Ev T (.call (.func (.func 61) [] []) [frsl l] H) (.call (.tuple [.int .i64 n, .int .i64 h]) H)) ∧
    (∀ H, Ev T (.call (.func (.func 62) [] []) [frsl l] H) (.call (.tuple [.int .i64 n, .int .i64 h]) H)) ∧
    (∀ H, Ev T (.call (.func (.func 38) [] []) [frsl l, frsl l] H) (.call (.bool true) H)) ∧
    ∀ H, Ev T (.call (.func (.func 52) [] []) [sl a, sl a] H) (.call (.bool true) H) := by
  have hlen := firstR_len l
  have ha' : ∀ i : Nat, i < l.length → (at' l (i : Int)).aft.length ≤ 100000 := fun i hi => by have := ha i hi; omega
  have ha2 : ∀ i : Nat, i < l.length → (at' l (i : Int)).aft.length ≤ 9000000000000000000 := fun i hi => by have := ha i hi; omega
  have ha3 : ∀ i : Nat, i < l.length → (at' l (i : Int)).aft.length ≤ 9223372036854775807 := fun i hi => by have := ha i hi; omega
  exact ⟨_, _, _, _, OwnFires_ok l (by omega) ha', FirstL_ok l (by omega) ha2, rFirst_ok l (by omega) ha2, Count_ok l (by omega) ha2, rCount_ok l (by omega) ha2, samef_self l (by omega) ha3, same_self _ (by omega)⟩
theorem condP.sameb {w : Bool} {A B : Prop} (h : A) : condP (w == w) A B := condP.intro (fun _ => h) (fun q => absurd q (by simp))
theorem len_om {H : Heap} {E : Env} {x : Opd} {α : Type} {b : Nat} {l : List α} (hx : x.ev E = omsl b l) : iop H E (.len x) = some (.int .i64 l.length) := by
  cases l with
  | nil => simp [iop, hx, omsl]
  | cons a l => simp [iop, hx, omsl]

theorem GlassOrders_ok (l : List Fire) (order nums : List Int) (hl : l.length ≤ 9223372036854775807) (hla : ∀ f ∈ l, f.aft.length ≤ 9223372036854775807) (ho : order.length ≤ 9223372036854775807) (hn : nums.length ≤ 9223372036854775807) (H : Heap) :
    Ev T (.call (.func (.func 10) [] []) [frsl l, sl order, sl nums] H) (.call (.bool true) H) := by
  refine run_pure T10 (nn_bool _) (nn_cons (frsl_no _) (nn_cons (sl_no _) (nn_cons (sl_no _) nn_none))) ?_ H
  have e3 : (l.map frR).length = l.length := List.length_map ..
  have e4 : (order.map ei).length = order.length := List.length_map ..
  have haL : ∀ i : Nat, i < l.length → (at' l (i : Int)).aft.length ≤ 9223372036854775807 := fun i hi => by rw [at'_get hi]; exact hla _ (List.getElem_mem hi)
  have q := long_any l hl haL
  obtain ⟨lb, hlb, klong⟩ := q
  by_cases hlong : lb = false ∧ order.length ≤ 12
  rotate_left
  · cases lb
    all_goals repeat' ((conv => whnf); first | (refine CallP.pure klong ?_) | (refine CallP.pure awake_ok ?_) | (first | refine condP.dec (fun h => ?_) (fun h => ?_) | refine condP.eq (fun h => ?_) (fun h => ?_) | refine condP.ne (fun h => ?_) (fun h => ?_)) | (refine .i64 (by omega) (by omega) ?_) | (refine onSome.intro (idx_fs rfl rfl (by omega) (by omega) (fun _ => rfl)) ?_) | (refine onSome.intro (load_fs rfl (by omega) (by omega) rfl) ?_) | (refine And.intro rfl ?_))
    all_goals first | (exfalso; simp only [true_and, false_and, not_false_eq_true, Nat.not_le] at hlong; omega) | skip
    all_goals conv => whnf
    all_goals exact PureP.intro (.bool true) (.inl rfl) rfl (.refl _)
  obtain ⟨rfl, l12⟩ := hlong
  have hnl : ¬ LongF l := fun h => by have := hlb.mpr h; cases this
  have hll : l.length ≤ 12 := by
    rcases Nat.lt_or_ge 12 l.length with h | h
    · exact absurd (.inr h) hnl
    · exact h
  have hl20 : ∀ i : Nat, i < l.length → (at' l (i : Int)).aft.length ≤ 20 := fun i hi => by
    rcases Nat.lt_or_ge 20 (at' l (i : Int)).aft.length with h | h
    · exact absurd (.inl ⟨i, hi, h⟩) hnl
    · exact h
  have q := NewDice_ok nums hn
  obtain ⟨s0, kd⟩ := q
  have q := FiresOf_any s0 6 (by omega) (by omega)
  obtain ⟨fl, s1, hfl, hfa, kf⟩ := q
  have e5 : (fl.map frR).length = fl.length := List.length_map ..
  repeat' ((conv => whnf); first | (refine CallP.pure klong ?_) | (refine CallP.new kd ?_) | (refine CallP.one (fun H hb => kf H _ hb) rfl ?_) | (first | refine condP.dec (fun h => ?_) (fun h => ?_) | refine condP.eq (fun h => ?_) (fun h => ?_) | refine condP.ne (fun h => ?_) (fun h => ?_)) | (refine .i64 (by omega) (by omega) ?_) | (refine onSome.intro (idx_fs rfl rfl (by omega) (by omega) (fun _ => rfl)) ?_) | (refine onSome.intro (load_fs rfl (by omega) (by omega) rfl) ?_) | (refine And.intro rfl ?_))
  all_goals first | (exfalso; omega) | skip
  conv => whnf
  refine .pad 1 ?_
  refine loop_grow (X := List Int × Int) (fun x => [(0, frsl l), (1, sl order), (7, .ptr 0 0 0), (8, frsl fl), (9, omsl 1 x.1)]) (fun x => [S1 x.2, lsS 1 ei x.1])
    (fun x => (fl.length - x.1.length) * 9223372036854775808 + dealN x.2) (fun x => x.1.length ≤ fl.length) ([], s1) (Nat.zero_le _) ⟨rfl, rfl, rfl, rfl, rfl, trivial⟩ rfl (fun x hx => ?_)
  obtain ⟨o, s⟩ := x
  dsimp only at hx ⊢
  by_cases hlt : o.length < fl.length
  · have q := deal_round s ((fl.map frR).length : Int) (by omega)
    obtain ⟨n, t1, w, t2, hw, kU, kO⟩ := q
    have q := Has_any o (by omega) n
    obtain ⟨p, hp, kH⟩ := q
    have dl := dealN_lt t1
    have dl2 := dealN_lt t2
    have hFz : ∀ {H' : Heap}, (∀ sz e, H' 1 ≠ .live sz e) → ∀ {H : Heap}, H 1 = lsS 1 ei o → Frz H H' (omsl 1 o) (sl o) := fun h1 _ h2 => .oml (enc := ei) h2 h1
    have hu : List.all [S1 t1, lsS 1 ei o] Slot.used = true := by rw [List.all_cons, List.all_cons, lsS_used]; rfl
    cases p
    · repeat' ((conv => whnf); first | (refine force_om ?_) | (refine forceC_om ?_) | (refine onSome.intro (len_om (l := o) rfl) ?_) | (refine condP.dec (fun _ => ?_) (fun h => absurd (by omega) h)) | (refine CallP.one (fun H hb => kU H _ hb) rfl ?_) | (refine CallP.borrow [1] hu (.cons (hFz (fun _ _ h => by cases h) rfl) (.cons (.refl _) .nil)) (nn_cons (sl_no _) (nn_cons (nn_int _ _) nn_none)) kH (.bool _) ?_) | (first | refine condP.dec (fun h => ?_) (fun h => ?_) | refine condP.eq (fun h => ?_) (fun h => ?_) | refine condP.ne (fun h => ?_) (fun h => ?_)) | (refine .i64 (by omega) (by omega) ?_) | (refine onSome.intro (idx_fs rfl rfl (by omega) (by omega) (fun _ => rfl)) ?_) | (refine onSome.intro (load_fs rfl (by omega) (by omega) rfl) ?_) | (refine And.intro rfl ?_))
      conv => whnf
      refine .snoc (enc := ei) (l := o) (b := 1) (r := [.int .i64 n]) rfl rfl rfl rfl (fun c hc => by simp at hc; subst hc; rfl) (by omega) ?_
      conv => whnf
      exact .more (o ++ [n], t1) [0, 3] rfl (by simp; omega) (by simp; omega) rfl ⟨.same (frsl_no _), .same (sl_no _), .pt rfl, .same (frsl_no _), .grown rfl (by simp) (by simp), trivial⟩
        ⟨.same (S1_no _), .snocL (enc := ei) ei_no (.cons (.same (.int _ _)) .nil), trivial⟩
    · cases w
      · have hw := hw rfl
        repeat' ((conv => whnf); first | (refine force_om ?_) | (refine forceC_om ?_) | (refine onSome.intro (len_om (l := o) rfl) ?_) | (refine condP.dec (fun _ => ?_) (fun h => absurd (by omega) h)) | (refine CallP.one (fun H hb => kU H _ hb) rfl ?_) | (refine CallP.borrow [1] hu (.cons (hFz (fun _ _ h => by cases h) rfl) (.cons (.refl _) .nil)) (nn_cons (sl_no _) (nn_cons (nn_int _ _) nn_none)) kH (.bool _) ?_) | (refine CallP.one (fun H hb => kO H _ hb) rfl ?_) | (first | refine condP.dec (fun h => ?_) (fun h => ?_) | refine condP.eq (fun h => ?_) (fun h => ?_) | refine condP.ne (fun h => ?_) (fun h => ?_)) | (refine .i64 (by omega) (by omega) ?_) | (refine onSome.intro (idx_fs rfl rfl (by omega) (by omega) (fun _ => rfl)) ?_) | (refine onSome.intro (load_fs rfl (by omega) (by omega) rfl) ?_) | (refine And.intro rfl ?_))
        conv => whnf
        exact .more (o, t2) [0, 1] rfl hx (by simp; omega) rfl ⟨.same (frsl_no _), .same (sl_no _), .pt rfl, .same (frsl_no _), .omsl rfl, trivial⟩ ⟨.same (S1_no _), .same (lsS_no ei_no), trivial⟩
      · repeat' ((conv => whnf); first | (refine force_om ?_) | (refine forceC_om ?_) | (refine onSome.intro (len_om (l := o) rfl) ?_) | (refine condP.dec (fun _ => ?_) (fun h => absurd (by omega) h)) | (refine CallP.one (fun H hb => kU H _ hb) rfl ?_) | (refine CallP.borrow [1] hu (.cons (hFz (fun _ _ h => by cases h) rfl) (.cons (.refl _) .nil)) (nn_cons (sl_no _) (nn_cons (nn_int _ _) nn_none)) kH (.bool _) ?_) | (refine CallP.one (fun H hb => kO H _ hb) rfl ?_) | (first | refine condP.dec (fun h => ?_) (fun h => ?_) | refine condP.eq (fun h => ?_) (fun h => ?_) | refine condP.ne (fun h => ?_) (fun h => ?_)) | (refine .i64 (by omega) (by omega) ?_) | (refine onSome.intro (idx_fs rfl rfl (by omega) (by omega) (fun _ => rfl)) ?_) | (refine onSome.intro (load_fs rfl (by omega) (by omega) rfl) ?_) | (refine And.intro rfl ?_))
        conv => whnf
        refine .snoc (enc := ei) (l := o) (b := 1) (r := [.int .i64 n]) rfl rfl rfl rfl (fun c hc => by simp at hc; subst hc; rfl) (by omega) ?_
        conv => whnf
        exact .more (o ++ [n], t2) [0, 3] rfl (by simp; omega) (by simp; omega) rfl ⟨.same (frsl_no _), .same (sl_no _), .pt rfl, .same (frsl_no _), .grown rfl (by simp) (by simp), trivial⟩
          ⟨.same (S1_no _), .snocL (enc := ei) ei_no (.cons (.same (.int _ _)) .nil), trivial⟩
  · have hol : o.length ≤ 6 := by omega
    have hFz : ∀ {H' : Heap}, (∀ sz e, H' 1 ≠ .live sz e) → ∀ {H : Heap}, H 1 = lsS 1 ei o → Frz H H' (omsl 1 o) (sl o) := fun h1 _ h2 => .oml (enc := ei) h2 h1
    repeat' ((conv => whnf); first | (refine force_om ?_) | (refine forceC_om ?_) | (refine onSome.intro (len_om (l := o) rfl) ?_) | (refine condP.dec (fun h => absurd h (by omega)) (fun _ => ?_)) | (first | refine condP.dec (fun h => ?_) (fun h => ?_) | refine condP.eq (fun h => ?_) (fun h => ?_) | refine condP.ne (fun h => ?_) (fun h => ?_)) | (refine .i64 (by omega) (by omega) ?_) | (refine onSome.intro (idx_fs rfl rfl (by omega) (by omega) (fun _ => rfl)) ?_) | (refine onSome.intro (load_fs rfl (by omega) (by omega) rfl) ?_) | (refine And.intro rfl ?_))
    refine .done (by simp) ?_
    have hx := fires_both l hll hl20
    obtain ⟨a, ea, na, ha, p1, p2, p3, p4, p5, p6, p7⟩ := hx
    have hx := fires_both fl (by omega) hfa
    obtain ⟨b, eb, nb, hb, r1, r2, r3, r4, r5, r6, r7⟩ := hx
    have hx := same_right l (by omega) (fun i hi => by have := hl20 i hi; omega) order (by omega)
    obtain ⟨w0, u0, v0⟩ := hx
    have hx := same_right fl (by omega) (fun i hi => by have := hfa i hi; omega) o (by omega)
    obtain ⟨w1, u1, v1⟩ := hx
    have hx := same_right fl (by omega) (fun i hi => by have := hfa i hi; omega) order (by omega)
    obtain ⟨w2, u2, v2⟩ := hx
    have hR0 : ∀ e ∈ [[frsl l], [frsl fl], [frsl fl]], ∀ x ∈ e, Noname x := fun e he => by
      simp only [List.mem_cons, List.not_mem_nil, or_false, or_self] at he
      rcases he with rfl | rfl
      · exact nn_cons (frsl_no _) nn_none
      · exact nn_cons (frsl_no _) nn_none
    have hR1 : ∀ (j k : Nat) (h : j < [[sl order], [omsl 1 o], [sl order]].length) (h' : k < [[sl order], [omsl 1 o], [sl order]][j].length), Inn (· < 4) [[sl order], [omsl 1 o], [sl order]][j][k] := fun j k h h' => by
      have ho : Inn (· < 4) (omsl 1 o) := by
        cases o with
        | nil => exact .nilslice
        | cons a o => exact .mslice _ _ _ _ _ (by decide)
      match j, h with
      | 0, h => match k, h' with | 0, _ => exact (sl_no _).inn _
      | 1, h => match k, h' with | 0, _ => exact ho
      | 2, h => match k, h' with | 0, _ => exact (sl_no _).inn _
    rcases o with _ | ⟨o0, o⟩
    · conv => whnf
      have hu2 : List.all [S1 s, lsS 1 ei ([] : List Int), .live 1 [[frsl l], [frsl fl], [frsl fl]], .live 1 [[sl order], [omsl 1 ([] : List Int)], [sl order]]] Slot.used = true := rfl
      refine loop_rule (X := Nat) (fun i => [(11, .mslice 2 0 3 3 true), (12, .mslice 3 0 3 3 true), (13, .int .i64 i)]) (fun _ => [S1 s, lsS 1 ei ([] : List Int), .live 1 [[frsl l], [frsl fl], [frsl fl]], .live 1 [[sl order], [omsl 1 ([] : List Int)], [sl order]]]) (fun i => 3 - i) (fun i => i ≤ 3) 0
        (by omega) ⟨rfl, rfl, rfl, trivial⟩ rfl (fun _ _ => rfl) (fun i hi => ?_)
      rcases i with _ | _ | _ | i
      · repeat' ((conv => whnf); first | (refine CallP.pure p1 ?_) | (refine CallP.pure p2 ?_) | (refine CallP.pure p3 ?_) | (refine CallP.pure p4 ?_) | (refine CallP.pure p5 ?_) | (refine CallP.pure p6 ?_) | (refine CallP.pure p7 ?_) | (refine CallP.pure u0 ?_) | (refine CallP.pure v0 ?_) | (refine condP.differ1 ?_) | (refine condP.sameb ?_) | (first | refine condP.dec (fun h => ?_) (fun h => ?_) | refine condP.eq (fun h => ?_) (fun h => ?_) | refine condP.ne (fun h => ?_) (fun h => ?_)) | (refine .i64 (by omega) (by omega) ?_) | (refine onSome.intro (idx_fs rfl rfl (by omega) (by omega) (fun _ => rfl)) ?_) | (refine onSome.intro (load_fs rfl (by omega) (by omega) rfl) ?_) | (refine And.intro rfl ?_))
        all_goals first | (exfalso; omega) | skip
        conv => whnf
        exact .more 1 rfl (by omega) (by omega) ⟨rfl, rfl, rfl, trivial⟩ rfl ⟨.mslice _ _ _ _ _ (by simp), .mslice _ _ _ _ _ (by simp), .int _ _, trivial⟩
          ⟨(fun j k h h' => (S1_no s _ (List.getElem_mem h) _ (List.getElem_mem h')).inn _), (fun j k h h' => (hR0 _ (List.getElem_mem h) _ (List.getElem_mem h')).inn _), hR1, trivial⟩
      · repeat' ((conv => whnf); first | (refine CallP.pure r1 ?_) | (refine CallP.pure r2 ?_) | (refine CallP.pure r3 ?_) | (refine CallP.pure r4 ?_) | (refine CallP.pure r5 ?_) | (refine CallP.pure r6 ?_) | (refine CallP.pure r7 ?_) | (refine CallP.borrow [1] hu2 (.cons (.refl _) (.cons (hFz (fun _ _ h => by cases h) rfl) .nil)) (nn_cons (frsl_no _) (nn_cons (sl_no _) nn_none)) u1 (.bool _) ?_) | (refine CallP.borrow [1] hu2 (.cons (.refl _) (.cons (hFz (fun _ _ h => by cases h) rfl) .nil)) (nn_cons (frsl_no _) (nn_cons (sl_no _) nn_none)) v1 (.bool _) ?_) | (refine condP.differ1 ?_) | (refine condP.sameb ?_) | (first | refine condP.dec (fun h => ?_) (fun h => ?_) | refine condP.eq (fun h => ?_) (fun h => ?_) | refine condP.ne (fun h => ?_) (fun h => ?_)) | (refine .i64 (by omega) (by omega) ?_) | (refine onSome.intro (idx_fs rfl rfl (by omega) (by omega) (fun _ => rfl)) ?_) | (refine onSome.intro (load_fs rfl (by omega) (by omega) rfl) ?_) | (refine And.intro rfl ?_))
        all_goals first | (exfalso; omega) | skip
        conv => whnf
        exact .more 2 rfl (by omega) (by omega) ⟨rfl, rfl, rfl, trivial⟩ rfl ⟨.mslice _ _ _ _ _ (by simp), .mslice _ _ _ _ _ (by simp), .int _ _, trivial⟩
          ⟨(fun j k h h' => (S1_no s _ (List.getElem_mem h) _ (List.getElem_mem h')).inn _), (fun j k h h' => (hR0 _ (List.getElem_mem h) _ (List.getElem_mem h')).inn _), hR1, trivial⟩
      · repeat' ((conv => whnf); first | (refine CallP.pure r1 ?_) | (refine CallP.pure r2 ?_) | (refine CallP.pure r3 ?_) | (refine CallP.pure r4 ?_) | (refine CallP.pure r5 ?_) | (refine CallP.pure r6 ?_) | (refine CallP.pure r7 ?_) | (refine CallP.pure u2 ?_) | (refine CallP.pure v2 ?_) | (refine condP.differ1 ?_) | (refine condP.sameb ?_) | (first | refine condP.dec (fun h => ?_) (fun h => ?_) | refine condP.eq (fun h => ?_) (fun h => ?_) | refine condP.ne (fun h => ?_) (fun h => ?_)) | (refine .i64 (by omega) (by omega) ?_) | (refine onSome.intro (idx_fs rfl rfl (by omega) (by omega) (fun _ => rfl)) ?_) | (refine onSome.intro (load_fs rfl (by omega) (by omega) rfl) ?_) | (refine And.intro rfl ?_))
        all_goals first | (exfalso; omega) | skip
        conv => whnf
        exact .more 3 rfl (by omega) (by omega) ⟨rfl, rfl, rfl, trivial⟩ rfl ⟨.mslice _ _ _ _ _ (by simp), .mslice _ _ _ _ _ (by simp), .int _ _, trivial⟩
          ⟨(fun j k h h' => (S1_no s _ (List.getElem_mem h) _ (List.getElem_mem h')).inn _), (fun j k h h' => (hR0 _ (List.getElem_mem h) _ (List.getElem_mem h')).inn _), hR1, trivial⟩
      · obtain rfl : i = 0 := by omega
        repeat' ((conv => whnf); first | (refine CallP.pure awake_ok ?_) | (first | refine condP.dec (fun h => ?_) (fun h => ?_) | refine condP.eq (fun h => ?_) (fun h => ?_) | refine condP.ne (fun h => ?_) (fun h => ?_)) | (refine .i64 (by omega) (by omega) ?_) | (refine onSome.intro (idx_fs rfl rfl (by omega) (by omega) (fun _ => rfl)) ?_) | (refine onSome.intro (load_fs rfl (by omega) (by omega) rfl) ?_) | (refine And.intro rfl ?_))
        all_goals first | (exfalso; omega) | skip
        refine .done (by simp) ?_
        repeat' ((conv => whnf); first | (refine CallP.pure awake_ok ?_) | (first | refine condP.dec (fun h => ?_) (fun h => ?_) | refine condP.eq (fun h => ?_) (fun h => ?_) | refine condP.ne (fun h => ?_) (fun h => ?_)) | (refine .i64 (by omega) (by omega) ?_) | (refine onSome.intro (idx_fs rfl rfl (by omega) (by omega) (fun _ => rfl)) ?_) | (refine onSome.intro (load_fs rfl (by omega) (by omega) rfl) ?_) | (refine And.intro rfl ?_))
        conv => whnf
        exact PureP.intro (.bool true) (.inl rfl) rfl (.refl _)
    · conv => whnf
      have hu2 : List.all [S1 s, lsS 1 ei (o0 :: o), .live 1 [[frsl l], [frsl fl], [frsl fl]], .live 1 [[sl order], [omsl 1 (o0 :: o)], [sl order]]] Slot.used = true := rfl
      refine loop_rule (X := Nat) (fun i => [(11, .mslice 2 0 3 3 true), (12, .mslice 3 0 3 3 true), (13, .int .i64 i)]) (fun _ => [S1 s, lsS 1 ei (o0 :: o), .live 1 [[frsl l], [frsl fl], [frsl fl]], .live 1 [[sl order], [omsl 1 (o0 :: o)], [sl order]]]) (fun i => 3 - i) (fun i => i ≤ 3) 0
        (by omega) ⟨rfl, rfl, rfl, trivial⟩ rfl (fun _ _ => rfl) (fun i hi => ?_)
      rcases i with _ | _ | _ | i
      · repeat' ((conv => whnf); first | (refine CallP.pure p1 ?_) | (refine CallP.pure p2 ?_) | (refine CallP.pure p3 ?_) | (refine CallP.pure p4 ?_) | (refine CallP.pure p5 ?_) | (refine CallP.pure p6 ?_) | (refine CallP.pure p7 ?_) | (refine CallP.pure u0 ?_) | (refine CallP.pure v0 ?_) | (refine condP.differ1 ?_) | (refine condP.sameb ?_) | (first | refine condP.dec (fun h => ?_) (fun h => ?_) | refine condP.eq (fun h => ?_) (fun h => ?_) | refine condP.ne (fun h => ?_) (fun h => ?_)) | (refine .i64 (by omega) (by omega) ?_) | (refine onSome.intro (idx_fs rfl rfl (by omega) (by omega) (fun _ => rfl)) ?_) | (refine onSome.intro (load_fs rfl (by omega) (by omega) rfl) ?_) | (refine And.intro rfl ?_))
        all_goals first | (exfalso; omega) | skip
        conv => whnf
        exact .more 1 rfl (by omega) (by omega) ⟨rfl, rfl, rfl, trivial⟩ rfl ⟨.mslice _ _ _ _ _ (by simp), .mslice _ _ _ _ _ (by simp), .int _ _, trivial⟩
          ⟨(fun j k h h' => (S1_no s _ (List.getElem_mem h) _ (List.getElem_mem h')).inn _), (fun j k h h' => (noS_map (sz := 1) (l := o0 :: o) (enc := ei) ei_no _ (List.getElem_mem h) _ (List.getElem_mem h')).inn _), (fun j k h h' => (hR0 _ (List.getElem_mem h) _ (List.getElem_mem h')).inn _), hR1, trivial⟩
      · repeat' ((conv => whnf); first | (refine CallP.pure r1 ?_) | (refine CallP.pure r2 ?_) | (refine CallP.pure r3 ?_) | (refine CallP.pure r4 ?_) | (refine CallP.pure r5 ?_) | (refine CallP.pure r6 ?_) | (refine CallP.pure r7 ?_) | (refine CallP.borrow [1] hu2 (.cons (.refl _) (.cons (hFz (fun _ _ h => by cases h) rfl) .nil)) (nn_cons (frsl_no _) (nn_cons (sl_no _) nn_none)) u1 (.bool _) ?_) | (refine CallP.borrow [1] hu2 (.cons (.refl _) (.cons (hFz (fun _ _ h => by cases h) rfl) .nil)) (nn_cons (frsl_no _) (nn_cons (sl_no _) nn_none)) v1 (.bool _) ?_) | (refine condP.differ1 ?_) | (refine condP.sameb ?_) | (first | refine condP.dec (fun h => ?_) (fun h => ?_) | refine condP.eq (fun h => ?_) (fun h => ?_) | refine condP.ne (fun h => ?_) (fun h => ?_)) | (refine .i64 (by omega) (by omega) ?_) | (refine onSome.intro (idx_fs rfl rfl (by omega) (by omega) (fun _ => rfl)) ?_) | (refine onSome.intro (load_fs rfl (by omega) (by omega) rfl) ?_) | (refine And.intro rfl ?_))
        all_goals first | (exfalso; omega) | skip
        conv => whnf
        exact .more 2 rfl (by omega) (by omega) ⟨rfl, rfl, rfl, trivial⟩ rfl ⟨.mslice _ _ _ _ _ (by simp), .mslice _ _ _ _ _ (by simp), .int _ _, trivial⟩
          ⟨(fun j k h h' => (S1_no s _ (List.getElem_mem h) _ (List.getElem_mem h')).inn _), (fun j k h h' => (noS_map (sz := 1) (l := o0 :: o) (enc := ei) ei_no _ (List.getElem_mem h) _ (List.getElem_mem h')).inn _), (fun j k h h' => (hR0 _ (List.getElem_mem h) _ (List.getElem_mem h')).inn _), hR1, trivial⟩
      · repeat' ((conv => whnf); first | (refine CallP.pure r1 ?_) | (refine CallP.pure r2 ?_) | (refine CallP.pure r3 ?_) | (refine CallP.pure r4 ?_) | (refine CallP.pure r5 ?_) | (refine CallP.pure r6 ?_) | (refine CallP.pure r7 ?_) | (refine CallP.pure u2 ?_) | (refine CallP.pure v2 ?_) | (refine condP.differ1 ?_) | (refine condP.sameb ?_) | (first | refine condP.dec (fun h => ?_) (fun h => ?_) | refine condP.eq (fun h => ?_) (fun h => ?_) | refine condP.ne (fun h => ?_) (fun h => ?_)) | (refine .i64 (by omega) (by omega) ?_) | (refine onSome.intro (idx_fs rfl rfl (by omega) (by omega) (fun _ => rfl)) ?_) | (refine onSome.intro (load_fs rfl (by omega) (by omega) rfl) ?_) | (refine And.intro rfl ?_))
        all_goals first | (exfalso; omega) | skip
        conv => whnf
        exact .more 3 rfl (by omega) (by omega) ⟨rfl, rfl, rfl, trivial⟩ rfl ⟨.mslice _ _ _ _ _ (by simp), .mslice _ _ _ _ _ (by simp), .int _ _, trivial⟩
          ⟨(fun j k h h' => (S1_no s _ (List.getElem_mem h) _ (List.getElem_mem h')).inn _), (fun j k h h' => (noS_map (sz := 1) (l := o0 :: o) (enc := ei) ei_no _ (List.getElem_mem h) _ (List.getElem_mem h')).inn _), (fun j k h h' => (hR0 _ (List.getElem_mem h) _ (List.getElem_mem h')).inn _), hR1, trivial⟩
      · obtain rfl : i = 0 := by omega
        repeat' ((conv => whnf); first | (refine CallP.pure awake_ok ?_) | (first | refine condP.dec (fun h => ?_) (fun h => ?_) | refine condP.eq (fun h => ?_) (fun h => ?_) | refine condP.ne (fun h => ?_) (fun h => ?_)) | (refine .i64 (by omega) (by omega) ?_) | (refine onSome.intro (idx_fs rfl rfl (by omega) (by omega) (fun _ => rfl)) ?_) | (refine onSome.intro (load_fs rfl (by omega) (by omega) rfl) ?_) | (refine And.intro rfl ?_))
        all_goals first | (exfalso; omega) | skip
        refine .done (by simp) ?_
        repeat' ((conv => whnf); first | (refine CallP.pure awake_ok ?_) | (first | refine condP.dec (fun h => ?_) (fun h => ?_) | refine condP.eq (fun h => ?_) (fun h => ?_) | refine condP.ne (fun h => ?_) (fun h => ?_)) | (refine .i64 (by omega) (by omega) ?_) | (refine onSome.intro (idx_fs rfl rfl (by omega) (by omega) (fun _ => rfl)) ?_) | (refine onSome.intro (load_fs rfl (by omega) (by omega) rfl) ?_) | (refine And.intro rfl ?_))
        conv => whnf
        exact PureP.intro (.bool true) (.inl rfl) rfl (.refl _)

end Go.Proofs.Ytpbadgghhiommaa.I
