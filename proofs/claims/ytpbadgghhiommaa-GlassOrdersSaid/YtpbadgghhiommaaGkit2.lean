/- What the statements make of programmes; soaking, as the reference has it. -/
import Derived.Test.YtpbadgghhiommaaGjudge
import Derived.Test.YtpbadgghhiommaaGref2
import Derived.Test.YtpbadgghhiommaaGsoak
set_option linter.unusedVariables false
set_option maxHeartbeats 16000000
set_option linter.unusedSimpArgs false
namespace Go.Proofs.Ytpbadgghhiommaa.I
open Go.Ideal

theorem Judge_ok (b : Int) (zs : List Zone) (hz : zs.length ≤ 9000000000000000000) (k f : Int) (ls : List Leg) (hl : ls.length ≤ 9000000000000000000) (left : Int) (H : Heap) : Ev T (.call (.func (.func 69) [] []) [stuffI b zs, .int .i64 k, ovenI f ls, .int .i64 left] H)
    (.call (ierr (zif (judgeE b zs k f ls left) (judgeV b zs k f ls left).1) (zif (judgeE b zs k f ls left) (judgeV b zs k f ls left).2) (judgeE b zs k f ls left)) H) := by
  refine run_pure T69 (ierr_no _ _ _) (nn_cons (stuffI_no _ _) (nn_cons (nn_int _ _) (nn_cons (ovenI_no _ _) (nn_cons (nn_int _ _) nn_none)))) ?_ H
  have k1 := checkWall_ok b zs hz k f ls hl
  have kz := fun q => wall_zero (b := b) (zs := zs) (k := k) (f := f) (ls := ls) q
  have k2 := fun q h1 h2 => judge_ok b zs (by have := (check_zero (kz q).1).1; omega) (check_zero (kz q).1).1.2 (check_zero (kz q).1).2 k f (kz q).2.1.1 (kz q).2.1.2 ls (oven_zero (kz q).2.2) left h1 h2
  have hx : ∃ e, e = judgeE b zs k f ls left := ⟨_, rfl⟩
  obtain ⟨e, he⟩ := hx
  rw [← he]
  unfold judgeE Outs at he
  generalize wallE b zs k f ls = c at *
  generalize judgeV b zs k f ls left = v at *
  clear kz
  have z1 : e ≠ 0 → ∀ n, zif e n = 0 := fun h n => if_neg h
  conv => whnf
  refine CallP.pure k1 ?_
  conv => whnf
  refine condP.ne (fun h => ?_) (fun h => ?_)
  · rw [if_pos h] at he
    subst he
    conv => whnf
    exact .intro (ierr 0 0 e) (.inl rfl) rfl (frz_eq (by rw [z1 h, z1 h]))
  · rw [if_neg (by omega)] at he
    have k3 := k2 h
    clear k2
    conv => whnf
    refine CallP.dec (outside_ok _ _) (fun h => ?_) (fun h => ?_)
    all_goals unfold Outs at h
    · have he : e = 2 := by rw [he]; exact if_pos h
      subst he
      conv => whnf
      exact .intro (ierr 0 0 2) (.inl rfl) rfl (.refl _)
    · have he : e = 0 := by rw [he]; exact if_neg h
      subst he
      conv => whnf
      refine CallP.pure (k3 (by omega) (by omega)) ?_
      conv => whnf
      exact .intro (ierr v.1 v.2 0) (.inl rfl) rfl (.refl _)
theorem wall_ok' {b : Int} {zs : List Zone} {k f : Int} {ls : List Leg} (hb0 : 1 ≤ b) (hb1 : b ≤ 1000000000) (h : ZOk zs) (hk : 1 ≤ k) (hk1 : k ≤ 1000) (hO : OOk f ls) : wallE b zs k f ls = 0 := by
  unfold wallE
  rw [if_neg (by rw [check_ok hb0 hb1 h]; simp), if_neg (by omega), oven_ok hO]
theorem Judge_at {b : Int} {zs : List Zone} {k f : Int} {ls : List Leg} (hb0 : 1 ≤ b) (hb1 : b ≤ 1000000000) (h : ZOk zs) (hk : 1 ≤ k) (hk1 : k ≤ 1000) (hO : OOk f ls) {left : Int} (hl0 : 0 ≤ left) (hl1 : left ≤ 1099511627776) (H : Heap) :
    Ev T (.call (.func (.func 69) [] []) [stuffI b zs, .int .i64 k, ovenI f ls, .int .i64 left] H) (.call (ierr (judgeV b zs k f ls left).1 (judgeV b zs k f ls left).2 0) H) := by
  have q := Judge_ok b zs (by have := h.len; omega) k f ls (by have := hO.len; omega) left H
  have e : judgeE b zs k f ls left = 0 := by
    unfold judgeE
    rw [if_neg (by rw [wall_ok' hb0 hb1 h hk hk1 hO]; simp), if_neg (by unfold Outs; omega)]
  rw [e, zif_0, zif_0] at q
  exact q
theorem Strain_at {b : Int} {zs : List Zone} {k f : Int} {ls : List Leg} (hb0 : 1 ≤ b) (hb1 : b ≤ 1000000000) (h : ZOk zs) (hk : 1 ≤ k) (hk1 : k ≤ 1000) (hO : OOk f ls) (H : Heap) :
    Ev T (.call (.func (.func 68) [] []) [stuffI b zs, .int .i64 k, ovenI f ls] H) (.call (resL 0 (strL zs k f ls ls.length)) H) := by
  have q := Strain_ok b zs (by have := h.len; omega) k f ls (by have := hO.len; omega) H
  rw [wall_ok' hb0 hb1 h hk hk1 hO, if_pos rfl] at q
  exact q
theorem rStrain_at {b : Int} {zs : List Zone} {k f : Int} {ls : List Leg} (hb0 : 1 ≤ b) (hb1 : b ≤ 1000000000) (h : ZOk zs) (hk : 1 ≤ k) (hk1 : k ≤ 1000) (hO : OOk f ls) (H : Heap) :
    Ev T (.call (.func (.func 73) [] []) [stuffI b zs, .int .i64 k, ovenI f ls] H) (.call (resL 0 (strL zs k f ls ls.length)) H) := by
  have q := rStrain_ok b zs (by have := h.len; omega) k f ls (by have := hO.len; omega) H
  rw [wall_ok' hb0 hb1 h hk hk1 hO, if_pos rfl] at q
  exact q
theorem strL_at (zs : List Zone) (k f : Int) (ls : List Leg) {n m : Nat} (h : m < n) : at' (strL zs k f ls n) (m : Int) = ((ovenS zs k f ls (m + 1)).lo, (ovenS zs k f ls (m + 1)).hi) := by
  induction n with
  | zero => omega
  | succ n ih =>
    unfold at' at ih ⊢
    rw [Int.toNat_natCast, List.getD_eq_getElem?_getD] at *
    rw [strL]
    by_cases q : m = n
    · subst q
      rw [List.getElem?_append_right (by rw [strL_len]; omega), strL_len]; simp
    · rw [List.getElem?_append_left (by rw [strL_len]; omega)]
      exact ih (by omega)

theorem In_any2 (s lo hi : Int) (h1 : -1000000000000 ≤ lo) (h2 : hi ≤ 10000000000000) (h3 : lo ≤ 10000000000000) : ∃ v s' : Int, lo ≤ v ∧ v ≤ max lo hi ∧ ∀ (H : Heap) (n : Nat), H n = S1 s → Ev T (.call (.func (.func 55) [] []) [.ptr n 0 0, rgI lo hi] H) (.call (.int .i64 v) (H.set n (S1 s'))) := by
  obtain ⟨v, s', v0, v1, k⟩ := Between_any s lo (max lo hi) (by omega) (by omega) (by omega)
  refine ⟨v, s', v0, by omega, fun H n hn => ?_⟩
  refine run_one T55 (nn_int _ _) (nn_cons (rgI_no _ _) nn_none) (S1_no _) (S1_no _) ?_ H hn
  conv => whnf
  refine CallP.one (fun H hb => k H _ hb) rfl ?_
  conv => whnf
  exact .one (u := .int .i64 v) (.inl rfl) rfl rfl (.refl _) (nn_int _ _)

theorem ln_snoc (ls : List Leg) (l : Leg) (i : Nat) (h : i ≤ ls.length) : ln (ls ++ [l]) i = if i < ls.length then ln ls i else l := by
  unfold ln
  split
  · rename_i c
    simp [List.getD_eq_getElem?_getD, List.getElem?_append_left c]
  · obtain rfl : i = ls.length := by omega
    simp [List.getD_eq_getElem?_getD]
def LegsIn (ticks : Int) (ls : List Leg) : Prop := ∀ i, i < ls.length → 1 ≤ (ln ls i).ti ∧ (ln ls i).ti ≤ ticks ∧ 0 ≤ (ln ls i).he ∧ (ln ls i).he ≤ 2000
theorem LegsIn.snoc {ticks : Int} {ls : List Leg} (h : LegsIn ticks ls) {l : Leg} (hl : 1 ≤ l.ti ∧ l.ti ≤ ticks ∧ 0 ≤ l.he ∧ l.he ≤ 2000) : LegsIn ticks (ls ++ [l]) := by
  intro i hi
  rw [List.length_append, List.length_singleton] at hi
  rw [ln_snoc ls l i (by omega)]
  split
  · exact h i (by assumption)
  · exact hl
theorem OvenOf_any (s legs ticks : Int) (h0 : 0 ≤ legs) (h1 : legs ≤ 50) (h2 : 1 ≤ ticks) (h3 : ticks ≤ 2000) : ∃ (f : Int) (ls : List Leg) (s' : Int), 300 ≤ f ∧ f ≤ 1200 ∧ (ls.length : Int) ≤ legs ∧ LegsIn ticks ls ∧
    ∀ (H : Heap) (n : Nat), H n = S1 s → Ev T (.call (.func (.func 23) [] []) [.ptr n 0 0, .int .i64 legs, .int .i64 ticks] H) (.call (ovenI f ls) (H.set n (S1 s'))) := by
  have key := run_one_some T23 (i := 0) (off := 0) (args := [.int .i64 legs, .int .i64 ticks]) (s := S1 s) (P := fun v z => ∃ (f : Int) (ls : List Leg) (s' : Int), v = ovenI f ls ∧ z = S1 s' ∧ 300 ≤ f ∧ f ≤ 1200 ∧ (ls.length : Int) ≤ legs ∧ LegsIn ticks ls)
    (nn_cons (nn_int _ _) (nn_cons (nn_int _ _) nn_none)) (S1_no _) (by
    have q := Between_any s 300 1200 (by omega) (by omega) (by omega)
    obtain ⟨f, s1, f0, f1, k1⟩ := q
    have q := Upto_any s1 (legs + 1) (by omega)
    obtain ⟨m, s2, m0, m1, k2⟩ := q
    repeat' ((conv => whnf); first | (refine CallP.one (fun H hb => k1 H _ hb) rfl ?_) | (refine CallP.one (fun H hb => k2 H _ hb) rfl ?_) | (first | refine condP.dec (fun h => ?_) (fun h => ?_) | refine condP.eq (fun h => ?_) (fun h => ?_) | refine condP.ne (fun h => ?_) (fun h => ?_)) | (refine .i64 (by omega) (by omega) ?_) | (refine onSome.intro (idx_fs rfl rfl (by omega) (by omega) (fun _ => rfl)) ?_) | (refine onSome.intro (load_fs rfl (by omega) (by omega) rfl) ?_) | (refine And.intro rfl ?_))
    conv => whnf
    refine .pad 1 ?_
    refine loop_grow (X := List Leg × Int × Nat) (fun x => [(0, .ptr 0 0 0), (2, .int .i64 ticks), (6, .ptr 1 0 0), (7, .ptr 2 0 0), (8, .int .i64 x.2.2)]) (fun x => [S1 x.2.1, .live 2 [[.int .i64 0, .nilslice]], .live 2 [[.int .i64 f, omsl 3 x.1]], lsS 2 lr x.1])
      (fun x => x.2.2) (fun x => (x.1.length : Int) + x.2.2 ≤ legs ∧ LegsIn ticks x.1) ([], s2, m.toNat) ⟨by simp; omega, fun i hi => by simp at hi⟩ ⟨rfl, rfl, rfl, rfl, (by show i6 _ = i6 _; rw [show ((m.toNat : Nat) : Int) = m by omega]), trivial⟩ rfl (fun x hx => ?_)
    obtain ⟨ls, s, q⟩ := x
    have hq := hx.1
    have hL := hx.2
    dsimp only at hq hL ⊢
    clear hx
    rcases Nat.eq_zero_or_pos q with rfl | hpos
    · repeat' ((conv => whnf); first | (refine force_om ?_) | (refine condP.dec (fun h => absurd h (by omega)) (fun _ => ?_)) | (first | refine condP.dec (fun h => ?_) (fun h => ?_) | refine condP.eq (fun h => ?_) (fun h => ?_) | refine condP.ne (fun h => ?_) (fun h => ?_)) | (refine .i64 (by omega) (by omega) ?_) | (refine onSome.intro (idx_fs rfl rfl (by omega) (by omega) (fun _ => rfl)) ?_) | (refine onSome.intro (load_fs rfl (by omega) (by omega) rfl) ?_) | (refine And.intro rfl ?_))
      refine .done (by simp) ?_
      have hl0 : (ls.length : Int) ≤ legs := by omega
      rcases ls with _ | ⟨l0, ls⟩
      · conv => whnf
        exact .intro (ovenI f []) (S1 s) ⟨f, [], s, rfl, rfl, f0, f1, hl0, hL⟩ (ovenI_no _ _) (S1_no _) (.one (u := .agg [.int .i64 f, .nilslice]) (.inl rfl) rfl rfl (.aggL (.cons (.refl _) (.cons .nil .nil))) (ovenI_no _ _))
      · conv => whnf
        exact .intro (ovenI f (l0 :: ls)) (S1 s) ⟨f, l0 :: ls, s, rfl, rfl, f0, f1, hl0, hL⟩ (ovenI_no _ _) (S1_no _) (.one (u := .agg [.int .i64 f, omsl 3 (l0 :: ls)]) (.inl rfl) rfl rfl (.aggL (.cons (.refl _) (.cons (.oml (sz := 2) (enc := lr) rfl (fun _ _ h => by cases h)) .nil))) (ovenI_no _ _))
    · have y := Between_any s 1 ticks (by omega) (by omega) (by omega)
      obtain ⟨a, t1, a0, a1, j1⟩ := y
      have y := Between_any t1 300 1200 (by omega) (by omega) (by omega)
      obtain ⟨b1, t2, b10, b11, j2⟩ := y
      have y := Upto_any t2 2001 (by omega)
      obtain ⟨c, t3, c0, c1, j3⟩ := y
      have y := Upto_any t3 3 (by omega)
      obtain ⟨u, t4, u0, u1, j4⟩ := y
      have hy : 0 ≤ at' [b1, c, f] u ∧ at' [b1, c, f] u ≤ 2000 := by
        have : u = 0 ∨ u = 1 ∨ u = 2 := by omega
        rcases this with rfl | rfl | rfl <;> simp [at'] <;> omega
      have y : ∃ e, e = at' [b1, c, f] u := ⟨_, rfl⟩
      obtain ⟨y, he⟩ := y
      rw [← he] at hy
      have hN := hL.snoc (l := ⟨a, y⟩) ⟨a0, a1, hy⟩
      have hlen : ls.length ≤ 50 := by omega
      repeat' ((conv => whnf); first | (refine force_om ?_) | (refine condP.dec (fun _ => ?_) (fun h => absurd (by omega) h)) | (refine CallP.one (fun H hb => j1 H _ hb) rfl ?_) | (refine CallP.one (fun H hb => j2 H _ hb) rfl ?_) | (refine CallP.one (fun H hb => j3 H _ hb) rfl ?_) | (refine CallP.one (fun H hb => j4 H _ hb) rfl ?_) | (refine onSome.intro (idx_ms rfl rfl rfl (by omega) (by omega)) ?_) | (refine onSome.intro (load_ms (l := [b1, c, f]) (enc := ei) (i := u) (v := .int .i64 y) rfl rfl (by omega) (show u < 3 by omega) (he ▸ rfl)) ?_) | (first | refine condP.dec (fun h => ?_) (fun h => ?_) | refine condP.eq (fun h => ?_) (fun h => ?_) | refine condP.ne (fun h => ?_) (fun h => ?_)) | (refine .i64 (by omega) (by omega) ?_) | (refine onSome.intro (idx_fs rfl rfl (by omega) (by omega) (fun _ => rfl)) ?_) | (refine onSome.intro (load_fs rfl (by omega) (by omega) rfl) ?_) | (refine And.intro rfl ?_))
      conv => whnf
      refine .snoc (enc := lr) (l := ls) (b := 3) (r := [.int .i64 a, .int .i64 y]) rfl rfl rfl rfl (fun c hc => by simp at hc; rcases hc with rfl | rfl <;> rfl) (by omega) ?_
      (repeat ((conv => whnf); refine And.intro rfl ?_)); conv => whnf
      refine .i64 (by omega) (by omega) ?_
      conv => whnf
      exact .more (ls ++ [⟨a, y⟩], t4, q - 1) [0, 1, 2, 6] rfl ⟨by simp; omega, hN⟩ (by dsimp only; omega) rfl ⟨.pt rfl, .same (.int _ _), .pt rfl, .pt rfl, .nn (.int _ _) (frz_int (by dsimp only; omega)), trivial⟩
        ⟨.same (S1_no _), .same (noS_row (nn_cons (.int _ _) (nn_cons .nilslice nn_none))), .row (.cons (.same (.int _ _)) (.cons (.grown rfl (by simp) (by simp)) .nil)), .snocL (enc := lr) (a := ⟨a, y⟩) lr_no (.cons (.same (.int _ _)) (.cons (.same (.int _ _)) .nil)), trivial⟩)
  obtain ⟨v, z, ⟨f, ls, s', rfl, rfl, q1, q2, q3, q4⟩, _, _, hh⟩ := key
  exact ⟨f, ls, s', q1, q2, q3, q4, fun H n hn => hh H n hn⟩
theorem LegsIn.oven {ticks f : Int} {ls : List Leg} (h : LegsIn ticks ls) (ht : ticks ≤ 2000) (hf : 0 ≤ f) (hf1 : f ≤ 2000) (hl : ls.length ≤ 20) : OOk f ls := ⟨⟨hf, hf1⟩, hl, fun i hi => by have := h i hi; omega⟩
theorem LeftOf_any (s b : Int) (zs : List Zone) (k f : Int) (ls : List Leg) (hb0 : 1 ≤ b) (hb1 : b ≤ 1000000000) (h : ZOk zs) (hk : 1 ≤ k) (hk1 : k ≤ 1000) (hO : OOk f ls) : ∃ v s' : Int, 0 ≤ v ∧ v ≤ 1099511627776 ∧
    ∀ (H : Heap) (n : Nat), H n = S1 s → Ev T (.call (.func (.func 66) [] []) [.ptr n 0 0, stuffI b zs, .int .i64 k, ovenI f ls] H) (.call (.int .i64 v) (H.set n (S1 s'))) := by
  have key := run_one_some T66 (i := 0) (off := 0) (args := [stuffI b zs, .int .i64 k, ovenI f ls]) (s := S1 s) (P := fun v z => ∃ w s' : Int, v = .int .i64 w ∧ z = S1 s' ∧ 0 ≤ w ∧ w ≤ 1099511627776)
    (nn_cons (stuffI_no _ _) (nn_cons (nn_int _ _) (nn_cons (ovenI_no _ _) nn_none))) (S1_no _) (by
    have ks := rStrain_at hb0 hb1 h hk hk1 hO
    have hsl := strL_len (zs := zs) (k := k) (f := f) (ls := ls) ls.length
    have hin : ∀ m : Nat, m < ls.length → (0 ≤ (at' (strL zs k f ls ls.length) (m : Int)).1 ∧ (at' (strL zs k f ls ls.length) (m : Int)).1 ≤ 1099511627776) ∧ (0 ≤ (at' (strL zs k f ls ls.length) (m : Int)).2 ∧ (at' (strL zs k f ls ls.length) (m : Int)).2 ≤ 1099511627776) := fun m hm => by
      rw [strL_at zs k f ls hm]
      have := ovenS_ok h (show 0 ≤ k by omega) hk1 hO (m + 1) (by omega)
      exact ⟨this.lo, this.hi⟩
    have hOl := hO.len
    generalize strL zs k f ls ls.length = out at *
    have e1 : (out.map er).length = out.length := List.length_map ..
    have q := Upto_any s 9 (by omega)
    obtain ⟨w, s1, w0, w1, k1⟩ := q
    conv => whnf
    refine CallP.pure ks ?_
    conv => whnf
    refine condP.eq (fun h0 => ?_) (fun h0 => ?_)
    · conv => whnf
      refine CallP.one (fun H hb => k1 H _ hb) rfl ?_
      conv => whnf
      exact .intro (.int .i64 w) (S1 s1) ⟨w, s1, rfl, rfl, w0, by omega⟩ (nn_int _ _) (S1_no _) (.one (.inl rfl) rfl rfl (.refl _) (nn_int _ _))
    · have hp := hin (out.length - 1) (by omega)
      have hpe : ∃ p, p = at' out ((((out.map er).length : Nat) : Int) - 1) := ⟨_, rfl⟩
      obtain ⟨p, hpe⟩ := hpe
      rw [show ((out.length - 1 : Nat) : Int) = (((out.map er).length : Nat) : Int) - 1 by omega, ← hpe] at hp
      have q := In_any2 s p.1 p.2 (by omega) (by omega) (by omega)
      obtain ⟨v, s2, v0, v1, k2⟩ := q
      have q := Upto_any s2 5 (by omega)
      obtain ⟨u, s3, u0, u1, k3⟩ := q
      have hy : 0 ≤ at' [p.1, p.2, v, max 0 (p.1 - 1), 1099511627776] u ∧ at' [p.1, p.2, v, max 0 (p.1 - 1), 1099511627776] u ≤ 1099511627776 := by
        have : u = 0 ∨ u = 1 ∨ u = 2 ∨ u = 3 ∨ u = 4 := by omega
        rcases this with rfl | rfl | rfl | rfl | rfl <;> simp [at'] <;> omega
      have y : ∃ e, e = at' [p.1, p.2, v, max 0 (p.1 - 1), 1099511627776] u := ⟨_, rfl⟩
      obtain ⟨y, he⟩ := y
      rw [← he] at hy
      conv => whnf
      refine .i64 (by omega) (by omega) ?_
      conv => whnf
      refine onSome.intro (idx_fs rfl rfl (by omega) (by omega) (fun _ => rfl)) ?_
      conv => whnf
      refine onSome.intro (load_fs (l := out) (enc := er) (i := (((out.map er).length : Nat) : Int) - 1) (v := .agg (er p)) rfl (by omega) (by omega) (by rw [← hpe]; rfl)) ?_
      repeat' ((conv => whnf); first | (refine CallP.one (fun H hb => k2 H _ hb) rfl ?_) | (refine CallP.one (fun H hb => k3 H _ hb) rfl ?_) | (refine onSome.intro (idx_ms rfl rfl rfl (by omega) (by omega)) ?_) | (refine onSome.intro (load_ms (l := [p.1, p.2, v, max 0 (p.1 - 1), 1099511627776]) (enc := ei) (i := u) (v := .int .i64 y) rfl rfl (by omega) (show u < 5 by omega) (he ▸ rfl)) ?_) | (first | refine condP.dec (fun h => ?_) (fun h => ?_) | refine condP.eq (fun h => ?_) (fun h => ?_) | refine condP.ne (fun h => ?_) (fun h => ?_)) | (refine .i64 (by omega) (by omega) ?_) | (refine onSome.intro (idx_fs rfl rfl (by omega) (by omega) (fun _ => rfl)) ?_) | (refine onSome.intro (load_fs rfl (by omega) (by omega) rfl) ?_) | (refine And.intro rfl ?_))
      all_goals conv => whnf
      exact .intro (.int .i64 y) (S1 s3) ⟨y, s3, rfl, rfl, hy⟩ (nn_int _ _) (S1_no _) (.one (.inl rfl) rfl rfl (.refl _) (nn_int _ _)))
  obtain ⟨v, z, ⟨w, s', rfl, rfl, q1, q2⟩, _, _, hh⟩ := key
  exact ⟨w, s', q1, q2, fun H n hn => hh H n hn⟩

theorem rSoak_ok (b : Int) (zs : List Zone) (hz : zs.length ≤ 9000000000000000000) (lo hi t lim : Int) (H : Heap) : Ev T (.call (.func (.func 113) [] []) [stuffI b zs, rgI lo hi, .int .i64 t, .int .i64 lim] H)
    (.call (errRg (soakE b zs lo hi t lim) (zif (soakE b zs lo hi t lim) (soakLo zs lo t lim)) (zif (soakE b zs lo hi t lim) (soakHi zs hi t lim))) H) := by
  refine run_pure T113 (errRg_no _ _ _) (nn_cons (stuffI_no _ _) (nn_cons (rgI_no _ _) (nn_cons (nn_int _ _) (nn_cons (nn_int _ _) nn_none)))) ?_ H
  have k1 := rCheck_ok b zs hz
  have kz : checkE b zs = 0 → ZOk zs := fun q => (check_zero q).2
  have k2 := rcheckRange_ok lo hi 1099511627776
  have kr : rangeE lo hi 1099511627776 = 0 → 0 ≤ lo ∧ lo ≤ hi ∧ hi ≤ 1099511627776 := rangeE_zero
  have hx : ∃ e, e = soakE b zs lo hi t lim := ⟨_, rfl⟩
  obtain ⟨e, he⟩ := hx
  rw [← he]
  unfold soakE Outs at he
  generalize checkE b zs = c at *
  generalize rangeE lo hi 1099511627776 = d at *
  have z1 : e ≠ 0 → ∀ n, zif e n = 0 := fun h n => if_neg h
  repeat' ((conv => whnf); first | (refine CallP.pure k1 ?_) | (refine CallP.pure k2 ?_) | (refine CallP.dec (beyond_ok _ _ _) (fun h => ?_) (fun h => ?_)) | (first | refine condP.dec (fun h => ?_) (fun h => ?_) | refine condP.eq (fun h => ?_) (fun h => ?_) | refine condP.ne (fun h => ?_) (fun h => ?_)) | (refine .i64 (by omega) (by omega) ?_) | (refine onSome.intro (idx_fs rfl rfl (by omega) (by omega) (fun _ => rfl)) ?_) | (refine onSome.intro (load_fs rfl (by omega) (by omega) rfl) ?_) | (refine And.intro rfl ?_))
  all_goals unfold Beyond at *
  all_goals first | (exfalso; omega) | skip
  all_goals conv => whnf
  all_goals first
    | (rw [if_pos (by omega)] at he
       exact .intro (errRg e 0 0) (.inl rfl) (by rw [he]; rfl) (frz_eq (by rw [z1 (by omega), z1 (by omega)])))
    | (rw [if_neg (by omega), if_pos (by omega)] at he
       exact .intro (errRg e 0 0) (.inl rfl) (by rw [he]; rfl) (frz_eq (by rw [z1 (by omega), z1 (by omega)])))
    | (rw [if_neg (by omega), if_neg (by omega), if_pos (by omega)] at he
       exact .intro (errRg e 0 0) (.inl rfl) (by rw [he]; rfl) (frz_eq (by rw [z1 (by omega), z1 (by omega)])))
    | skip
  have kz := kz (by omega)
  have kr := kr (by omega)
  rw [if_neg (by omega), if_neg (by omega), if_neg (by omega)] at he
  subst he
  have hg := zoneOf_gr kz t
  have hr := zoneOf_re kz t
  have kst := fun lo hi h1 h2 h3 h4 => tick_ok' (zoneOf zs t) 1 lo hi 0 hg hr (by omega) (by omega) h1 h2 h3 h4 (by omega) (by omega)
  have kzo := ZoneOf_ok b zs kz.pos (by omega) t
  have fl := fst_le (sLo (zoneOf zs t) lo) lim
  have fh := fst_le (sHi (zoneOf zs t) hi) lim
  have flh := fst_lohi hg hr kr.1 kr.2.1 kr.2.2 lim
  have il : ∀ n, n ≤ fst (sLo (zoneOf zs t) lo) lim → n ≤ 5000 → (sLo (zoneOf zs t) lo n ≤ lim ↔ fst (sLo (zoneOf zs t) lo) lim = n) := fun n h h1 => fst_iff h h1
  have ih : ∀ n, n ≤ fst (sHi (zoneOf zs t) hi) lim → n ≤ 5000 → (sHi (zoneOf zs t) hi n ≤ lim ↔ fst (sHi (zoneOf zs t) hi) lim = n) := fun n h h1 => fst_iff h h1
  have ill : ∀ n, fst (sLo (zoneOf zs t) lo) lim < n → n ≤ 5000 → True := fun _ _ _ => trivial
  have sn := s_in hg hr kr.1 (show lo ≤ 1099511627776 by omega) (show 0 ≤ hi by omega) kr.2.2
  have sl : ∀ n, sLo (zoneOf zs t) lo (n + 1) = stepLo (zoneOf zs t) 1 (sLo (zoneOf zs t) lo n) 0 := fun _ => rfl
  have sh : ∀ n, sHi (zoneOf zs t) hi (n + 1) = stepHi (zoneOf zs t) 1 (sHi (zoneOf zs t) hi n) 0 := fun _ => rfl
  have z0 : sLo (zoneOf zs t) lo 0 = lo := rfl
  have z1 : sHi (zoneOf zs t) hi 0 = hi := rfl
  unfold soakLo soakHi
  generalize sLo (zoneOf zs t) lo = S at *
  generalize sHi (zoneOf zs t) hi = U at *
  generalize fst S lim = FL at *
  generalize fst U lim = FH at *
  generalize zoneOf zs t = z at *
  refine loop_rule (X := Nat × Int × Int) (fun q => [(2, .int .i64 t), (3, .int .i64 lim), (4, .ptr 0 0 0), (5, .ptr 1 0 0), (8, .ptr 2 0 0), (12, .int .i64 5001), (13, .ptr 3 0 0), (14, .int .i64 q.1)])
    (fun q => [.live 2 [[.int .i64 b, zsl zs]], .live 2 [[.int .i64 (S q.1), .int .i64 (U q.1)]], .live 2 [[.int .i64 0, .int .i64 0]], .live 2 [[.int .i64 q.2.1, .int .i64 q.2.2]]])
    (fun q => 5001 - q.1) (fun q => q.1 ≤ 5001 ∧ q.1 ≤ FH + 1 ∧ (q.2.1 = if FL < q.1 then (FL : Int) else 5001) ∧ (q.2.2 = if FH < q.1 then (FH : Int) else 5001)) (0, 5001, 5001) ⟨by decide, by dsimp only; omega, by dsimp only; rw [if_neg (by omega)], by dsimp only; rw [if_neg (by omega)]⟩
    ⟨rfl, rfl, rfl, rfl, rfl, rfl, rfl, rfl, trivial⟩ (by dsimp only; rw [z0, z1]; rfl) (fun _ _ => rfl) (fun q hq => ?_)
  obtain ⟨n, x, y⟩ := q
  have h1 := hq.1
  have h2 := hq.2.1
  have h3 := hq.2.2.1
  have h4 := hq.2.2.2
  dsimp only at h1 h2 h3 h4 ⊢
  have sn := sn n
  have kst := kst (S n) (U n) sn.1 sn.2.1 sn.2.2.1 sn.2.2.2
  rw [← sl, ← sh] at kst
  have il := il n
  have ih := ih n
  have chk : ∀ n' x' y', chkI (fun b => b < 4) [(2, .int .i64 t), (3, .int .i64 lim), (4, .ptr 0 0 0), (5, .ptr 1 0 0), (8, .ptr 2 0 0), (12, .int .i64 5001), (13, .ptr 3 0 0), (14, .int .i64 n')] ∧ chkS (fun b => b < 4) [.live 2 [[.int .i64 b, zsl zs]], .live 2 [[.int .i64 (S (n + 1)), .int .i64 (U (n + 1))]], .live 2 [[.int .i64 0, .int .i64 0]], .live 2 [[.int .i64 x', .int .i64 y']]] :=
    fun n' x' y' => ⟨⟨.int _ _, .int _ _, .ptr _ _ _ (by omega), .ptr _ _ _ (by omega), .ptr _ _ _ (by omega), .int _ _, .ptr _ _ _ (by omega), .int _ _, trivial⟩, row_inn (stuff_row _ _), row_inn (rg_row _ _), row_inn (rg_row _ _), row_inn (rg_row _ _), trivial⟩
  by_cases hgo : n ≤ 5000 ∧ y = 5001
  · have hn : ¬ FH < n := fun q => by rw [if_pos q] at h4; omega
    rw [if_neg hn] at h4
    have a1 : FL < n → x = FL := fun q => by rw [if_pos q] at h3; exact h3
    have a2 : ¬ FL < n → x = 5001 := fun q => by rw [if_neg q] at h3; exact h3
    have mk : ∀ x' y' : Int, (FL < n + 1 → x' = FL) → (¬ FL < n + 1 → x' = 5001) → (FH < n + 1 → y' = FH) → (¬ FH < n + 1 → y' = 5001) → n + 1 ≤ 5001 ∧ n + 1 ≤ FH + 1 ∧ (x' = if FL < n + 1 then (FL : Int) else 5001) ∧ (y' = if FH < n + 1 then (FH : Int) else 5001) := by
      intro x' y' q1 q2 q3 q4
      refine ⟨by omega, by omega, ?_, ?_⟩
      · split
        · exact q1 (by assumption)
        · exact q2 (by assumption)
      · split
        · exact q3 (by assumption)
        · exact q4 (by assumption)
    by_cases c1 : S n ≤ lim ∧ x = 5001
    · by_cases c2 : U n ≤ lim
      · have := mk n n (by omega) (by omega) (by omega) (by omega)
        repeat' ((conv => whnf); first | (refine CallP.pure kzo ?_) | (refine CallP.pure kst ?_) | (first | refine condP.dec (fun h => ?_) (fun h => ?_) | refine condP.eq (fun h => ?_) (fun h => ?_) | refine condP.ne (fun h => ?_) (fun h => ?_)) | (refine .i64 (by omega) (by omega) ?_) | (refine onSome.intro (idx_fs rfl rfl (by omega) (by omega) (fun _ => rfl)) ?_) | (refine onSome.intro (load_fs rfl (by omega) (by omega) rfl) ?_) | (refine And.intro rfl ?_))
        all_goals first | (exfalso; omega) | skip
        all_goals conv => whnf
        all_goals exact .more (n + 1, (n : Int), (n : Int)) rfl this (by dsimp only; omega) ⟨rfl, rfl, rfl, rfl, rfl, rfl, rfl, rfl, trivial⟩ rfl (chk _ 0 0).1 (chk 0 _ _).2
      · have := mk n y (by omega) (by omega) (by omega) (by omega)
        repeat' ((conv => whnf); first | (refine CallP.pure kzo ?_) | (refine CallP.pure kst ?_) | (first | refine condP.dec (fun h => ?_) (fun h => ?_) | refine condP.eq (fun h => ?_) (fun h => ?_) | refine condP.ne (fun h => ?_) (fun h => ?_)) | (refine .i64 (by omega) (by omega) ?_) | (refine onSome.intro (idx_fs rfl rfl (by omega) (by omega) (fun _ => rfl)) ?_) | (refine onSome.intro (load_fs rfl (by omega) (by omega) rfl) ?_) | (refine And.intro rfl ?_))
        all_goals first | (exfalso; omega) | skip
        all_goals conv => whnf
        all_goals exact .more (n + 1, (n : Int), y) rfl this (by dsimp only; omega) ⟨rfl, rfl, rfl, rfl, rfl, rfl, rfl, rfl, trivial⟩ rfl (chk _ 0 0).1 (chk 0 _ _).2
    · by_cases c2 : U n ≤ lim
      · have := mk x n (by omega) (by omega) (by omega) (by omega)
        repeat' ((conv => whnf); first | (refine CallP.pure kzo ?_) | (refine CallP.pure kst ?_) | (first | refine condP.dec (fun h => ?_) (fun h => ?_) | refine condP.eq (fun h => ?_) (fun h => ?_) | refine condP.ne (fun h => ?_) (fun h => ?_)) | (refine .i64 (by omega) (by omega) ?_) | (refine onSome.intro (idx_fs rfl rfl (by omega) (by omega) (fun _ => rfl)) ?_) | (refine onSome.intro (load_fs rfl (by omega) (by omega) rfl) ?_) | (refine And.intro rfl ?_))
        all_goals first | (exfalso; omega) | skip
        all_goals conv => whnf
        all_goals exact .more (n + 1, x, (n : Int)) rfl this (by dsimp only; omega) ⟨rfl, rfl, rfl, rfl, rfl, rfl, rfl, rfl, trivial⟩ rfl (chk _ 0 0).1 (chk 0 _ _).2
      · have := mk x y (by omega) (by omega) (by omega) (by omega)
        repeat' ((conv => whnf); first | (refine CallP.pure kzo ?_) | (refine CallP.pure kst ?_) | (first | refine condP.dec (fun h => ?_) (fun h => ?_) | refine condP.eq (fun h => ?_) (fun h => ?_) | refine condP.ne (fun h => ?_) (fun h => ?_)) | (refine .i64 (by omega) (by omega) ?_) | (refine onSome.intro (idx_fs rfl rfl (by omega) (by omega) (fun _ => rfl)) ?_) | (refine onSome.intro (load_fs rfl (by omega) (by omega) rfl) ?_) | (refine And.intro rfl ?_))
        all_goals first | (exfalso; omega) | skip
        all_goals conv => whnf
        all_goals exact .more (n + 1, x, y) rfl this (by dsimp only; omega) ⟨rfl, rfl, rfl, rfl, rfl, rfl, rfl, rfl, trivial⟩ rfl (chk _ 0 0).1 (chk 0 _ _).2
  · have e1 : y = FH := by
      rw [h4]
      split
      · rfl
      · rename_i q; rw [if_neg q] at h4; omega
    have e2 : x = FL := by
      rw [h3]
      split
      · rfl
      · rename_i q
        have : ¬ FH < n := by omega
        rw [if_neg this] at h4
        omega
    subst e1
    subst e2
    repeat' ((conv => whnf); first | (refine CallP.pure kzo ?_) | (refine CallP.pure kst ?_) | (first | refine condP.dec (fun h => ?_) (fun h => ?_) | refine condP.eq (fun h => ?_) (fun h => ?_) | refine condP.ne (fun h => ?_) (fun h => ?_)) | (refine .i64 (by omega) (by omega) ?_) | (refine onSome.intro (idx_fs rfl rfl (by omega) (by omega) (fun _ => rfl)) ?_) | (refine onSome.intro (load_fs rfl (by omega) (by omega) rfl) ?_) | (refine And.intro rfl ?_))
    all_goals first | (exfalso; omega) | skip
    all_goals refine .done (by simp) ?_
    all_goals conv => whnf
    all_goals exact .intro (errRg 0 FL FH) (.inl rfl) rfl (.refl _)


end Go.Proofs.Ytpbadgghhiommaa.I
