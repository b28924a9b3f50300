/- What the statements make of programmes; soaking, as the reference has it. -/
import Derived.Test.YtpbadgghhiommaaGjudge
import Derived.Test.YtpbadgghhiommaaGref2
import Derived.Test.YtpbadgghhiommaaGsoak
set_option linter.unusedVariables false
set_option maxHeartbeats 16000000
set_option linter.unusedSimpArgs false
namespace Go.Proofs.Ytpbadgghhiommaa.I
open Go.Ideal

theorem Judge_ok (b : Int) (zs : List Zone) (hz : zs.length ≤ 9000000000000000000) (k f : Int) (ls : List Leg) (hl : ls.length ≤ 9000000000000000000) (left : Int) (H : Heap) : Ev T (.call (.func (.func 69) [] []) [stuffI b zs, .int .i64 k, ovenI f ls, .int .i64 left] H)
    (.call (ierr (zif (judgeE b zs k f ls left) (judgeV b zs k f ls left).1) (zif (judgeE b zs k f ls left) (judgeV b zs k f ls left).2) (judgeE b zs k f ls left)) H) := by
  refine run_pure T69 (ierr_no _ _ _) (nn_cons (stuffI_no _ _) (nn_cons (nn_int _ _) (nn_cons (ovenI_no _ _) (nn_cons (nn_int _ _) nn_none)))) ?_ H
  have k1 := checkWall_ok b zs hz k f ls hl
  have kz := fun q => wall_zero (b := b) (zs := zs) (k := k) (f := f) (ls := ls) q
  have k2 := fun q h1 h2 => judge_ok b zs (by have := (check_zero (kz q).1).1; omega) (check_zero (kz q).1).1.2 (check_zero (kz q).1).2 k f (kz q).2.1.1 (kz q).2.1.2 ls (oven_zero (kz q).2.2) left h1 h2
  have hx : ∃ e, e = judgeE b zs k f ls left := ⟨_, rfl⟩
  obtain ⟨e, he⟩ := hx
  rw [← he]
  unfold judgeE Outs at he
  generalize wallE b zs k f ls = c at *
  generalize judgeV b zs k f ls left = v at *
  clear kz
  have z1 : e ≠ 0 → ∀ n, zif e n = 0 := fun h n => if_neg h
  conv => whnf
  refine CallP.pure k1 ?_
  conv => whnf
  refine condP.ne (fun h => ?_) (fun h => ?_)
  · rw [if_pos h] at he
    subst he
    conv => whnf
    exact .intro (ierr 0 0 e) (.inl rfl) rfl (frz_eq (by rw [z1 h, z1 h]))
  · rw [if_neg (by omega)] at he
    have k3 := k2 h
    clear k2
    conv => whnf
    refine CallP.dec (outside_ok _ _) (fun h => ?_) (fun h => ?_)
    all_goals unfold Outs at h
    · have he : e = 2 := by rw [he]; exact if_pos h
      subst he
      conv => whnf
      exact .intro (ierr 0 0 2) (.inl rfl) rfl (.refl _)
    · have he : e = 0 := by rw [he]; exact if_neg h
      subst he
      conv => whnf
      refine CallP.pure (k3 (by omega) (by omega)) ?_
      conv => whnf
      exact .intro (ierr v.1 v.2 0) (.inl rfl) rfl (.refl _)
theorem wall_ok' {b : Int} {zs : List Zone} {k f : Int} {ls : List Leg} (hb0 : 1 ≤ b) (hb1 : b ≤ 1000000000) (h : ZOk zs) (hk : 1 ≤ k) (hk1 : k ≤ 1000) (hO : OOk f ls) : wallE b zs k f ls = 0 := by
  unfold wallE
  rw [if_neg (by rw [check_ok hb0 hb1 h]; simp), if_neg (by omega), oven_ok hO]
theorem Judge_at {b : Int} {zs : List Zone} {k f : Int} {ls : List Leg} (hb0 : 1 ≤ b) (hb1 : b ≤ 1000000000) (h : ZOk zs) (hk : 1 ≤ k) (hk1 : k ≤ 1000) (hO : OOk f ls) {left : Int} (hl0 : 0 ≤ left) (hl1 : left ≤ 1099511627776) (H : Heap) :
    Ev T (.call (.func (.func 69) [] []) [stuffI b zs, .int .i64 k, ovenI f ls, .int .i64 left] H) (.call (ierr (judgeV b zs k f ls left).1 (judgeV b zs k f ls left).2 0) H) := by
  have q := Judge_ok b zs (by have := h.len; omega) k f ls (by have := hO.len; omega) left H
  have e : judgeE b zs k f ls left = 0 := by
    unfold judgeE
    rw [if_neg (by rw [wall_ok' hb0 hb1 h hk hk1 hO]; simp), if_neg (by unfold Outs; omega)]
  rw [e, zif_0, zif_0] at q
  exact q
theorem rStrain_at {b : Int} {zs : List Zone} {k f : Int} {ls : List Leg} (hb0 : 1 ≤ b) (hb1 : b ≤ 1000000000) (h : ZOk zs) (hk : 1 ≤ k) (hk1 : k ≤ 1000) (hO : OOk f ls) (H : Heap) :
    Ev T (.call (.func (.func 73) [] []) [stuffI b zs, .int .i64 k, ovenI f ls] H) (.call (resL 0 (strL zs k f ls ls.length)) H) := by
  have q := rStrain_ok b zs (by have := h.len; omega) k f ls (by have := hO.len; omega) H
  rw [wall_ok' hb0 hb1 h hk hk1 hO, if_pos rfl] at q
  exact q
theorem strL_at (zs : List Zone) (k f : Int) (ls : List Leg) {n m : Nat} (h : m < n) : at' (strL zs k f ls n) (m : Int) = ((ovenS zs k f ls (m + 1)).lo, (ovenS zs k f ls (m + 1)).hi) := by
  induction n with
  | zero => omega
  | succ n ih =>
    unfold at' at ih ⊢
    rw [Int.toNat_natCast, List.getD_eq_getElem?_getD] at *
    rw [strL]
    by_cases q : m = n
    · subst q
      rw [List.getElem?_append_right (by rw [strL_len]; omega), strL_len]; simp
    · rw [List.getElem?_append_left (by rw [strL_len]; omega)]
      exact ih (by omega)

theorem In_any2 (s lo hi : Int) (h1 : -1000000000000 ≤ lo) (h2 : hi ≤ 10000000000000) (h3 : lo ≤ 10000000000000) : ∃ v s' : Int, lo ≤ v ∧ v ≤ max lo hi ∧ ∀ (H : Heap) (n : Nat), H n = S1 s → Ev T (.call (.func (.func 55) [] []) [.ptr n 0 0, rgI lo hi] H) (.call (.int .i64 v) (H.set n (S1 s'))) := by
  obtain ⟨v, s', v0, v1, k⟩ := Between_any s lo (max lo hi) (by omega) (by omega) (by omega)
  refine ⟨v, s', v0, by omega, fun H n hn => ?_⟩
  refine run_one T55 (nn_int _ _) (nn_cons (rgI_no _ _) nn_none) (S1_no _) (S1_no _) ?_ H hn
  conv => whnf
  refine CallP.one (fun H hb => k H _ hb) rfl ?_
  conv => whnf
  exact .one (u := .int .i64 v) (.inl rfl) rfl rfl (.refl _) (nn_int _ _)

theorem LeftOf_any (s b : Int) (zs : List Zone) (k f : Int) (ls : List Leg) (hb0 : 1 ≤ b) (hb1 : b ≤ 1000000000) (h : ZOk zs) (hk : 1 ≤ k) (hk1 : k ≤ 1000) (hO : OOk f ls) : ∃ v s' : Int, 0 ≤ v ∧ v ≤ 1099511627776 ∧
    ∀ (H : Heap) (n : Nat), H n = S1 s → Ev T (.call (.func (.func 66) [] []) [.ptr n 0 0, stuffI b zs, .int .i64 k, ovenI f ls] H) (.call (.int .i64 v) (H.set n (S1 s'))) := by
  have key := run_one_some T66 (i := 0) (off := 0) (args := [stuffI b zs, .int .i64 k, ovenI f ls]) (s := S1 s) (P := fun v z => ∃ w s' : Int, v = .int .i64 w ∧ z = S1 s' ∧ 0 ≤ w ∧ w ≤ 1099511627776)
    (nn_cons (stuffI_no _ _) (nn_cons (nn_int _ _) (nn_cons (ovenI_no _ _) nn_none))) (S1_no _) (by
    have ks := rStrain_at hb0 hb1 h hk hk1 hO
    have hsl := strL_len (zs := zs) (k := k) (f := f) (ls := ls) ls.length
    have hin : ∀ m : Nat, m < ls.length → (0 ≤ (at' (strL zs k f ls ls.length) (m : Int)).1 ∧ (at' (strL zs k f ls ls.length) (m : Int)).1 ≤ 1099511627776) ∧ (0 ≤ (at' (strL zs k f ls ls.length) (m : Int)).2 ∧ (at' (strL zs k f ls ls.length) (m : Int)).2 ≤ 1099511627776) := fun m hm => by
      rw [strL_at zs k f ls hm]
      have := ovenS_ok h (show 0 ≤ k by omega) hk1 hO (m + 1) (by omega)
      exact ⟨this.lo, this.hi⟩
    have hOl := hO.len
    generalize strL zs k f ls ls.length = out at *
    have e1 : (out.map er).length = out.length := List.length_map ..
    have q := Upto_any s 9 (by omega)
    obtain ⟨w, s1, w0, w1, k1⟩ := q
    conv => whnf
    refine CallP.pure ks ?_
    conv => whnf
    refine condP.eq (fun h0 => ?_) (fun h0 => ?_)
    · conv => whnf
      refine CallP.one (fun H hb => k1 H _ hb) rfl ?_
      conv => whnf
      exact .intro (.int .i64 w) (S1 s1) ⟨w, s1, rfl, rfl, w0, by omega⟩ (nn_int _ _) (S1_no _) (.one (.inl rfl) rfl rfl (.refl _) (nn_int _ _))
    · have hp := hin (out.length - 1) (by omega)
      have hpe : ∃ p, p = at' out ((((out.map er).length : Nat) : Int) - 1) := ⟨_, rfl⟩
      obtain ⟨p, hpe⟩ := hpe
      rw [show ((out.length - 1 : Nat) : Int) = (((out.map er).length : Nat) : Int) - 1 by omega, ← hpe] at hp
      have q := In_any2 s p.1 p.2 (by omega) (by omega) (by omega)
      obtain ⟨v, s2, v0, v1, k2⟩ := q
      have q := Upto_any s2 5 (by omega)
      obtain ⟨u, s3, u0, u1, k3⟩ := q
      have hy : 0 ≤ at' [p.1, p.2, v, max 0 (p.1 - 1), 1099511627776] u ∧ at' [p.1, p.2, v, max 0 (p.1 - 1), 1099511627776] u ≤ 1099511627776 := by
        have : u = 0 ∨ u = 1 ∨ u = 2 ∨ u = 3 ∨ u = 4 := by omega
        rcases this with rfl | rfl | rfl | rfl | rfl <;> simp [at'] <;> omega
      have y : ∃ e, e = at' [p.1, p.2, v, max 0 (p.1 - 1), 1099511627776] u := ⟨_, rfl⟩
      obtain ⟨y, he⟩ := y
      rw [← he] at hy
      conv => whnf
      refine .i64 (by omega) (by omega) ?_
      conv => whnf
      refine onSome.intro (idx_fs rfl rfl (by omega) (by omega) (fun _ => rfl)) ?_
      conv => whnf
      refine onSome.intro (load_fs (l := out) (enc := er) (i := (((out.map er).length : Nat) : Int) - 1) (v := .agg (er p)) rfl (by omega) (by omega) (by rw [← hpe]; rfl)) ?_
      repeat' ((conv => whnf); first | (refine CallP.one (fun H hb => k2 H _ hb) rfl ?_) | (refine CallP.one (fun H hb => k3 H _ hb) rfl ?_) | (refine onSome.intro (idx_ms rfl rfl rfl (by omega) (by omega)) ?_) | (refine onSome.intro (load_ms (l := [p.1, p.2, v, max 0 (p.1 - 1), 1099511627776]) (enc := ei) (i := u) (v := .int .i64 y) rfl rfl (by omega) (show u < 5 by omega) (he ▸ rfl)) ?_) | (first | refine condP.dec (fun h => ?_) (fun h => ?_) | refine condP.eq (fun h => ?_) (fun h => ?_) | refine condP.ne (fun h => ?_) (fun h => ?_)) | (refine .i64 (by omega) (by omega) ?_) | (refine onSome.intro (idx_fs rfl rfl (by omega) (by omega) (fun _ => rfl)) ?_) | (refine onSome.intro (load_fs rfl (by omega) (by omega) rfl) ?_) | (refine And.intro rfl ?_))
      all_goals conv => whnf
      exact .intro (.int .i64 y) (S1 s3) ⟨y, s3, rfl, rfl, hy⟩ (nn_int _ _) (S1_no _) (.one (.inl rfl) rfl rfl (.refl _) (nn_int _ _)))
  obtain ⟨v, z, ⟨w, s', rfl, rfl, q1, q2⟩, _, _, hh⟩ := key
  exact ⟨w, s', q1, q2, fun H n hn => hh H n hn⟩

end Go.Proofs.Ytpbadgghhiommaa.I
