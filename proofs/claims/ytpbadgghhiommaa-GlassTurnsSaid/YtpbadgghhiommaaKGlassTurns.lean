/- GlassTurns runs to true. -/
import Derived.Test.YtpbadgghhiommaaGat
set_option linter.unusedVariables false
set_option maxHeartbeats 16000000
set_option linter.unusedSimpArgs false
namespace Go.Proofs.Ytpbadgghhiommaa.I
open Go.Ideal

def zfix (z : Zone) : Zone := ⟨z.fr, z.gl, z.gl, z.rl, z.rh⟩
structure FixN (zs ys : List Zone) (n : Nat) : Prop where
  len : ys.length = zs.length
  at_ : ∀ j, j < zs.length → zn ys j = if j < n then zfix (zn zs j) else zn zs j
theorem FixN.next {zs ys : List Zone} {n : Nat} (h : FixN zs ys n) (hn : n < zs.length) : FixN zs (ys.set n (zfix (zn zs n))) (n + 1) := by
  refine ⟨by rw [List.length_set]; exact h.len, fun j hj => ?_⟩
  by_cases c : j = n
  · subst c
    rw [if_pos (by omega)]
    unfold zn
    rw [List.getD_eq_getElem?_getD, List.getElem?_set_self (by rw [h.len]; exact hn)]; rfl
  · have e : zn (ys.set n (zfix (zn zs n))) j = zn ys j := by
      unfold zn
      simp only [List.getD_eq_getElem?_getD]; rw [List.getElem?_set_ne (Ne.symm c)]
    rw [e, h.at_ j hj]
    by_cases q : j < n
    · rw [if_pos q, if_pos (by omega)]
    · rw [if_neg q, if_neg (by omega)]
theorem FixN.ok {zs ys : List Zone} (h : FixN zs ys zs.length) (hz : ZOk zs) : ZOk ys ∧ ∀ t, (zoneOf ys t).gl = (zoneOf ys t).gh := by
  have hp := hz.pos
  have e := h.len
  have at_ : ∀ j, j < ys.length → zn ys j = zfix (zn zs j) := fun j hj => by rw [h.at_ j (by omega), if_pos (by omega)]
  refine ⟨⟨by omega, by have := hz.len; omega, by rw [at_ 0 (by omega)]; exact hz.first, fun i hi => by rw [at_ i (by omega), at_ (i + 1) hi]; exact hz.asc i (by omega), fun i hi => by rw [at_ i hi]; exact hz.fr i (by omega),
    fun i hi => by rw [at_ i hi]; have := hz.gr i (by omega); exact ⟨this.1, Int.le_refl _, by show (zn zs i).gl ≤ 100000; omega⟩, fun i hi => by rw [at_ i hi]; exact hz.re i (by omega)⟩, fun t => ?_⟩
  obtain ⟨i, hi, q⟩ := zoneOf_in (zs := ys) (by omega) t
  rw [q, at_ i hi]; rfl
theorem sum_eq {ys : List Zone} (h : ∀ t, (zoneOf ys t).gl = (zoneOf ys t).gh) (a : Int) : ∀ k, sumG Zone.gl ys a k = sumG Zone.gh ys a k
  | 0 => rfl
  | k + 1 => by rw [sumG, sumG, sum_eq h a k, h]
theorem self_zero {ys : List Zone} (h : ∀ t, (zoneOf ys t).gl = (zoneOf ys t).gh) (u v : Int) : mLo ys ys u v = 0 ∧ mHi ys ys u v = 0 := by
  unfold mLo mHi gLo gHi gUp
  constructor
  · split <;> rw [sum_eq h] <;> omega
  · split <;> rw [sum_eq h] <;> omega
theorem set_zero (x y : List Zone) (u : Int) : mLo x y u u = 0 ∧ mHi x y u u = 0 := by
  unfold mLo mHi gLo gHi
  rw [if_pos (Int.le_refl _), if_pos (Int.le_refl _), if_pos (Int.le_refl _), if_pos (Int.le_refl _), gUp_nil, gUp_nil, gUp_nil, gUp_nil]
  omega

theorem GlassTurns_ok (l : List Int) (a b : Int) (hl : l.length ≤ 9223372036854775807) (ha0 : -9223372036854775808 ≤ a) (ha1 : a ≤ 9223372036854775807) (hb0 : -9223372036854775808 ≤ b) (hb1 : b ≤ 9223372036854775807) (H : Heap) :
    Ev T (.call (.func (.func 5) [] []) [sl l, .int .i64 a, .int .i64 b] H) (.call (.bool true) H) := by
  refine run_pure T5 (nn_bool _) (nn_cons (sl_no _) (nn_cons (nn_int _ _) (nn_cons (nn_int _ _) nn_none))) ?_ H
  have q := NewDice_ok l hl
  obtain ⟨s, kd⟩ := q
  have q := StuffOf_ok s
  obtain ⟨bx, x, s1, bx0, bx1, hx, kx⟩ := q
  have q := StuffOf_ok s1
  obtain ⟨by', y, s2, by0, by1, hy, ky⟩ := q
  have ma := Mod_ok a 2001 ha0 ha1 (by omega) (by omega)
  have mb := Mod_ok b 2001 hb0 hb1 (by omega) (by omega)
  have na := modI_in a (m := 2001) (by omega)
  have nb := modI_in b (m := 2001) (by omega)
  generalize modI a 2001 = u at *
  generalize modI b 2001 = v at *
  have k1 := Mismatch_at bx0 bx1 hx by0 by1 hy na.1 (show u ≤ 2000 by omega) nb.1 (show v ≤ 2000 by omega)
  have k2 := Mismatch_at by0 by1 hy bx0 bx1 hx na.1 (show u ≤ 2000 by omega) nb.1 (show v ≤ 2000 by omega)
  have k3 := Mismatch_at bx0 bx1 hx by0 by1 hy na.1 (show u ≤ 2000 by omega) na.1 (show u ≤ 2000 by omega)
  rw [(set_zero x y u).1, (set_zero x y u).2] at k3
  have b1 := m_bound hx hy na.1 (show u ≤ 2000 by omega) nb.1 (show v ≤ 2000 by omega)
  have e1 : mLo y x u v = - mHi x y u v := by unfold mLo mHi; omega
  have e2 : mHi y x u v = - mLo x y u v := by unfold mLo mHi; omega
  rw [e1, e2] at k2
  generalize mLo x y u v = p1 at *
  generalize mHi x y u v = p2 at *
  have hp := hx.pos
  have hlen := hx.len
  repeat' ((conv => whnf); first | (refine CallP.new kd ?_) | (refine CallP.one (fun H hb => kx H _ hb) rfl ?_) | (refine CallP.one (fun H hb => ky H _ hb) rfl ?_) | (refine CallP.pure ma ?_) | (refine CallP.pure mb ?_) | (refine CallP.pure k3 ?_) | (refine CallP.pure k1 ?_) | (refine CallP.pure k2 ?_) | (refine CallP.inl T27 rfl ?_) | (first | refine condP.dec (fun h => ?_) (fun h => ?_) | refine condP.eq (fun h => ?_) (fun h => ?_) | refine condP.ne (fun h => ?_) (fun h => ?_)) | (refine .i64 (by omega) (by omega) ?_) | (refine onSome.intro (idx_fs rfl rfl (by omega) (by omega) (fun _ => rfl)) ?_) | (refine onSome.intro (load_fs rfl (by omega) (by omega) rfl) ?_) | (refine And.intro rfl ?_))
  refine .full (es := []) (n := 0) rfl rfl rfl rfl (by intro q; have := congrArg List.length q; simp at this; subst this; simp at hp) (fun e he => by obtain ⟨z, _, rfl⟩ := List.mem_map.mp he; rfl) (fun e he c hc => by obtain ⟨z, _, rfl⟩ := List.mem_map.mp he; simp [zr] at hc; rcases hc with rfl | rfl | rfl | rfl | rfl <;> rfl) (r := x.map zr) rfl (n' := x.length) (by simp) (by omega) ?_
  conv => whnf
  refine loop_rule (X := Nat × List Zone) (fun q => [(1, .int .i64 u), (2, .int .i64 v), (10, .ptr 3 0 0), (11, .int .i64 0), (12, .ptr 4 0 0), (13, .int .i64 0), (14, .ptr 5 0 0), (15, .int .i64 0), (16, .ptr 10 0 0), (17, .int .i64 q.1)])
    (fun q => [S1 s2, .live 2 [[.int .i64 bx, zsl x]], .live 2 [[.int .i64 by', zsl y]], .live 2 [[.int .i64 p1, .int .i64 p2]], .live 2 [[.int .i64 (-p2), .int .i64 (-p1)]], .live 2 [[.int .i64 0, .int .i64 0]],
      .live 2 [[.int .i64 bx, .mslice 9 0 x.length x.length false]], .live 2 [[.int .i64 bx, .mslice 9 0 x.length x.length false]], .live 5 [], .live 5 (q.2.map zr), .live 2 [[.int .i64 bx, .mslice 9 0 x.length x.length false]]])
    (fun q => x.length - q.1) (fun q => q.1 ≤ x.length ∧ FixN x q.2 q.1) (0, x) ⟨Nat.zero_le _, ⟨rfl, fun j hj => by rw [if_neg (by omega)]⟩⟩ ⟨rfl, rfl, rfl, rfl, rfl, rfl, rfl, rfl, rfl, rfl, trivial⟩ rfl (fun _ _ => rfl) (fun q hq => ?_)
  obtain ⟨i, ys⟩ := q
  have hi := hq.1
  have hF := hq.2
  dsimp only at hi hF ⊢
  have hyl := hF.len
  conv => whnf
  refine condP.dec (fun hlt => ?_) (fun hge => ?_)
  · have hlt' : i < x.length := by omega
    have hzi : at' ys (i : Int) = zn x i := by
      have := hF.at_ i hlt'
      rw [if_neg (by omega)] at this
      exact this
    have hN := hF.next hlt'
    rw [← hzi] at hN
    have hee : ys[i]'(by omega) = at' ys (i : Int) := (at'_get (by omega)).symm
    conv => whnf
    refine onSome.intro (idx_ms rfl rfl rfl (by omega) (by omega)) ?_
    conv => whnf
    refine onSome.intro (load_ms (l := ys) (enc := zr) (i := (i : Int)) (v := .int .i64 (at' ys (i : Int)).gl) rfl rfl (by omega) (by omega) rfl) ?_
    conv => whnf
    refine onSome.intro (idx_ms rfl rfl rfl (by omega) (by omega)) ?_
    conv => whnf
    refine onSome.intro (get_enc (i := i) (by omega)) ?_
    rw [hee]
    generalize at' ys (i : Int) = w at *
    conv => whnf
    refine store_enc (enc := zr) (a := zfix w) (l' := ys.set i (zfix w)) rfl rfl ?_
    (repeat ((conv => whnf); refine And.intro rfl ?_)); conv => whnf
    refine .i64 (by omega) (by omega) ?_
    conv => whnf
    exact .more (i + 1, ys.set i (zfix w)) rfl ⟨by dsimp only; omega, hN⟩ (by dsimp only; omega) ⟨rfl, rfl, rfl, rfl, rfl, rfl, rfl, rfl, rfl, rfl, trivial⟩ rfl
      ⟨.int _ _, .int _ _, .ptr _ _ _ (by simp), .int _ _, .ptr _ _ _ (by simp), .int _ _, .ptr _ _ _ (by simp), .int _ _, .ptr _ _ _ (by simp), .int _ _, trivial⟩
      ⟨row_inn (nn_cons (.int _ _) nn_none), row_inn (stuff_row _ _), row_inn (stuff_row _ _), row_inn (rg_row _ _), row_inn (rg_row _ _), row_inn (rg_row _ _), inn_row (in_cons (.int _ _) (in_one (.mslice _ _ _ _ _ (by simp)))), inn_row (in_cons (.int _ _) (in_one (.mslice _ _ _ _ _ (by simp)))),
        fun j k hj => by simp at hj, fun j k hj hk => (noS_map (sz := 5) (enc := zr) (fun a => zr_no a) _ (List.getElem_mem hj) _ (List.getElem_mem hk)).inn _, inn_row (in_cons (.int _ _) (in_one (.mslice _ _ _ _ _ (by simp)))), trivial⟩
  · obtain rfl : i = x.length := by omega
    have hok := hF.ok hx
    have k4 := Mismatch_at bx0 bx1 hok.1 bx0 bx1 hok.1 na.1 (show u ≤ 2000 by omega) nb.1 (show v ≤ 2000 by omega)
    rw [(self_zero hok.2 u v).1, (self_zero hok.2 u v).2] at k4
    have hw : ∀ {H' : Heap}, (∀ sz e, H' 9 ≠ .live sz e) → ∀ {H : Heap}, H 9 = .live 5 (ys.map zr) → Frz H H' (.agg [.int .i64 bx, .mslice 9 0 x.length x.length false]) (stuffI bx ys) := fun h1 _ h2 => .aggL (.cons (.refl _) (.cons (.whole h2 h1 (by rw [List.length_map, hyl]) (.refl _)) .nil))
    conv => whnf
    refine .done (by simp) ?_
    conv => whnf
    refine CallP.borrow [9] rfl (.cons (hw (fun _ _ h => by cases h) rfl) (.cons (hw (fun _ _ h => by cases h) rfl) (.cons (.refl _) (.cons (.refl _) .nil)))) (nn_cons (stuffI_no _ _) (nn_cons (stuffI_no _ _) (nn_cons (nn_int _ _) (nn_cons (nn_int _ _) nn_none)))) k4 (bare_err _ _ _) ?_
    repeat' ((conv => whnf); first | (refine CallP.inl T46 rfl ?_) | (refine CallP.pure awake_ok ?_) | (refine condP.rg (fun h => ?_) (fun h => absurd (by omega) h)) | (first | refine condP.dec (fun h => ?_) (fun h => ?_) | refine condP.eq (fun h => ?_) (fun h => ?_) | refine condP.ne (fun h => ?_) (fun h => ?_)) | (refine .i64 (by omega) (by omega) ?_) | (refine onSome.intro (idx_fs rfl rfl (by omega) (by omega) (fun _ => rfl)) ?_) | (refine onSome.intro (load_fs rfl (by omega) (by omega) rfl) ?_) | (refine And.intro rfl ?_))
    all_goals first | (exfalso; omega) | skip
    all_goals conv => whnf
    all_goals exact PureP.intro (.bool true) (.inl rfl) rfl (.refl _)

end Go.Proofs.Ytpbadgghhiommaa.I
