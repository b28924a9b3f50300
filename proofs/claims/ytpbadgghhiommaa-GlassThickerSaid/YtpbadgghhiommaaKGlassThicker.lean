/- GlassThicker runs to true. -/
import Derived.Test.YtpbadgghhiommaaGmono
set_option linter.unusedVariables false
set_option maxHeartbeats 16000000
set_option linter.unusedSimpArgs false
namespace Go.Proofs.Ytpbadgghhiommaa.I
open Go.Ideal

theorem GlassThicker_ok (l : List Int) (a b c : Int) (hl : l.length ≤ 9223372036854775807) (ha0 : -9223372036854775808 ≤ a) (ha1 : a ≤ 9223372036854775807) (hb0 : -9223372036854775808 ≤ b) (hb1 : b ≤ 9223372036854775807) (hc0 : -9223372036854775808 ≤ c) (hc1 : c ≤ 9223372036854775807) (H : Heap) :
    Ev T (.call (.func (.func 14) [] []) [sl l, .int .i64 a, .int .i64 b, .int .i64 c] H) (.call (.bool true) H) := by
  refine run_pure T14 (nn_bool _) (nn_cons (sl_no _) (nn_cons (nn_int _ _) (nn_cons (nn_int _ _) (nn_cons (nn_int _ _) nn_none)))) ?_ H
  have q := NewDice_ok l hl
  obtain ⟨s, kd⟩ := q
  have q := StuffOf_ok s
  obtain ⟨bx, x, s1, bx0, bx1, hx, kx⟩ := q
  have q := OvenOf_any s1 4 30 (by omega) (by omega) (by omega) (by omega)
  obtain ⟨f, ls, s2, fo0, fo1, hll, hlg, ko⟩ := q
  have hO := hlg.oven (f := f) (by omega) (by omega) (by omega) (by omega)
  have ma := Mod_ok a 1000 ha0 ha1 (by omega) (by omega)
  have mb := Mod_ok b 1000 hb0 hb1 (by omega) (by omega)
  have mc := Mod_ok c 1048576 hc0 hc1 (by omega) (by omega)
  have na := modI_in a (m := 1000) (by omega)
  have nb := modI_in b (m := 1000) (by omega)
  have nc := modI_in c (m := 1048576) (by omega)
  generalize modI a 1000 = a' at *
  generalize modI b 1000 = b' at *
  generalize modI c 1048576 = c' at *
  have eA : ∃ A, A = 1 + a' := ⟨_, rfl⟩
  obtain ⟨A, eA⟩ := eA
  have eB : ∃ B, B = 1 + b' := ⟨_, rfl⟩
  obtain ⟨B, eB⟩ := eB
  have k1 := Strain_at bx0 bx1 hx (k := min A B) (by omega) (by omega) hO
  have k2 := Strain_at bx0 bx1 hx (k := max A B) (by omega) (by omega) hO
  have q := LeftOf_any s2 bx x A f ls bx0 bx1 hx (by omega) (by omega) hO
  obtain ⟨r, s3, r0, r1, kl⟩ := q
  have k3 := Judge_at bx0 bx1 hx (k := A) (by omega) (by omega) hO r0 r1
  have k4 := Judge_at bx0 bx1 hx (k := A) (by omega) (by omega) hO (left := min 1099511627776 (r + c')) (by omega) (by omega)
  have hin := fun k h1 h2 => rs_in hx (k := k) h1 h2 hO
  have st := judge_stays (b := bx) (zs := x) (zs' := x) (k := A) (k' := A) (f := f) (ls := ls) (left := r) (left' := min 1099511627776 (r + c')) (fun m _ => Int.le_refl _) (fun m _ => Int.le_refl _) (rs_le hx (by omega) (fun m hm => (hin A (by omega) (by omega) m hm).1.1)) (by omega)
  have st := st.1
  have cmp : ∀ i : Nat, i < ls.length → (at' (strL x (min A B) f ls ls.length) (i : Int)).1 ≤ (at' (strL x (max A B) f ls ls.length) (i : Int)).1 ∧ (at' (strL x (min A B) f ls ls.length) (i : Int)).2 ≤ (at' (strL x (max A B) f ls ls.length) (i : Int)).2 := fun i hi => by
    rw [strL_rs _ _ _ _ hO hi, strL_rs _ _ _ _ hO hi]
    have hm := totT_mono ls (show i + 1 ≤ ls.length by omega)
    exact ⟨rs_lo hx hx (by omega) (by omega) (fun _ => Int.le_refl _) (fun _ => Int.le_refl _) (fun m hm => (hin (min A B) (by omega) (by omega) m hm).1.1) _ hm, rs_hi hx hx (by omega) (by omega) (fun _ => Int.le_refl _) (fun _ => Int.le_refl _) (fun m hm => (hin (min A B) (by omega) (by omega) m hm).2.1) _ hm⟩
  have lx := strL_len (zs := x) (k := min A B) (f := f) (ls := ls) ls.length
  have ly := strL_len (zs := x) (k := max A B) (f := f) (ls := ls) ls.length
  generalize strL x (min A B) f ls ls.length = X at *
  generalize strL x (max A B) f ls ls.length = Y at *
  have hv : ∃ v, v = judgeV bx x A f ls r := ⟨_, rfl⟩
  obtain ⟨v, hv⟩ := hv
  have hw : ∃ v, v = judgeV bx x A f ls (min 1099511627776 (r + c')) := ⟨_, rfl⟩
  obtain ⟨w, hw⟩ := hw
  rw [← hv] at k3 st
  rw [← hw] at k4 st
  clear hv hw hin
  obtain ⟨v1, v2⟩ := v
  obtain ⟨w1, w2⟩ := w
  dsimp only at k3 k4 st
  have ex : (X.map er).length = X.length := List.length_map ..
  have ey : (Y.map er).length = Y.length := List.length_map ..
  have el : (ls.map lr).length = ls.length := List.length_map ..
  repeat' ((conv => whnf); first | (refine CallP.new kd ?_) | (refine CallP.one (fun H hb => kx H _ hb) rfl ?_) | (refine CallP.one (fun H hb => ko H _ hb) rfl ?_) | (refine CallP.pure ma ?_) | (refine CallP.pure mb ?_) | (rw [← eA]) | (rw [← eB]) | (refine CallP.pure k1 ?_) | (refine CallP.pure k2 ?_) | (first | refine condP.dec (fun h => ?_) (fun h => ?_) | refine condP.eq (fun h => ?_) (fun h => ?_) | refine condP.ne (fun h => ?_) (fun h => ?_)) | (refine .i64 (by omega) (by omega) ?_) | (refine onSome.intro (idx_fs rfl rfl (by omega) (by omega) (fun _ => rfl)) ?_) | (refine onSome.intro (load_fs rfl (by omega) (by omega) rfl) ?_) | (refine And.intro rfl ?_))
  all_goals first | (exfalso; omega) | skip
  all_goals conv => whnf
  refine loop_rule (X := Nat) (fun i => [(1, .int .i64 A), (3, .int .i64 c), (9, .ptr 0 0 0), (10, .ptr 1 0 0), (11, .ptr 2 0 0), (12, ersl X), (14, ersl Y), (16, .int .i64 i)]) (fun _ => [S1 s2, .live 2 [[.int .i64 bx, zsl x]], .live 2 [[.int .i64 f, lsl ls]]]) (fun i => ls.length - i) (fun i => i ≤ ls.length) 0
    (Nat.zero_le _) ⟨rfl, rfl, rfl, rfl, rfl, rfl, rfl, rfl, trivial⟩ rfl (fun _ _ => rfl) (fun i hi => ?_)
  rcases Nat.lt_or_ge i ls.length with hlt | hge
  · have cmp := cmp i hlt
    repeat' ((conv => whnf); first | (refine condP.dec (fun _ => ?_) (fun h => absurd (by omega) h)) | (first | refine condP.dec (fun h => ?_) (fun h => ?_) | refine condP.eq (fun h => ?_) (fun h => ?_) | refine condP.ne (fun h => ?_) (fun h => ?_)) | (refine .i64 (by omega) (by omega) ?_) | (refine onSome.intro (idx_fs rfl rfl (by omega) (by omega) (fun _ => rfl)) ?_) | (refine onSome.intro (load_fs rfl (by omega) (by omega) rfl) ?_) | (refine And.intro rfl ?_))
    all_goals first | (exfalso; omega) | skip
    all_goals conv => whnf
    all_goals exact .more (i + 1) rfl (by omega) (by omega) ⟨rfl, rfl, rfl, rfl, rfl, rfl, rfl, rfl, trivial⟩ rfl ⟨.int _ _, .int _ _, .ptr _ _ _ (by simp), .ptr _ _ _ (by simp), .ptr _ _ _ (by simp), (ersl_no _).inn _, (ersl_no _).inn _, .int _ _, trivial⟩ ⟨row_inn (nn_cons (.int _ _) nn_none), row_inn (stuff_row _ _), row_inn (oven_row _ _), trivial⟩
  · obtain rfl : i = ls.length := by omega
    conv => whnf
    refine condP.dec (fun h => absurd h (by omega)) (fun _ => ?_)
    conv => whnf
    refine .done (by simp) ?_
    repeat' ((conv => whnf); first | (refine CallP.one (fun H hb => kl H _ hb) rfl ?_) | (refine CallP.pure mc ?_) | (refine CallP.pure k3 ?_) | (refine CallP.pure k4 ?_) | (refine CallP.pure awake_ok ?_) | (first | refine condP.dec (fun h => ?_) (fun h => ?_) | refine condP.eq (fun h => ?_) (fun h => ?_) | refine condP.ne (fun h => ?_) (fun h => ?_)) | (refine .i64 (by omega) (by omega) ?_) | (refine onSome.intro (idx_fs rfl rfl (by omega) (by omega) (fun _ => rfl)) ?_) | (refine onSome.intro (load_fs rfl (by omega) (by omega) rfl) ?_) | (refine And.intro rfl ?_))
    all_goals first | (exfalso; omega) | skip
    all_goals conv => whnf
    all_goals exact PureP.intro (.bool true) (.inl rfl) rfl (.refl _)

end Go.Proofs.Ytpbadgghhiommaa.I
