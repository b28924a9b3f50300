/- GlassAdds runs to true. -/
import Derived.Test.YtpbadgghhiommaaGat
set_option linter.unusedVariables false
set_option maxHeartbeats 16000000
set_option linter.unusedSimpArgs false
namespace Go.Proofs.Ytpbadgghhiommaa.I
open Go.Ideal

theorem GlassAdds_ok (l : List Int) (a b c : Int) (hl : l.length ≤ 9223372036854775807) (ha0 : -9223372036854775808 ≤ a) (ha1 : a ≤ 9223372036854775807) (hb0 : -9223372036854775808 ≤ b) (hb1 : b ≤ 9223372036854775807) (hc0 : -9223372036854775808 ≤ c) (hc1 : c ≤ 9223372036854775807) (H : Heap) :
    Ev T (.call (.func (.func 6) [] []) [sl l, .int .i64 a, .int .i64 b, .int .i64 c] H) (.call (.bool true) H) := by
  refine run_pure T6 (nn_bool _) (nn_cons (sl_no _) (nn_cons (nn_int _ _) (nn_cons (nn_int _ _) (nn_cons (nn_int _ _) nn_none)))) ?_ H
  have q := NewDice_ok l hl
  obtain ⟨s, kd⟩ := q
  have q := StuffOf_ok s
  obtain ⟨bx, x, s1, bx0, bx1, hx, kx⟩ := q
  have q := truly_any s1 bx x hx
  obtain ⟨tl, s2, ht, kt⟩ := q
  have ma := Mod_ok a 2001 ha0 ha1 (by omega) (by omega)
  have mb := Mod_ok b 2001 hb0 hb1 (by omega) (by omega)
  have mc := Mod_ok c 2001 hc0 hc1 (by omega) (by omega)
  have na := modI_in a (m := 2001) (by omega)
  have nb := modI_in b (m := 2001) (by omega)
  have nc := modI_in c (m := 2001) (by omega)
  generalize modI a 2001 = a' at *
  generalize modI b 2001 = b' at *
  generalize modI c 2001 = c' at *
  have htb : ∀ t : Int, 0 ≤ t → t < tl.length → -100000 ≤ at' tl t ∧ at' tl t ≤ 100000 := fun t t0 t1 => by
    have h1 := ht.at_ t t0 (by have := ht.len; omega)
    have h2 := zoneOf_gr hx t
    omega
  have e1 : ∃ lo, lo = (if c' < (if b' < a' then b' else a') then c' else (if b' < a' then b' else a')) := ⟨_, rfl⟩
  obtain ⟨lo, e1⟩ := e1
  have e2 : ∃ hi, hi = (if (if a' < b' then b' else a') < c' then c' else (if a' < b' then b' else a')) := ⟨_, rfl⟩
  obtain ⟨hi, e2⟩ := e2
  have g1 : lo ≤ a' ∧ lo ≤ b' ∧ lo ≤ c' ∧ (lo = a' ∨ lo = b' ∨ lo = c') := by
    rw [e1]
    repeat' split
    all_goals omega
  have g2 : a' ≤ hi ∧ b' ≤ hi ∧ c' ≤ hi ∧ (hi = a' ∨ hi = b' ∨ hi = c') := by
    rw [e2]
    repeat' split
    all_goals omega
  have e3 : ∃ m, m = a' + b' + c' - lo - hi := ⟨_, rfl⟩
  obtain ⟨m, e3⟩ := e3
  have g : ∀ u v : Int, (u ≤ m ∧ m ≤ v) ∨ (v ≤ m ∧ m ≤ u) → 0 ≤ u → u ≤ 2000 → 0 ≤ v → v ≤ 2000 → ∃ x1 x2 y1 y2 z1 z2 n : Int, z1 = x1 + y1 ∧ z2 = x2 + y2 ∧ z1 ≤ n ∧ n ≤ z2 ∧ -200000000 ≤ x1 ∧ x1 ≤ 200000000 ∧ -200000000 ≤ x2 ∧ x2 ≤ 200000000 ∧ -200000000 ≤ y1 ∧ y1 ≤ 200000000 ∧ -200000000 ≤ y2 ∧ y2 ≤ 200000000 ∧
      (∀ H, Ev T (.call (.func (.func 47) [] []) [stuffI bx x, .int .i64 u, .int .i64 m] H) (.call (errRg 0 x1 x2) H)) ∧ (∀ H, Ev T (.call (.func (.func 47) [] []) [stuffI bx x, .int .i64 m, .int .i64 v] H) (.call (errRg 0 y1 y2) H)) ∧
      (∀ H, Ev T (.call (.func (.func 47) [] []) [stuffI bx x, .int .i64 u, .int .i64 v] H) (.call (errRg 0 z1 z2) H)) ∧ (∀ H, Ev T (.call (.func (.func 43) [] []) [sl tl, .int .i64 u, .int .i64 v] H) (.call (.int .i64 n) H)) := by
    intro u v h u0 u1 v0 v1
    have m0 : 0 ≤ m ∧ m ≤ 2000 := by omega
    have b1 := gLo_bound hx u0 u1 m0.1 m0.2
    have b2 := gLo_bound hx m0.1 m0.2 v0 v1
    have b3 := grown_in ht u0 u1 v0 v1
    exact ⟨_, _, _, _, _, _, _, gLo_add h, gHi_add h, b3.1, b3.2, b1.1, b1.2.1, b1.2.2.1, b1.2.2.2, b2.1, b2.2.1, b2.2.2.1, b2.2.2.2, Growth_at bx0 bx1 hx u0 u1 m0.1 m0.2, Growth_at bx0 bx1 hx m0.1 m0.2 v0 v1, Growth_at bx0 bx1 hx u0 u1 v0 v1, grown_ok tl ht.len htb u v u0 u1 v0 v1⟩
  have q := g hi lo (by omega) (by omega) (by omega) (by omega) (by omega)
  obtain ⟨x1, x2, y1, y2, z1, z2, n, f1, f2, f3, f4, f5, f6, f7, f8, f9, f10, f11, f12, k1, k2, k3, k4⟩ := q
  have q := g lo hi (by omega) (by omega) (by omega) (by omega) (by omega)
  obtain ⟨p1, p2, r1, r2, w1, w2, n', d1, d2, d3, d4, d5, d6, d7, d8, d9, d10, d11, d12, j1, j2, j3, j4⟩ := q
  repeat' ((conv => whnf); first | (refine CallP.new kd ?_) | (refine CallP.one (fun H hb => kx H _ hb) rfl ?_) | (refine CallP.one (fun H hb => kt H _ hb) rfl ?_) | (refine CallP.pure ma ?_) | (refine CallP.pure mb ?_) | (refine CallP.pure mc ?_) | (rw [← e1]) | (rw [← e2]) | (rw [← e3]) | (refine CallP.pure k1 ?_) | (refine CallP.pure k2 ?_) | (refine CallP.pure k3 ?_) | (refine CallP.pure k4 ?_) | (refine CallP.pure j1 ?_) | (refine CallP.pure j2 ?_) | (refine CallP.pure j3 ?_) | (refine CallP.pure j4 ?_) | (refine CallP.inl T46 rfl ?_) | (refine CallP.pure awake_ok ?_) | (refine condP.rg (fun h => ?_) (fun h => absurd (by omega) h)) | (first | refine condP.dec (fun h => ?_) (fun h => ?_) | refine condP.eq (fun h => ?_) (fun h => ?_) | refine condP.ne (fun h => ?_) (fun h => ?_)) | (refine .i64 (by omega) (by omega) ?_) | (refine onSome.intro (idx_fs rfl rfl (by omega) (by omega) (fun _ => rfl)) ?_) | (refine onSome.intro (load_fs rfl (by omega) (by omega) rfl) ?_) | (refine And.intro rfl ?_))
  all_goals first | (exfalso; omega) | skip
  all_goals conv => whnf
  all_goals exact PureP.intro (.bool true) (.inl rfl) rfl (.refl _)

end Go.Proofs.Ytpbadgghhiommaa.I
