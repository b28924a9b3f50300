/- CircuitRests. -/
import Derived.Test.YtlfaglkkeahamaaGreatNrests
set_option linter.unusedVariables false
set_option maxHeartbeats 16000000
set_option linter.unusedSimpArgs false
namespace Go.Proofs.YtlfaglkkeahamaaGreat.I
open Go.Ideal

theorem CircuitRests_ok (nums : List Int) (sw mo : Int) (hnums : nums.length ≤ 9223372036854775807) (sw0 : -9223372036854775808 ≤ sw) (sw1 : sw ≤ 9223372036854775807) (mo0 : -9223372036854775808 ≤ mo) (mo1 : mo ≤ 9223372036854775807) (H : Heap) :
    Ev T (.call (.func (.func 4) [] []) [sl nums, .int .i64 sw, .int .i64 mo] H) (.call (.bool true) H) := by
  refine run_pure T4 (.bool _) (nn_cons (sl_no _) (nn_cons (nn_int _ _) (nn_cons (nn_int _ _) nn_none))) ?_ H
  have q := NewDice_ok nums hnums
  obtain ⟨s, ks⟩ := q
  have q := made_any s 3 2 (by omega) (by omega) (by omega) (by omega)
  obtain ⟨n, s1, hn, k1⟩ := q
  have q := InputsOf_any s1 n hn.i0 hn.i1
  obtain ⟨l, s2, hl, k2⟩ := q
  have m1 := Mod_ok sw 11 sw0 sw1 (by omega) (by omega)
  have m2 := Mod_ok mo 6 mo0 mo1 (by omega) (by omega)
  have b1 := modI_in sw (m := 11) (by omega)
  have b2 := modI_in mo (m := 6) (by omega)
  generalize modI sw 11 = a at *
  generalize modI mo 6 = b at *
  have p1 := fun H => Settle_any hn hl (a := a) (by omega) (by omega) H
  have p2 := fun H => Settle_any hn hl (a := a + b) (by omega) (by omega) H
  have hR := hn.rested hl a.toNat b.toNat
  rw [show a.toNat + b.toNat = (a + b).toNat by omega] at hR
  generalize n.settle l a.toNat = x at *
  generalize n.settle l (a + b).toNat = y at *
  have hlen := hl.len
  have i0 := hn.i0
  have i1 := hn.i1
  have n0 := hn.s0
  have n1 := hn.s1
  have pI := inside_ok hR.win (by have := hR.xl; have := hR.yl; omega)
  have pS : x.2.2 = true → ∀ H, Ev T (.call (.func (.func 30) [] []) [setI x, setI y] H) (.call (.bool true) H) := fun h H => by
    rw [hR.still h]
    exact SameSettled_self x (by have := hR.xl; omega) H
  obtain ⟨x, xs, xb⟩ := x
  obtain ⟨y, ys, yb⟩ := y
  obtain ⟨_, xl, yl, hxs, hys, hfull, hlow, _⟩ := hR
  dsimp only at xl yl hxs hys hfull hlow pI pS
  have e1 : (x.map Rg.R).length = x.length := List.length_map ..
  have e2 : (y.map Rg.R).length = y.length := List.length_map ..
  have e3 : (n.stages.map Stg.R).length = n.stages.length := List.length_map ..
  have e4 : a.toNat = a := Int.toNat_of_nonneg b1.1
  have p1 : ∀ H, Ev T (.call (.func (.func 28) [] []) [n.I, ol Rg.R l, .int .i64 a] H) (.call (.tuple [.agg [rgsI x, .int .i64 (xs : Int), .bool xb], .int .i64 0]) H) := p1
  have p2 : ∀ H, Ev T (.call (.func (.func 28) [] []) [n.I, ol Rg.R l, .int .i64 (a + b)] H) (.call (.tuple [.agg [rgsI y, .int .i64 (ys : Int), .bool yb], .int .i64 0]) H) := p2
  have pS : xb = true → ∀ H, Ev T (.call (.func (.func 30) [] []) [.agg [rgsI x, .int .i64 (xs : Int), .bool xb], .agg [rgsI y, .int .i64 (ys : Int), .bool yb]] H) (.call (.bool true) H) := pS
  generalize hxi : (xs : Int) = xs' at *
  generalize hyi : (ys : Int) = ys' at *
  repeat' ((conv => whnf); first | (refine CallP.new ks ?_) | (refine CallP.one (fun H hb => k1 H _ hb) rfl ?_) | (refine CallP.one (fun H hb => k2 H _ hb) rfl ?_) | (refine CallP.pure m1 ?_) | (refine CallP.pure m2 ?_) | (refine CallP.pure p1 ?_) | (refine CallP.pure p2 ?_) | (refine CallP.pure pI ?_) | (refine forceC_in (v := ol Rg.R l) ?_) | (refine force_in (v := ol Rg.R l) ?_) | (refine condP.dec (fun h => absurd h (by omega)) (fun _ => ?_)) | (first | refine condP.dec (fun h => ?_) (fun h => ?_) | refine condP.eq (fun h => ?_) (fun h => ?_) | refine condP.ne (fun h => ?_) (fun h => ?_)) | (refine .i64 (by omega) (by omega) ?_) | (refine onSome.intro (idx_fs rfl rfl (by omega) (by omega) (fun _ => rfl)) ?_) | (refine onSome.intro (load_fs rfl (by omega) (by omega) rfl) ?_) | (refine And.intro rfl ?_))
  all_goals first | (exfalso; omega) | skip
  conv => whnf
  have hS : chkS (fun b => b < 4) [S1 s2, .live 3 [n.R], .live 3 [[rgsI x, .int .i64 xs', .bool xb]], .live 3 [[rgsI y, .int .i64 ys', .bool yb]]] :=
    chkN (r := [.int .u64 s2]) (nn_cons (.int _ _) nn_none) (chkN n.R_no (chkN (nn_cons (rgsI_no _) (nn_cons (.int _ _) (nn_cons (.bool _) nn_none))) (chkN (nn_cons (rgsI_no _) (nn_cons (.int _ _) (nn_cons (.bool _) nn_none))) trivial)))
  refine loop_rule (X := Nat) (fun i => [(8, .ptr 1 0 0), (9, ol Rg.R l), (10, .ptr 2 0 0), (12, .ptr 3 0 0), (14, .int .i64 i)]) (fun _ => [S1 s2, .live 3 [n.R], .live 3 [[rgsI x, .int .i64 xs', .bool xb]], .live 3 [[rgsI y, .int .i64 ys', .bool yb]]]) (fun i => y.length - i) (fun i => i ≤ y.length) 0 (Nat.zero_le _)
    ⟨rfl, rfl, rfl, rfl, rfl, trivial⟩ rfl (fun _ _ => rfl) (fun i hi => ?_)
  rcases Nat.lt_or_ge i y.length with hlt | hge
  · have f1 := hfull i
    have kmore : ∀ {E : Env} {Q : IEx → Env → List Slot → Prop}, True := trivial
    by_cases hil : i < l.length
    · have f2 := hlow i hil
      obtain ⟨t, hg⟩ : ∃ t, at' y (i : Int) = t := ⟨_, rfl⟩
      rw [hg] at f2
      have f3 := f2.symm
      repeat' ((conv => whnf); first | (refine condP.dec (fun _ => ?_) (fun h => absurd (by omega) h)) | (refine condP.dec (fun h => absurd h (by omega)) (fun _ => ?_)) | (refine onSome.intro (load_fs (l := y) (enc := Rg.R) (i := (i : Int)) (v := t.I) rfl (by omega) (by omega) (by rw [hg]; rfl)) ?_) | (refine onSome.intro (len_ol (l := l) rfl) ?_) | (refine onSome.intro (idx_ol (l := l) (enc := Rg.R) (n := (i : Int)) rfl rfl (by omega) (by omega) (fun _ => rfl)) ?_) | (refine onSome.intro (load_fs (l := l) (enc := Rg.R) (i := (i : Int)) (v := t.I) rfl (by omega) (by omega) (by rw [f3]; rfl)) ?_) | (rw [eqb]) | (refine forceC_in (v := ol Rg.R l) ?_) | (refine force_in (v := ol Rg.R l) ?_) | (first | refine condP.dec (fun h => ?_) (fun h => ?_) | refine condP.eq (fun h => ?_) (fun h => ?_) | refine condP.ne (fun h => ?_) (fun h => ?_)) | (refine .i64 (by omega) (by omega) ?_) | (refine onSome.intro (idx_fs rfl rfl (by omega) (by omega) (fun _ => rfl)) ?_) | (refine onSome.intro (load_fs rfl (by omega) (by omega) rfl) ?_) | (refine And.intro rfl ?_))
      all_goals conv => whnf
      all_goals first | (exfalso; omega) | skip
      all_goals exact .more (i + 1) rfl (by omega) (by omega) ⟨rfl, rfl, rfl, rfl, rfl, trivial⟩ rfl ⟨.ptr _ _ _ (by simp), (ol_no Rg.R_no _).inn _, .ptr _ _ _ (by simp), .ptr _ _ _ (by simp), .int _ _, trivial⟩ hS
    · obtain ⟨t, hg⟩ : ∃ t, at' y (i : Int) = t := ⟨_, rfl⟩
      repeat' ((conv => whnf); first | (refine condP.dec (fun _ => ?_) (fun h => absurd (by omega) h)) | (refine condP.dec (fun h => absurd h (by omega)) (fun _ => ?_)) | (refine onSome.intro (load_fs (l := y) (enc := Rg.R) (i := (i : Int)) (v := t.I) rfl (by omega) (by omega) (by rw [hg]; rfl)) ?_) | (refine onSome.intro (len_ol (l := l) rfl) ?_) | (refine forceC_in (v := ol Rg.R l) ?_) | (refine force_in (v := ol Rg.R l) ?_) | (first | refine condP.dec (fun h => ?_) (fun h => ?_) | refine condP.eq (fun h => ?_) (fun h => ?_) | refine condP.ne (fun h => ?_) (fun h => ?_)) | (refine .i64 (by omega) (by omega) ?_) | (refine onSome.intro (idx_fs rfl rfl (by omega) (by omega) (fun _ => rfl)) ?_) | (refine onSome.intro (load_fs rfl (by omega) (by omega) rfl) ?_) | (refine And.intro rfl ?_))
      all_goals conv => whnf
      all_goals first | (exfalso; omega) | skip
      all_goals exact .more (i + 1) rfl (by omega) (by omega) ⟨rfl, rfl, rfl, rfl, rfl, trivial⟩ rfl ⟨.ptr _ _ _ (by simp), (ol_no Rg.R_no _).inn _, .ptr _ _ _ (by simp), .ptr _ _ _ (by simp), .int _ _, trivial⟩ hS
  · obtain rfl : i = y.length := by omega
    cases xb
    · repeat' ((conv => whnf); first | (refine condP.dec (fun h => absurd h (by omega)) (fun _ => ?_)) | (refine .done (by simp) ?_) | (refine CallP.pure awake_ok ?_) | (first | refine condP.dec (fun h => ?_) (fun h => ?_) | refine condP.eq (fun h => ?_) (fun h => ?_) | refine condP.ne (fun h => ?_) (fun h => ?_)) | (refine .i64 (by omega) (by omega) ?_) | (refine onSome.intro (idx_fs rfl rfl (by omega) (by omega) (fun _ => rfl)) ?_) | (refine onSome.intro (load_fs rfl (by omega) (by omega) rfl) ?_) | (refine And.intro rfl ?_))
      all_goals first | (exfalso; omega) | skip
      all_goals conv => whnf
      all_goals exact .intro (.bool true) (.inl rfl) rfl (.refl _)
    · have pS := pS rfl
      repeat' ((conv => whnf); first | (refine condP.dec (fun h => absurd h (by omega)) (fun _ => ?_)) | (refine .done (by simp) ?_) | (refine CallP.pure pS ?_) | (refine CallP.pure awake_ok ?_) | (first | refine condP.dec (fun h => ?_) (fun h => ?_) | refine condP.eq (fun h => ?_) (fun h => ?_) | refine condP.ne (fun h => ?_) (fun h => ?_)) | (refine .i64 (by omega) (by omega) ?_) | (refine onSome.intro (idx_fs rfl rfl (by omega) (by omega) (fun _ => rfl)) ?_) | (refine onSome.intro (load_fs rfl (by omega) (by omega) rfl) ?_) | (refine And.intro rfl ?_))
      all_goals first | (exfalso; omega) | skip
      all_goals conv => whnf
      all_goals exact .intro (.bool true) (.inl rfl) rfl (.refl _)

end Go.Proofs.YtlfaglkkeahamaaGreat.I
