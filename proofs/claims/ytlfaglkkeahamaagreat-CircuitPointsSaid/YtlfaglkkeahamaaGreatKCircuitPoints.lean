/- CircuitPoints. -/
import Derived.Test.YtlfaglkkeahamaaGreatNgrd
import Derived.Test.YtlfaglkkeahamaaGreatNbig
set_option linter.unusedVariables false
set_option maxHeartbeats 32000000
set_option linter.unusedSimpArgs false
namespace Go.Proofs.YtlfaglkkeahamaaGreat.I
open Go.Ideal

def eR (l : List Rg) : List IV := [rgsI l]
theorem eR_no (l : List Rg) : ∀ x ∈ eR l, Noname x := nn_cons (rgsI_no l) nn_none
theorem of3 {α : Type} [Inhabited α] {a b c : α} {P : α → Prop} (ha : P a) (hb : P b) (hc : P c) {i : Nat} (h : i < 3) : P (at' [a, b, c] (i : Int)) := by
  rcases (show i = 0 ∨ i = 1 ∨ i = 2 by omega) with rfl | rfl | rfl
  · exact ha
  · exact hb
  · exact hc
theorem settle_len {n : Net} (hn : n.Ok) {l : List Rg} (hl : RgsOk l n.ins (-1000000) 1000000) (k : Nat) : ((n.settle l k).1.length : Int) = n.ins + n.stages.length := by
  unfold Net.settle
  rw [(hn.rest_iter (n.start l) k).1, n.iter_len]
  exact (hn.start hl).len

theorem CircuitPoints_ok (n : Net) (stage : Int) (nodes : List Rg) (r0 r1 : Int) (nums : List Int) (hn : n.Len) (st0 : -9223372036854775808 ≤ stage) (st1 : stage ≤ 9223372036854775807) (hnodes : nodes.length ≤ 9223372036854775807) (hnums : nums.length ≤ 9223372036854775807) (H : Heap) :
    Ev T (.call (.func (.func 10) [] []) [n.I, .int .i64 stage, rgsI nodes, rgI r0 r1, sl nums] H) (.call (.bool true) H) := by
  refine run_pure T10 (.bool _) (nn_cons n.I_no (nn_cons (nn_int _ _) (nn_cons (rgsI_no _) (nn_cons (rgI_no _ _) (nn_cons (sl_no _) nn_none))))) ?_ H
  have kB := big9_ok n hn
  have e1 : (nodes.map Rg.R).length = nodes.length := List.length_map ..
  cases hb : bigB n
  rotate_left
  · rw [hb] at kB
    repeat' ((conv => whnf); first | (refine CallP.pure kB ?_) | (refine CallP.pure awake_ok ?_) | (first | refine condP.dec (fun h => ?_) (fun h => ?_) | refine condP.eq (fun h => ?_) (fun h => ?_) | refine condP.ne (fun h => ?_) (fun h => ?_)) | (refine .i64 (by omega) (by omega) ?_) | (refine onSome.intro (idx_fs rfl rfl (by omega) (by omega) (fun _ => rfl)) ?_) | (refine onSome.intro (load_fs rfl (by omega) (by omega) rfl) ?_) | (refine And.intro rfl ?_))
    all_goals conv => whnf
    all_goals exact .intro (.bool true) (.inl rfl) rfl (.refl _)
  rw [hb] at kB
  have hsz := big_sz hb
  by_cases h20 : 20 < nodes.length
  · repeat' ((conv => whnf); first | (refine CallP.pure kB ?_) | (refine CallP.pure awake_ok ?_) | (refine condP.dec (fun _ => ?_) (fun h => absurd (by omega) h)) | (first | refine condP.dec (fun h => ?_) (fun h => ?_) | refine condP.eq (fun h => ?_) (fun h => ?_) | refine condP.ne (fun h => ?_) (fun h => ?_)) | (refine .i64 (by omega) (by omega) ?_) | (refine onSome.intro (idx_fs rfl rfl (by omega) (by omega) (fun _ => rfl)) ?_) | (refine onSome.intro (load_fs rfl (by omega) (by omega) rfl) ?_) | (refine And.intro rfl ?_))
    all_goals conv => whnf
    all_goals exact .intro (.bool true) (.inl rfl) rfl (.refl _)
  have q := NewDice_ok nums hnums
  obtain ⟨s, ks⟩ := q
  have q := NetOf_any s 4 3 false (by omega) (by omega) (by omega) (by omega)
  obtain ⟨m, s1, hm, k1⟩ := q
  have hm := hm.ok
  have q := InputsOf_any s1 m hm.i0 hm.i1
  obtain ⟨l, s2, hl, k2⟩ := q
  have q := Upto_any s2 4 (by omega)
  obtain ⟨u, s3, u0, u1, k3⟩ := q
  have q := Range_ok s3 (-9000) 3000 (by omega) (by omega) (by omega)
  obtain ⟨g0, g1, s4, a0, a1, a2, k4⟩ := q
  have hll := hl.len
  have mi1 := hm.i1
  have ms0 := hm.s0
  have ms1 := hm.s1
  have e2 : (m.stages.map Stg.R).length = m.stages.length := List.length_map ..
  have kS := fun H => r9Settle_ok hm.sz (RRef.ol (l := l) (by omega)) u H
  have hE : setE m l u = 0 := setE_zero.mpr ⟨hm, hl, by omega, by omega⟩
  unfold setV at kS
  rw [hE, if_pos rfl] at kS
  have hxl := settle_len hm hl u.toNat
  generalize m.settle l u.toNat = x at *
  obtain ⟨x, xs, xb⟩ := x
  dsimp only at hxl
  have kS : ∀ H, Ev T (.call (.func (.func 38) [] []) [m.I, ol Rg.R l, .int .i64 u] H) (.call (.tuple [.agg [rgsI x, .int .i64 (xs : Int), .bool xb], .int .i64 0]) H) := kS
  have kM := Mod_ok stage ((((m.stages.map Stg.R).length : Nat) : Int)) st0 st1 (by omega) (by omega)
  generalize modI stage ((((m.stages.map Stg.R).length : Nat) : Int)) = w at *
  repeat' ((conv => whnf); first | (refine CallP.pure kB ?_) | (refine CallP.new ks ?_) | (refine CallP.one (fun H hb => k1 H _ hb) rfl ?_) | (refine CallP.one (fun H hb => k2 H _ hb) rfl ?_) | (refine CallP.one (fun H hb => k3 H _ hb) rfl ?_) | (refine CallP.one (fun H hb => k4 H _ hb) rfl ?_) | (refine CallP.pure kS ?_) | (refine CallP.pure kM ?_) | (refine forceC_in (v := ol Rg.R l) ?_) | (refine force_in (v := ol Rg.R l) ?_) | (first | refine condP.dec (fun h => ?_) (fun h => ?_) | refine condP.eq (fun h => ?_) (fun h => ?_) | refine condP.ne (fun h => ?_) (fun h => ?_)) | (refine .i64 (by omega) (by omega) ?_) | (refine onSome.intro (idx_fs rfl rfl (by omega) (by omega) (fun _ => rfl)) ?_) | (refine onSome.intro (load_fs rfl (by omega) (by omega) rfl) ?_) | (refine And.intro rfl ?_))
  all_goals first | (exfalso; omega) | skip
  conv => whnf
  have hnI : ∀ {S : Nat → Prop} {q : List Slot}, chkS S q → chkS S (.live 3 ([n, m, m].map Net.R) :: q) := fun h => ⟨ms_inn Net.R_no _, h⟩
  have hC : chkS (fun b => b < 9) [.live 3 [n.R], .live 2 [[.int .i64 r0, .int .i64 r1]], S1 s4, .live 3 [m.R], .live 3 [[rgsI x, .int .i64 (xs : Int), .bool xb]], .live 3 ([n, m, m].map Net.R), .live 1 ([stage, w, stage].map ei), .live 1 ([nodes, x, nodes].map eR), .live 2 ([(⟨r0, r1⟩ : Rg), ⟨g0, g1⟩, ⟨r0, r1⟩].map Rg.R)] :=
    chkN n.R_no (chkN (nn_cons (.int _ _) (nn_cons (.int _ _) nn_none)) (chkN (r := [.int .u64 s4]) (nn_cons (.int _ _) nn_none) (chkN m.R_no (chkN (nn_cons (rgsI_no _) (nn_cons (.int _ _) (nn_cons (.bool _) nn_none)))
      ⟨ms_inn Net.R_no _, ms_inn ei_no _, ms_inn eR_no _, ms_inn Rg.R_no _, trivial⟩))))
  refine loop_rule (X := Nat) (fun i => [(16, .mslice 5 0 3 3 true), (17, .mslice 6 0 3 3 true), (18, .mslice 7 0 3 3 true), (19, .mslice 8 0 3 3 true), (20, .int .i64 i)])
    (fun _ => [.live 3 [n.R], .live 2 [[.int .i64 r0, .int .i64 r1]], S1 s4, .live 3 [m.R], .live 3 [[rgsI x, .int .i64 (xs : Int), .bool xb]], .live 3 ([n, m, m].map Net.R), .live 1 ([stage, w, stage].map ei), .live 1 ([nodes, x, nodes].map eR), .live 2 ([(⟨r0, r1⟩ : Rg), ⟨g0, g1⟩, ⟨r0, r1⟩].map Rg.R)])
    (fun i => 3 - i) (fun i => i ≤ 3) 0 (by omega) ⟨rfl, rfl, rfl, rfl, rfl, trivial⟩ rfl (fun _ _ => rfl) (fun i hi => ?_)
  rcases Nat.lt_or_ge i 3 with hlt | hge
  · have zN := of3 (P := Net.Sz) hsz hm.sz hm.sz hlt
    have zA := of3 (P := fun l : List Rg => l.length ≤ 9223372036854775807) (a := nodes) (b := x) (c := nodes) (by omega) (by omega) (by omega) hlt
    obtain ⟨N, hN⟩ : ∃ N, at' [n, m, m] (i : Int) = N := ⟨_, rfl⟩
    obtain ⟨S, hS⟩ : ∃ S, at' [stage, w, stage] (i : Int) = S := ⟨_, rfl⟩
    obtain ⟨A, hA⟩ : ∃ A, at' [nodes, x, nodes] (i : Int) = A := ⟨_, rfl⟩
    obtain ⟨G, hG⟩ : ∃ G, at' [(⟨r0, r1⟩ : Rg), ⟨g0, g1⟩, ⟨r0, r1⟩] (i : Int) = G := ⟨_, rfl⟩
    rw [hN] at zN
    rw [hA] at zA
    have p1 := c9Grid_ok zN S zA
    have p2 := r9Grid_ok zN S zA
    have p3 := c9Plate_ok zN S G
    have p4 := r9Plate_ok zN S G
    generalize grdV N S A = v1 at *
    generalize grdE N S A = f1 at *
    generalize pltV N S G = v2 at *
    generalize pltE N S G = f2 at *
    obtain ⟨v10, v11⟩ := v1
    obtain ⟨v20, v21⟩ := v2
    repeat' ((conv => whnf); first | (refine condP.dec (fun _ => ?_) (fun h => absurd (by omega) h)) | (refine onSome.intro (idx_ms (n := (i : Int)) rfl rfl rfl (by omega) (by omega)) ?_) | (refine onSome.intro (load_ms (l := [n, m, m]) (enc := Net.R) (i := (i : Int)) (v := N.I) rfl rfl (by omega) (by simp; omega) (by rw [hN]; rfl)) ?_) | (refine onSome.intro (load_ms (l := [stage, w, stage]) (enc := ei) (i := (i : Int)) (v := .int .i64 S) rfl rfl (by omega) (by simp; omega) (by rw [hS]; rfl)) ?_) | (refine onSome.intro (load_ms (l := [nodes, x, nodes]) (enc := eR) (i := (i : Int)) (v := rgsI A) rfl rfl (by omega) (by simp; omega) (by rw [hA]; rfl)) ?_) | (refine onSome.intro (load_ms (l := [⟨r0, r1⟩, ⟨g0, g1⟩, ⟨r0, r1⟩]) (enc := Rg.R) (i := (i : Int)) (v := G.I) rfl rfl (by omega) (by simp; omega) (by rw [hG]; rfl)) ?_) | (refine CallP.pure p1 ?_) | (refine CallP.pure p2 ?_) | (refine CallP.pure p3 ?_) | (refine CallP.pure p4 ?_) | (rw [eqb]) | (first | refine condP.dec (fun h => ?_) (fun h => ?_) | refine condP.eq (fun h => ?_) (fun h => ?_) | refine condP.ne (fun h => ?_) (fun h => ?_)) | (refine .i64 (by omega) (by omega) ?_) | (refine onSome.intro (idx_fs rfl rfl (by omega) (by omega) (fun _ => rfl)) ?_) | (refine onSome.intro (load_fs rfl (by omega) (by omega) rfl) ?_) | (refine And.intro rfl ?_))
    all_goals first | (exfalso; omega) | skip
    all_goals conv => whnf
    all_goals refine .more (i + 1) rfl (by omega) (by omega) ⟨rfl, rfl, rfl, rfl, rfl, trivial⟩ rfl ⟨.mslice _ _ _ _ _ (by simp), .mslice _ _ _ _ _ (by simp), .mslice _ _ _ _ _ (by simp), .mslice _ _ _ _ _ (by simp), .int _ _, trivial⟩ ?_
    all_goals exact hC
  · obtain rfl : i = 3 := by omega
    repeat' ((conv => whnf); first | (refine condP.dec (fun h => absurd h (by omega)) (fun _ => ?_)) | (refine .done (by simp) ?_) | (refine CallP.pure awake_ok ?_) | (first | refine condP.dec (fun h => ?_) (fun h => ?_) | refine condP.eq (fun h => ?_) (fun h => ?_) | refine condP.ne (fun h => ?_) (fun h => ?_)) | (refine .i64 (by omega) (by omega) ?_) | (refine onSome.intro (idx_fs rfl rfl (by omega) (by omega) (fun _ => rfl)) ?_) | (refine onSome.intro (load_fs rfl (by omega) (by omega) rfl) ?_) | (refine And.intro rfl ?_))
    all_goals conv => whnf
    all_goals exact .intro (.bool true) (.inl rfl) rfl (.refl _)

end Go.Proofs.YtlfaglkkeahamaaGreat.I
