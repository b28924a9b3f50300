/- CircuitFalls. -/
import Derived.Test.YtlfaglkkeahamaaGreatNrcopy
import Derived.Test.YtlfaglkkeahamaaGreatNplt
set_option linter.unusedVariables false
set_option maxHeartbeats 32000000
set_option linter.unusedSimpArgs false
namespace Go.Proofs.YtlfaglkkeahamaaGreat.I
open Go.Ideal

theorem plate_falls {F : Fam} {s s' : Stg} {g g' : Rg} (hF : F.Ok) (h1 : s'.su.lo ≤ s.su.lo) (h2 : s'.su.hi ≤ s.su.hi) (h3 : s.ld.lo ≤ s'.ld.lo) (h4 : s.ld.hi ≤ s'.ld.hi) (h0 : 0 ≤ s.ld.lo) (h00 : 0 ≤ s.ld.hi) (h5 : g.lo ≤ g'.lo) (h6 : g.hi ≤ g'.hi) :
    (s'.plate F g').lo ≤ (s.plate F g).lo ∧ (s'.plate F g').hi ≤ (s.plate F g).hi := by
  have a := over_le (F := F) (F' := F) (s := s') (s' := s) (g := g'.hi) (g' := g.hi) hF h1 h4 (by omega) (fun v => (hF.byGrid h6 v).2)
  have b := en_le (F := F) (F' := F) (s := s) (s' := s') (g := g.lo) (g' := g'.lo) hF h2 h3 (by omega) (fun v => (hF.byGrid h5 v).1)
  unfold Stg.plate
  exact ⟨by dsimp only; omega, by dsimp only; omega⟩
theorem Plate_one {TT : List Fam} {ins : Int} {s : Stg} (hn : Net.Ok ⟨TT, ins, [s]⟩) {g : Rg} (hg : g.Ok (-1000000) 1000000) (H : Heap) :
    Ev T (.call (.func (.func 34) [] []) [Net.I ⟨TT, ins, [s]⟩, .int .i64 0, g.I] H) (.call (.tuple [(s.plate (at' TT s.tube) g).I, .int .i64 0]) H) := by
  have e := pltE_zero.mpr ⟨hn, Int.le_refl 0, (by show (0 : Int) < (([s] : List Stg).length : Int); simp), hg⟩
  have k := c9Plate_ok hn.sz 0 g H
  unfold pltV at k
  rw [e, if_pos rfl] at k
  exact k
theorem one_ok {TT : List Fam} {ins : Int} {s s' : Stg} (hn : Net.Ok ⟨TT, ins, [s]⟩) (h : s'.Ok TT.length (ins + 1)) : Net.Ok ⟨TT, ins, [s']⟩ := by
  refine ⟨hn.t0, hn.t1, hn.fam, hn.i0, hn.i1, by simp, by simp, fun i hi => ?_⟩
  obtain rfl : i = 0 := by simp at hi; exact hi
  exact h

theorem CircuitFalls_ok (nums : List Int) (hnums : nums.length ≤ 9223372036854775807) (H : Heap) :
    Ev T (.call (.func (.func 5) [] []) [sl nums] H) (.call (.bool true) H) := by
  refine run_pure T5 (.bool _) (nn_cons (sl_no _) nn_none) ?_ H
  have q := NewDice_ok nums hnums
  obtain ⟨s, ks⟩ := q
  have q := NetOf_any s 1 0 true (by omega) (by omega) (by omega) (by omega)
  obtain ⟨n, s1, hm, k1⟩ := q
  obtain ⟨TT, ins, ss⟩ := n
  obtain ⟨st, rfl⟩ : ∃ st, ss = [st] := by
    have a := hm.ok.s0
    have b := hm.st
    dsimp only at a b
    match ss, a, b with
    | [st], _, _ => exact ⟨st, rfl⟩
    | _ :: _ :: _, _, b => simp at b; omega
  have hn := hm.ok
  have hmade := hm.made 0 (by simp)
  have hmade : MadeS TT.length (ins + 1) true (ins + 0) st := hmade
  have hs := hmade.ok
  have hsu := hmade.su
  have hld := hmade.ld
  have hF : (at' TT st.tube).Ok := hn.tube (i := 0) (by simp)
  have q := Range_ok s1 (-9000) 2000 (by omega) (by omega) (by omega)
  obtain ⟨g0, g1, s2, a0, a1, a2, k2⟩ := q
  have q := Upto_any s2 900 (by omega)
  obtain ⟨u1, s3, b0, b1, k3⟩ := q
  have q := Upto_any s3 900 (by omega)
  obtain ⟨u2, s4, c0, c1, k4⟩ := q
  have q := Upto_any s4 900 (by omega)
  obtain ⟨u3, s5, d0, d1, k5⟩ := q
  have q := Upto_any s5 900 (by omega)
  obtain ⟨u4, s6, f0, f1, k6⟩ := q
  have kC := fun H b hb => r9CopyS_ok hn H b hb
  obtain ⟨tb, ⟨su0, su1⟩, ⟨ld0, ld1⟩, bi, tp⟩ := st
  have z1 := hs.su
  have z2 := hs.ld
  obtain ⟨z10, z11, z12⟩ := z1
  obtain ⟨z20, z21, z22⟩ := z2
  dsimp only at z10 z11 z12 z20 z21 z22 hsu hld hF
  have hS : Net.Ok ⟨TT, ins, [⟨tb, ⟨su0 + u3, su1 + 900⟩, ⟨ld0, ld1⟩, bi, tp⟩]⟩ := one_ok hn ⟨hs.t0, hs.t1, ⟨by dsimp only; omega, by dsimp only; omega, by dsimp only; omega⟩, hs.ld, hs.bi, hs.taps⟩
  have hL : Net.Ok ⟨TT, ins, [⟨tb, ⟨su0, su1⟩, ⟨ld0 + u4, ld1 + 900⟩, bi, tp⟩]⟩ := one_ok hn ⟨hs.t0, hs.t1, hs.su, ⟨by dsimp only; omega, by dsimp only; omega, by dsimp only; omega⟩, hs.bi, hs.taps⟩
  have p1 := Plate_one hn (g := ⟨g0, g1⟩) ⟨by dsimp only; omega, by dsimp only; omega, by dsimp only; omega⟩
  have p2 := Plate_one hn (g := ⟨g0 + u1, max (g0 + u1) (g1 + u2)⟩) ⟨by dsimp only; omega, by dsimp only; omega, by dsimp only; omega⟩
  have p3 := Plate_one hS (g := ⟨g0, g1⟩) ⟨by dsimp only; omega, by dsimp only; omega, by dsimp only; omega⟩
  have p4 := Plate_one hL (g := ⟨g0, g1⟩) ⟨by dsimp only; omega, by dsimp only; omega, by dsimp only; omega⟩
  have m1 := plate_ok hF hs (g := ⟨g0, g1⟩) a1
  have m2 := plate_falls (s := ⟨tb, ⟨su0, su1⟩, ⟨ld0, ld1⟩, bi, tp⟩) (s' := ⟨tb, ⟨su0, su1⟩, ⟨ld0, ld1⟩, bi, tp⟩) (g := ⟨g0, g1⟩) (g' := ⟨g0 + u1, max (g0 + u1) (g1 + u2)⟩) hF (by dsimp only; omega) (by dsimp only; omega) (by dsimp only; omega) (by dsimp only; omega) (by dsimp only; omega) (by dsimp only; omega) (by dsimp only; omega) (by dsimp only; omega)
  have m3 := plate_falls (s := ⟨tb, ⟨su0 + u3, su1 + 900⟩, ⟨ld0, ld1⟩, bi, tp⟩) (s' := ⟨tb, ⟨su0, su1⟩, ⟨ld0, ld1⟩, bi, tp⟩) (g := ⟨g0, g1⟩) (g' := ⟨g0, g1⟩) hF (by dsimp only; omega) (by dsimp only; omega) (by dsimp only; omega) (by dsimp only; omega) (by dsimp only; omega) (by dsimp only; omega) (by dsimp only; omega) (by dsimp only; omega)
  have m4 := plate_falls (s := ⟨tb, ⟨su0, su1⟩, ⟨ld0, ld1⟩, bi, tp⟩) (s' := ⟨tb, ⟨su0, su1⟩, ⟨ld0 + u4, ld1 + 900⟩, bi, tp⟩) (g := ⟨g0, g1⟩) (g' := ⟨g0, g1⟩) hF (by dsimp only; omega) (by dsimp only; omega) (by dsimp only; omega) (by dsimp only; omega) (by dsimp only; omega) (by dsimp only; omega) (by dsimp only; omega) (by dsimp only; omega)
  dsimp only at p1 p2 p3 p4
  generalize Stg.plate ⟨tb, ⟨su0, su1⟩, ⟨ld0, ld1⟩, bi, tp⟩ (at' TT tb) ⟨g0, g1⟩ = A at *
  generalize Stg.plate ⟨tb, ⟨su0, su1⟩, ⟨ld0, ld1⟩, bi, tp⟩ (at' TT tb) ⟨g0 + u1, max (g0 + u1) (g1 + u2)⟩ = B at *
  generalize Stg.plate ⟨tb, ⟨su0 + u3, su1 + 900⟩, ⟨ld0, ld1⟩, bi, tp⟩ (at' TT tb) ⟨g0, g1⟩ = C at *
  generalize Stg.plate ⟨tb, ⟨su0, su1⟩, ⟨ld0 + u4, ld1 + 900⟩, bi, tp⟩ (at' TT tb) ⟨g0, g1⟩ = D at *
  obtain ⟨A0, A1⟩ := A
  obtain ⟨B0, B1⟩ := B
  obtain ⟨C0, C1⟩ := C
  obtain ⟨D0, D1⟩ := D
  dsimp only at m1 m2 m3 m4
  have k1 : ∀ (H : Heap) (b : Nat), H b = S1 s → Ev T (.call (.func (.func 21) [] []) [.ptr b 0 0, .int .i64 1, .int .i64 0, .bool true] H) (.call (.agg [famsI TT, .int .i64 ins, stgsI [⟨tb, ⟨su0, su1⟩, ⟨ld0, ld1⟩, bi, tp⟩]]) (H.set b (S1 s1))) := k1
  have p1 : ∀ H, Ev T (.call (.func (.func 34) [] []) [.agg [famsI TT, .int .i64 ins, stgsI [⟨tb, ⟨su0, su1⟩, ⟨ld0, ld1⟩, bi, tp⟩]], .int .i64 0, rgI g0 g1] H) (.call (.tuple [rgI A0 A1, .int .i64 0]) H) := p1
  have p2 : ∀ H, Ev T (.call (.func (.func 34) [] []) [.agg [famsI TT, .int .i64 ins, stgsI [⟨tb, ⟨su0, su1⟩, ⟨ld0, ld1⟩, bi, tp⟩]], .int .i64 0, rgI (g0 + u1) (max (g0 + u1) (g1 + u2))] H) (.call (.tuple [rgI B0 B1, .int .i64 0]) H) := p2
  have p3 : ∀ H, Ev T (.call (.func (.func 34) [] []) [.agg [famsI TT, .int .i64 ins, stgsI [⟨tb, ⟨su0 + u3, su1 + 900⟩, ⟨ld0, ld1⟩, bi, tp⟩]], .int .i64 0, rgI g0 g1] H) (.call (.tuple [rgI C0 C1, .int .i64 0]) H) := p3
  have p4 : ∀ H, Ev T (.call (.func (.func 34) [] []) [.agg [famsI TT, .int .i64 ins, stgsI [⟨tb, ⟨su0, su1⟩, ⟨ld0 + u4, ld1 + 900⟩, bi, tp⟩]], .int .i64 0, rgI g0 g1] H) (.call (.tuple [rgI D0 D1, .int .i64 0]) H) := p4
  have kC : ∀ (H : Heap) (b : Nat), H b = .free → Ev T (.call (.func (.func 35) [] []) [.agg [famsI TT, .int .i64 ins, stgsI [⟨tb, ⟨su0, su1⟩, ⟨ld0, ld1⟩, bi, tp⟩]]] H) (.call (.agg [famsI TT, .int .i64 ins, .mslice b 0 1 1 false]) (H.set b (.live 8 [[.int .i64 tb, .int .i64 su0, .int .i64 su1, .int .i64 ld0, .int .i64 ld1, .int .i64 bi.lo, .int .i64 bi.hi, tapsI tp]]))) := kC
  repeat' ((conv => whnf); first | (refine CallP.new ks ?_) | (refine CallP.one (fun H hb => k1 H _ hb) rfl ?_) | (refine CallP.one (fun H hb => k2 H _ hb) rfl ?_) | (refine CallP.one (fun H hb => k3 H _ hb) rfl ?_) | (refine CallP.one (fun H hb => k4 H _ hb) rfl ?_) | (refine CallP.one (fun H hb => k5 H _ hb) rfl ?_) | (refine CallP.one (fun H hb => k6 H _ hb) rfl ?_) | (refine CallP.pure p1 ?_) | (refine CallP.pure p2 ?_) | (refine CallP.inl T32 rfl ?_) | (refine CallP.new kC ?_) | (refine CallP.pure awake_ok ?_) | (refine condP.dec (fun h => absurd h (by omega)) (fun _ => ?_)) | (refine condP.dec (fun _ => ?_) (fun h => absurd (by omega) h)) | (first | refine condP.dec (fun h => ?_) (fun h => ?_) | refine condP.eq (fun h => ?_) (fun h => ?_) | refine condP.ne (fun h => ?_) (fun h => ?_)) | (refine .i64 (by omega) (by omega) ?_) | (refine onSome.intro (idx_fs rfl rfl (by omega) (by omega) (fun _ => rfl)) ?_) | (refine onSome.intro (load_fs rfl (by omega) (by omega) rfl) ?_) | (refine And.intro rfl ?_))
  all_goals first | (exfalso; omega) | skip
  conv => whnf
  refine CallP.frz [7] rfl [.agg [famsI TT, .int .i64 ins, stgsI [⟨tb, ⟨su0 + u3, su1 + 900⟩, ⟨ld0, ld1⟩, bi, tp⟩]], .int .i64 0, rgI g0 g1] (.cons (.aggL (.cons (.refl _) (.cons (.refl _) (.cons (.whole (sz := 8) (es := [Stg.R ⟨tb, ⟨su0 + u3, su1 + 900⟩, ⟨ld0, ld1⟩, bi, tp⟩]) rfl (fun _ _ h => by cases h) rfl (.refl _)) .nil)))) (.cons (.refl _) (.cons (.refl _) .nil))) ?_
  repeat' ((conv => whnf); first | (refine CallP.pure p3 ?_) | (first | refine condP.dec (fun h => ?_) (fun h => ?_) | refine condP.eq (fun h => ?_) (fun h => ?_) | refine condP.ne (fun h => ?_) (fun h => ?_)) | (refine .i64 (by omega) (by omega) ?_) | (refine onSome.intro (idx_fs rfl rfl (by omega) (by omega) (fun _ => rfl)) ?_) | (refine onSome.intro (load_fs rfl (by omega) (by omega) rfl) ?_) | (refine And.intro rfl ?_))
  conv => whnf
  refine CallP.frz [8] rfl [.agg [famsI TT, .int .i64 ins, stgsI [⟨tb, ⟨su0, su1⟩, ⟨ld0 + u4, ld1 + 900⟩, bi, tp⟩]], .int .i64 0, rgI g0 g1] (.cons (.aggL (.cons (.refl _) (.cons (.refl _) (.cons (.whole (sz := 8) (es := [Stg.R ⟨tb, ⟨su0, su1⟩, ⟨ld0 + u4, ld1 + 900⟩, bi, tp⟩]) rfl (fun _ _ h => by cases h) rfl (.refl _)) .nil)))) (.cons (.refl _) (.cons (.refl _) .nil))) ?_
  repeat' ((conv => whnf); first | (refine CallP.pure p4 ?_) | (refine CallP.pure awake_ok ?_) | (refine condP.dec (fun _ => ?_) (fun h => absurd (by omega) h)) | (first | refine condP.dec (fun h => ?_) (fun h => ?_) | refine condP.eq (fun h => ?_) (fun h => ?_) | refine condP.ne (fun h => ?_) (fun h => ?_)) | (refine .i64 (by omega) (by omega) ?_) | (refine onSome.intro (idx_fs rfl rfl (by omega) (by omega) (fun _ => rfl)) ?_) | (refine onSome.intro (load_fs rfl (by omega) (by omega) rfl) ?_) | (refine And.intro rfl ?_))
  all_goals first | (exfalso; omega) | skip
  conv => whnf
  exact .intro (.bool true) (.inl rfl) rfl (.refl _)

end Go.Proofs.YtlfaglkkeahamaaGreat.I
