/- CurveBetween: between lines. -/
import Derived.Test.YtbomgfbfnkfamaaKwith
import Derived.Test.YtbomgfbfnkfamaaKInside
import Derived.Test.YtbomgfbfnkfamaaKmod
import Derived.Test.YtbomgfbfnkfamaaKawake
set_option linter.unusedVariables false
set_option maxHeartbeats 16000000
set_option linter.unusedSimpArgs false
namespace Go.Proofs.Ytbomgfbfnkfamaa.I
open Go.Ideal

/-- What a family has at voltages. -/
theorem at_in {g p : List Int} {lo hi : List (List Int)} (F : FamOk g p lo hi) {v w : Int} (hv : Volts v w) :
    ∃ xa xu xo ya yu yo, Spot g v xa xu xo ∧ Spot p w ya yu yo ∧ Plc g.length xa xu xo ∧ Plc p.length ya yu yo ∧
      ∀ H, Ev T (.call (.func (.func 22) [] []) [famI g p lo hi, .int .i64 v, .int .i64 w] H) (.call (.tuple [rgI (vat lo xa xu xo ya yu yo / (xo * yo)) (up (vat hi xa xu xo ya yu yo) (xo * yo)), .int .i64 0]) H) := by
  have hg1 := F.g1
  have hp1 := F.p1
  have n1 := F.tl.len
  have n2 := F.th.len
  obtain ⟨v0, v1, w0, w1⟩ := hv
  obtain ⟨xa, xu, xo, sx, _⟩ := where_ok F.g F.g0 (by omega) v0 v1
  obtain ⟨ya, yu, yo, sy, _⟩ := where_ok (F.p.wide (by omega) (by omega)) F.p0 (by omega) (v := w) (by omega) w1
  refine ⟨xa, xu, xo, ya, yu, yo, sx, sy, (sx.plc F.g F.g0 (by omega)).1, (sy.plc F.p F.p0 (by omega)).1, fun H => ?_⟩
  have k := At_ok g p lo hi (by omega) (by omega) (by omega) (by omega) v w H
  rw [(at_spots F sx sy lo).1, (at_spots F sx sy hi).2] at k
  have e : atErr g p lo hi v w = 0 := by
    unfold atErr
    rw [F.err, if_neg (by simp), if_pos ⟨v0, v1, w0, w1⟩]
  rw [e] at k
  exact k
theorem at_four {g p : List Int} {lo hi lo' hi' : List (List Int)} (F : FamOk g p lo hi) (F' : FamOk g p lo' hi') (hin : ∀ i k, i < g.length → k < p.length → vc lo i k ≤ vc lo' i k ∧ vc hi' i k ≤ vc hi i k)
    {v w v' w' : Int} (h0 : Volts v w) (h1 : Volts v' w) (h2 : Volts v w') (hv : v ≤ v') (hw : w ≤ w') : ∃ A0 B0 A1 B1 A2 B2 A3 B3 : Int,
    (∀ H, Ev T (.call (.func (.func 22) [] []) [famI g p lo hi, .int .i64 v, .int .i64 w] H) (.call (.tuple [rgI A0 B0, .int .i64 0]) H)) ∧
    (∀ H, Ev T (.call (.func (.func 22) [] []) [famI g p lo hi, .int .i64 v', .int .i64 w] H) (.call (.tuple [rgI A1 B1, .int .i64 0]) H)) ∧
    (∀ H, Ev T (.call (.func (.func 22) [] []) [famI g p lo hi, .int .i64 v, .int .i64 w'] H) (.call (.tuple [rgI A2 B2, .int .i64 0]) H)) ∧
    (∀ H, Ev T (.call (.func (.func 22) [] []) [famI g p lo' hi', .int .i64 v, .int .i64 w] H) (.call (.tuple [rgI A3 B3, .int .i64 0]) H)) ∧
    (A0 ≤ A1 ∧ B0 ≤ B1) ∧ (A0 ≤ A2 ∧ B0 ≤ B2) ∧ (A0 ≤ A3 ∧ B3 ≤ B0) := by
  have rl : Rises g.length p.length lo := ⟨fun i k a b => (F.upG i k a b).1, fun i k a b => (F.upP i k a b).1⟩
  have rh : Rises g.length p.length hi := ⟨fun i k a b => (F.upG i k a b).2, fun i k a b => (F.upP i k a b).2⟩
  obtain ⟨xa, xu, xo, ya, yu, yo, sx, sy, x, y, e0⟩ := at_in F h0
  obtain ⟨xa1, xu1, xo1, ya1, yu1, yo1, sx1, sy1, x1, y1, e1⟩ := at_in F h1
  obtain ⟨xa2, xu2, xo2, ya2, yu2, yo2, sx2, sy2, x2, y2, e2⟩ := at_in F h2
  obtain ⟨xa3, xu3, xo3, ya3, yu3, yo3, sx3, sy3, x3, y3, e3⟩ := at_in F' h0
  refine ⟨_, _, _, _, _, _, _, _, e0, e1, e2, e3, ?_, ?_, ?_⟩
  · obtain ⟨rfl, rfl, rfl⟩ := Spot.unique F.p.asc F.p0 sy sy1
    have hl := Spot.le F.g.asc F.g0 hv sx sx1
    have o0 := Int.mul_pos x.pos y.pos
    have o1 := Int.mul_pos x1.pos y.pos
    exact ⟨down_frac o0 o1 (vat_grid rl x x1 y hl), up_frac o0 o1 (vat_grid rh x x1 y hl)⟩
  · obtain ⟨rfl, rfl, rfl⟩ := Spot.unique F.g.asc F.g0 sx sx2
    have hl := Spot.le F.p.asc F.p0 hw sy sy2
    have o0 := Int.mul_pos x.pos y.pos
    have o1 := Int.mul_pos x.pos y2.pos
    exact ⟨down_frac o0 o1 (vat_plate rl x y y2 hl), up_frac o0 o1 (vat_plate rh x y y2 hl)⟩
  · obtain ⟨rfl, rfl, rfl⟩ := Spot.unique F.g.asc F.g0 sx sx3
    obtain ⟨rfl, rfl, rfl⟩ := Spot.unique F.p.asc F.p0 sy sy3
    have o0 := Int.mul_pos x.pos y.pos
    exact ⟨down_mono o0 (vat_le (fun i k a b => (hin i k a b).1) x y), up_mono o0 (vat_le (fun i k a b => (hin i k a b).2) x y)⟩
theorem CurveBetween_ok (l : List Int) (gr pl st : Int) (tube : Bool) (hl : l.length ≤ 9223372036854775807) (gr0 : -9223372036854775808 ≤ gr) (gr1 : gr ≤ 9223372036854775807) (pl0 : -9223372036854775808 ≤ pl) (pl1 : pl ≤ 9223372036854775807) (st0 : -9223372036854775808 ≤ st) (st1 : st ≤ 9223372036854775807) (H : Heap) :
    Ev T (.call (.func (.func 8) [] []) [sl l, .int .i64 gr, .int .i64 pl, .int .i64 st, .bool tube] H) (.call (.bool true) H) := by
  refine run_pure T8 (nn_bool _) (nn_cons (sl_no _) (nn_cons (nn_int _ _) (nn_cons (nn_int _ _) (nn_cons (nn_int _ _) (nn_cons (.bool _) nn_none))))) ?_ H
  obtain ⟨s, ks⟩ := NewDice_ok l hl
  obtain ⟨g, p, lo, hi, t1, M, k1⟩ := FamilyOf_ok s
  obtain ⟨lo', hi', t2, F', hin, k2⟩ := WithinFamily_ok M.fam t1 tube
  have m1 := Mod_ok gr 16000 gr0 gr1 (by omega) (by omega)
  have m2 := Mod_ok pl 350000 pl0 pl1 (by omega) (by omega)
  have m3 := Mod_ok st 40000 st0 st1 (by omega) (by omega)
  have b1 := modI_in gr (m := 16000) (by omega)
  have b2 := modI_in pl (m := 350000) (by omega)
  have b3 := modI_in st (m := 40000) (by omega)
  generalize modI gr 16000 = x1 at *
  generalize modI pl 350000 = x2 at *
  generalize modI st 40000 = x3 at *
  obtain ⟨A0, B0, A1, B1, A2, B2, A3, B3, q0, q1, q2, q3, c1, c2, c3⟩ := at_four M.fam F' hin (v := x1 - 11000) (w := x2) (v' := x1 - 11000 + x3) (w' := x2 + x3) ⟨by omega, by omega, by omega, by omega⟩ ⟨by omega, by omega, by omega, by omega⟩ ⟨by omega, by omega, by omega, by omega⟩ (by omega) (by omega)
  have ins := Inside_in M.fam F' hin
  have wi := Within_ok A3 B3 A0 B0
  rw [decide_eq_true (show A0 ≤ A3 ∧ B3 ≤ B0 by omega)] at wi
  have fam := M.fam
  clear M
  repeat' ((conv => whnf); first | (refine CallP.new ks ?_) | (refine CallP.one (fun H hb => k1 H _ hb) rfl ?_) | (refine CallP.one (fun H hb => k2 H _ hb) rfl ?_) | (refine CallP.pure m1 ?_) | (refine CallP.pure m2 ?_) | (refine CallP.pure m3 ?_) | (refine CallP.pure q0 ?_) | (refine CallP.pure q1 ?_) | (refine CallP.pure q2 ?_) | (refine CallP.pure q3 ?_) | (refine CallP.pure ins ?_) | (refine CallP.pure wi ?_) | (refine CallP.pure awake_ok ?_) | (first | refine condP.dec (fun h => ?_) (fun h => ?_) | refine condP.eq (fun h => ?_) (fun h => ?_) | refine condP.ne (fun h => ?_) (fun h => ?_)) | (refine .i64 (by omega) (by omega) ?_) | (refine onSome.intro (idx_fs rfl rfl (by omega) (by omega) (fun _ => rfl)) ?_) | (refine onSome.intro (load_fs rfl (by omega) (by omega) rfl) ?_) | (refine And.intro rfl ?_))
  all_goals first | (exfalso; omega) | skip
  conv => whnf
  exact .intro (.bool true) (.inl rfl) rfl (.refl _)
end Go.Proofs.Ytbomgfbfnkfamaa.I
