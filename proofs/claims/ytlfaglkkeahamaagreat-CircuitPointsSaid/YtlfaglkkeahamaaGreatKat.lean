/- Currents between lines. -/
import Derived.Test.YtlfaglkkeahamaaGreatKfam
import Derived.Test.YtlfaglkkeahamaaGreatKref
set_option linter.unusedVariables false
set_option maxHeartbeats 4000000
set_option linter.unusedSimpArgs false
namespace Go.Proofs.YtlfaglkkeahamaaGreat.I
open Go.Ideal

theorem where_ok {l : List Int} (h : LinesOk (-1000000) 1000000 l) (h0 : 1 ≤ l.length) (hl : l.length ≤ 1000) {v : Int} (v0 : -1000000 ≤ v) (v1 : v ≤ 1000000) :
    ∃ a u o, Spot l v a u o ∧ ∀ H, Ev T (.call (.func (.func 177) [] []) [sl l, .int .i64 v] H) (.call (partI a u o) H) := by
  obtain ⟨q, b, q1, q2, q3, q4, hb⟩ := bs_ok h.asc hl v
  have e1 : (l.map ei).length = l.length := List.length_map ..
  have key : ∃ x, (∃ a u o, x = partI a u o ∧ Spot l v a u o) ∧ Noname x ∧ ∀ H, Ev T (.call (.func (.func 177) [] []) [sl l, .int .i64 v] H) (.call x H) := by
    refine run_some T177 (nn_cons (sl_no _) (nn_cons (nn_int _ _) nn_none)) ?_
    conv => whnf
    refine CallP.pure hb ?_
    cases b with
    | true =>
      obtain ⟨c1, c2⟩ := q4.1 rfl
      conv => whnf
      exact .intro (partI q 0 1) (partI q 0 1) ⟨_, _, _, rfl, Spot.on q c1 c2⟩ (partI_no ..) (.inl rfl) rfl (.refl _)
    | false =>
      have hn : ¬ (q < l.length ∧ nth l q = v) := fun c => by simpa using q4.2 c
      conv => whnf
      refine condP.eq (fun hq => ?_) (fun hq => ?_)
      · obtain rfl : q = 0 := by omega
        conv => whnf
        exact .intro (partI 0 0 1) (partI 0 0 1) ⟨_, _, _, rfl, Spot.low (q3 0 (by omega) (by omega))⟩ (partI_no ..) (.inl rfl) rfl (.refl _)
      · conv => whnf
        refine condP.eq (fun hq2 => ?_) (fun hq2 => ?_)
        · obtain rfl : q = l.length := by omega
          conv => whnf
          refine .i64 (by omega) (by omega) ?_
          conv => whnf
          refine .intro (partI ((l.length - 1 : Nat) : Int) 0 1) (partI (l.length - 1) 0 1) ⟨_, _, _, rfl, Spot.high (by have := q2 (l.length - 1) (by omega); omega)⟩ (partI_no ..) (.inl rfl) rfl (frz_eq ?_)
          rw [show ((l.length : Int) - 1) = ((l.length - 1 : Nat) : Int) by omega]
        · have b1 := h.bnd (q - 1) (by omega)
          have b2 := h.bnd q (by omega)
          have c1 := q2 (q - 1) (by omega)
          have c2 := q3 q (by omega) (by omega)
          have c3 : nth l q ≠ v := fun z => hn ⟨by omega, z⟩
          have f1 : at' l ((q : Int) - 1) = nth l (q - 1) := by rw [show ((q : Int) - 1) = ((q - 1 : Nat) : Int) by omega]; rfl
          have f2 : at' l (q : Int) = nth l q := rfl
          repeat' ((conv => whnf); first | (first | refine condP.dec (fun h => ?_) (fun h => ?_) | refine condP.eq (fun h => ?_) (fun h => ?_) | refine condP.ne (fun h => ?_) (fun h => ?_)) | (refine .i64 (by omega) (by omega) ?_) | (refine onSome.intro (idx_fs rfl rfl (by omega) (by omega) (fun _ => rfl)) ?_) | (refine onSome.intro (load_fs rfl (by omega) (by omega) rfl) ?_) | (refine And.intro rfl ?_))
          conv => whnf
          have sp := Spot.mid (l := l) (v := v) (q - 1) (by omega) c1 (by rw [show q - 1 + 1 = q by omega]; omega)
          rw [show q - 1 + 1 = q by omega] at sp
          refine .intro (partI ((q - 1 : Nat) : Int) (v - nth l (q - 1)) (nth l q - nth l (q - 1))) (partI ((q : Int) - 1) (v - at' l ((q : Int) - 1)) (at' l (q : Int) - at' l ((q : Int) - 1))) ⟨_, _, _, rfl, sp⟩ (partI_no ..) (.inl rfl) rfl (frz_eq ?_)
          rw [f1, f2, show ((q : Int) - 1) = ((q - 1 : Nat) : Int) by omega]
  obtain ⟨x, ⟨a, u, o, rfl, hs⟩, _, hx⟩ := key
  exact ⟨a, u, o, hs, hx⟩

theorem At_ok (g p : List Int) (lo hi : List (List Int)) (hg : g.length ≤ 9000000000000000000) (hp : p.length ≤ 9000000000000000000) (hlo : lo.length ≤ 9000000000000000000) (hhi : hi.length ≤ 9000000000000000000) (v w : Int) (H : Heap) :
    Ev T (.call (.func (.func 141) [] []) [famI g p lo hi, .int .i64 v, .int .i64 w] H) (.call (orErr (atErr g p lo hi v w) (atLo g p lo v w) (atHi g p hi v w)) H) := by
  refine run_pure T141 (orErr_no ..) (nn_cons (famI_no ..) (nn_cons (nn_int _ _) (nn_cons (nn_int _ _) nn_none))) ?_ H
  have hC := Check_ok g p lo hi hg hp hlo hhi
  have hz := @famErr_zero g p lo hi
  have hx : ∃ r e, r = orErr (atErr g p lo hi v w) (atLo g p lo v w) (atHi g p hi v w) ∧ e = famErr g p lo hi := ⟨_, _, rfl, rfl⟩
  obtain ⟨r, e, hr, he⟩ := hx
  rw [← hr]
  unfold atErr at hr
  rw [← he] at hC hz hr
  conv => whnf
  refine CallP.pure hC ?_
  conv => whnf
  refine condP.ne (fun h => ?_) (fun h => ?_)
  · conv => whnf
    exact .intro (.tuple [rgI 0 0, .int .i64 e]) (.inl rfl) rfl (frz_eq (by rw [hr, if_pos h, orErr, if_neg h]))
  have fo := hz h
  rw [if_neg (by simpa using h)] at hr
  conv => whnf
  refine CallP.dec (voltages_ok v w) (fun hv => ?_) (fun hv => ?_)
  rotate_left
  · conv => whnf
    exact .intro (.tuple [rgI 0 0, .int .i64 2]) (.inl rfl) rfl (frz_eq (by rw [hr, if_neg (by unfold Volts at hv; exact hv)]; rfl))
  rw [if_pos (by unfold Volts at hv; exact hv)] at hr
  obtain ⟨v0, v1, w0, w1⟩ := hv
  have hg0 := fo.g0
  have hg1 := fo.g1
  have hp0 := fo.p0
  have hp1 := fo.p1
  have wg := where_ok fo.g (by omega) (by omega) v0 v1
  have wp := where_ok (fo.p.wide (by omega) (by omega)) (by omega) (by omega) (v := w) (by omega) w1
  obtain ⟨xa, xu, xo, sx, kx⟩ := wg
  obtain ⟨ya, yu, yo, sy, ky⟩ := wp
  obtain ⟨x, xb⟩ := sx.plc fo.g fo.g0 (by omega)
  obtain ⟨y, yb⟩ := sy.plc fo.p fo.p0 (by omega)
  have c1 := vat_bounds fo.cl x y
  have c2 := vat_bounds fo.ch x y
  have x0 := x.pos
  have y0 := y.pos
  have o1 : xo * yo ≤ 2000000 * 1000000 := Int.mul_le_mul (by omega) (by omega) (by omega) (by omega)
  have o0 : 0 < xo * yo := Int.mul_pos x0 y0
  rw [← Int.mul_assoc] at c1 c2
  have a1 := (at_spots fo sx sy lo).1
  have a2 := (at_spots fo sx sy hi).2
  have k1 := value_ok fo.tl (by omega) (by omega) fo.cl x y (by omega) (by omega)
  have k2 := value_ok fo.th (by omega) (by omega) fo.ch x y (by omega) (by omega)
  rw [a1, a2] at hr
  have hV : ∃ V W, V = vat lo xa xu xo ya yu yo ∧ W = vat hi xa xu xo ya yu yo := ⟨_, _, rfl, rfl⟩
  obtain ⟨V, W, hV, hW⟩ := hV
  rw [← hV] at c1 k1 hr
  rw [← hW] at c2 k2 hr
  conv => whnf
  refine CallP.pure kx ?_
  (repeat ((conv => whnf); refine And.intro rfl ?_)); conv => whnf
  refine CallP.pure ky ?_
  repeat' ((conv => whnf); first | (first | refine condP.dec (fun h => ?_) (fun h => ?_) | refine condP.eq (fun h => ?_) (fun h => ?_) | refine condP.ne (fun h => ?_) (fun h => ?_)) | (refine .i64 (by omega) (by omega) ?_) | (refine onSome.intro (idx_fs rfl rfl (by omega) (by omega) (fun _ => rfl)) ?_) | (refine onSome.intro (load_fs rfl (by omega) (by omega) rfl) ?_) | (refine And.intro rfl ?_))
  conv => whnf
  refine CallP.pure k1 ?_
  repeat' ((conv => whnf); first | (first | refine condP.dec (fun h => ?_) (fun h => ?_) | refine condP.eq (fun h => ?_) (fun h => ?_) | refine condP.ne (fun h => ?_) (fun h => ?_)) | (refine .i64 (by omega) (by omega) ?_) | (refine onSome.intro (idx_fs rfl rfl (by omega) (by omega) (fun _ => rfl)) ?_) | (refine onSome.intro (load_fs rfl (by omega) (by omega) rfl) ?_) | (refine And.intro rfl ?_))
  conv => whnf
  refine CallP.pure (floor_ok (by omega) (by omega) (by omega) (by omega)) ?_
  repeat' ((conv => whnf); first | (first | refine condP.dec (fun h => ?_) (fun h => ?_) | refine condP.eq (fun h => ?_) (fun h => ?_) | refine condP.ne (fun h => ?_) (fun h => ?_)) | (refine .i64 (by omega) (by omega) ?_) | (refine onSome.intro (idx_fs rfl rfl (by omega) (by omega) (fun _ => rfl)) ?_) | (refine onSome.intro (load_fs rfl (by omega) (by omega) rfl) ?_) | (refine And.intro rfl ?_))
  conv => whnf
  refine CallP.pure k2 ?_
  repeat' ((conv => whnf); first | (first | refine condP.dec (fun h => ?_) (fun h => ?_) | refine condP.eq (fun h => ?_) (fun h => ?_) | refine condP.ne (fun h => ?_) (fun h => ?_)) | (refine .i64 (by omega) (by omega) ?_) | (refine onSome.intro (idx_fs rfl rfl (by omega) (by omega) (fun _ => rfl)) ?_) | (refine onSome.intro (load_fs rfl (by omega) (by omega) rfl) ?_) | (refine And.intro rfl ?_))
  conv => whnf
  refine CallP.pure (ceil_ok (by omega) (by omega) (by omega) (by omega)) ?_
  repeat' ((conv => whnf); first | (first | refine condP.dec (fun h => ?_) (fun h => ?_) | refine condP.eq (fun h => ?_) (fun h => ?_) | refine condP.ne (fun h => ?_) (fun h => ?_)) | (refine .i64 (by omega) (by omega) ?_) | (refine onSome.intro (idx_fs rfl rfl (by omega) (by omega) (fun _ => rfl)) ?_) | (refine onSome.intro (load_fs rfl (by omega) (by omega) rfl) ?_) | (refine And.intro rfl ?_))
  conv => whnf
  exact .intro (.tuple [rgI _ _, .int .i64 0]) (.inl rfl) rfl (frz_eq (by rw [hr]; rfl))

end Go.Proofs.YtlfaglkkeahamaaGreat.I
