/- What the functions of the claim compute, and that it is as the claim says: part 5 of 6. -/
import Derived.Test.YtbomgfbfnkfamaaCCurveLines3
import Derived.Test.YtbomgfbfnkfamaaCCurveLinesWWords
import Derived.Test.YtbomgfbfnkfamaaCCurveLinesWMore
import Derived.OpenShut
section
namespace Go.Proofs.Ytbomgfbfnkfamaa.PAll
open Go.RowKit Go.Proofs.YtbomgfbfnkfamaaW.PrintWords Go.Proofs.YtbomgfbfnkfamaaW.PrintLast Go.Proofs.YtbomgfbfnkfamaaW.PrintMore
attribute [local go_sem] max2_int min2_int max_two min_two max_three min_three max_four min_four   -- for this text's walks alone
set_option linter.unusedVariables false
set_option linter.unusedSimpArgs false

/-! ### curve_Inside: function 44 -/
/-- Whether a place of the first family has the second family's within. -/
def insAt (t2 t3 u2 u3 : List (List Int)) (x u y v : Int × Int × Int) : Option Bool :=
  (curve_value.f u2 u.1 u.2.1 u.2.2 v.1 v.2.1 v.2.2).bind fun a => (curve_value.f t2 x.1 x.2.1 x.2.2 y.1 y.2.1 y.2.2).bind fun b =>
  if wrap64 (a * wrap64 (x.2.2 * y.2.2)) < wrap64 (b * wrap64 (u.2.2 * v.2.2)) then some false else
  (curve_value.f u3 u.1 u.2.1 u.2.2 v.1 v.2.1 v.2.2).bind fun c => (curve_value.f t3 x.1 x.2.1 x.2.2 y.1 y.2.1 y.2.2).bind fun d =>
  if wrap64 (d * wrap64 (u.2.2 * v.2.2)) < wrap64 (c * wrap64 (x.2.2 * y.2.2)) then some false else some true
def insRow (t1 u1 : List Int) (t2 t3 u2 u3 : List (List Int)) (x u : Int × Int × Int) : List Int → Option Bool
  | [] => some true
  | p :: l => (curve_where.f 100 t1 p).bind fun y => (curve_where.f 100 u1 p).bind fun v => (insAt t2 t3 u2 u3 x u y v).bind fun b => if b = true then insRow t1 u1 t2 t3 u2 u3 x u l else some false
def insTab (t0 t1 u0 u1 : List Int) (t2 t3 u2 u3 : List (List Int)) (ps : List Int) : List Int → Option Bool
  | [] => some true
  | g :: l => (curve_where.f 100 t0 g).bind fun x => (curve_where.f 100 u0 g).bind fun u => (insRow t1 u1 t2 t3 u2 u3 x u ps).bind fun b => if b = true then insTab t0 t1 u0 u1 t2 t3 u2 u3 ps l else some false
def curve_Inside.f (l0_0 : List Int) (l0_1 : List Int) (l0_2 : List (List Int)) (l0_3 : List (List Int)) (l1_0 : List Int) (l1_1 : List Int) (l1_2 : List (List Int)) (l1_3 : List (List Int)) : Option (Bool) :=
  (curve_Check.f l0_0 l0_1 l0_2 l0_3).bind fun e => if e = 0 then (curve_Check.f l1_0 l1_1 l1_2 l1_3).bind fun e' => if e' = 0 then
    (slices_Concat_int_int.f [l0_1, l1_1]).bind fun ps => (slices_Concat_int_int.f [l0_0, l1_0]).bind fun gs => insTab l0_0 l0_1 l1_0 l1_1 l0_2 l0_3 l1_2 l1_3 ps gs
    else some false else some false
theorem below_callI {w W W' : World} {n : Nat} (h : Below n w W) (hn : n ≤ W.heap.size) (k : Below W.heap.size W W') : Below n w W' := below_then h hn k
theorem pairC {W : World} {b : Nat} {A1 A2 : Option Addr} {c1 c2 : Nat} {x y : List Int} {t : TypeId} (h : W.heap[b]? = some (.cells #[.slice A1 x.length c1, .slice A2 y.length c2] t (0, 0)))
    (h1 : Kd.C (Kd.int .i64) W A1 x.length x) (g1 : x.length ≤ c1) (h2 : Kd.C (Kd.int .i64) W A2 y.length y) (g2 : y.length ≤ c2) : Kd.C (Kd.slice 3 (Kd.int .i64)) W (some ⟨b, 0, none⟩) 2 [x, y] := by
  refine ⟨rfl, by omega, fun _ => ⟨_, rfl, fun j p hj => ?_⟩⟩
  match j, hj with
  | 0, hj =>
    obtain rfl : x = p := Option.some.inj hj
    refine ⟨[.slice A1 x.length c1], rfl, ⟨A1, c1, rfl, g1, h1⟩, fun i u hu => ?_⟩
    match i, hu with
    | 0, hu => obtain rfl := Option.some.inj hu; exact (blk_cell h 0).trans rfl
    | i + 1, hu => cases hu
  | 1, hj =>
    obtain rfl : y = p := Option.some.inj hj
    refine ⟨[.slice A2 y.length c2], rfl, ⟨A2, c2, rfl, g2, h2⟩, fun i u hu => ?_⟩
    match i, hu with
    | 0, hu => obtain rfl := Option.some.inj hu; exact (blk_cell h 1).trans rfl
    | i + 1, hu => cases hu
  | j + 2, hj => cases hj
theorem drop_consI (l : List Int) (k : Nat) (h : k < l.length) : l.drop k = l.getD k 0 :: l.drop (k + 1) := by
  rw [List.drop_eq_getElem_cons h, List.getD_eq_getElem?_getD, List.getElem?_eq_getElem h]; rfl
def curve_Inside.T7 : Bool × List (List Nat × List Nat) := (true, [([], []), ([0], [0]), ([], []), ([1, 2], [1, 2]), ([], []), ([4], [4]), ([], []), ([5, 6, 3], [5, 6]), ([], []), ([], []), ([8, 3, 7, 0, 1, 2, 3, 8, 9], [3, 8]), ([9, 7, 10, 0, 1, 2, 3, 4, 5, 6, 7, 8, 9, 10], [7, 9])])
def curve_Inside.B7 : List Nat := [0, 1, 0, 7, 0, 16, 0, 127, 0, 0, 1023, 2047]
theorem curve_Inside.tab7 : rtab .any (opsOf Try.f44 7) = curve_Inside.T7 := by kernel_rfl
theorem curve_Inside.bits7 : waitsOk curve_Inside.T7.2 curve_Inside.B7 = true := by kernel_rfl
theorem curve_Inside.tab11 : rtab .any (opsOf Try.f44 11) = curve_Inside.T7 := by kernel_rfl
theorem curve_Inside.bits11 : waitsOk curve_Inside.T7.2 curve_Inside.B7 = true := by kernel_rfl
def curve_Inside.T13 : Bool × List (List Nat × List Nat) := (true, [([], []), ([0], [0]), ([], []), ([], []), ([1, 2, 3], [1, 2, 3]), ([], []), ([4, 5], [4, 5]), ([], []), ([7], [7]), ([], []), ([], []), ([8, 9, 10, 4], [8, 9, 10]), ([], []), ([11, 12], [11, 12]), ([6, 13], [6, 13]), ([14, 11], [14]), ([15], [15]), ([16, 15], [15, 16]), ([15], [15]), ([15], [15]), ([17, 18, 19, 15, 15], [15, 17, 18, 19]), ([15], [15]), ([20, 21, 15], [15, 20, 21]), ([15], [15]), ([23, 15], [15, 23]), ([15], [15]), ([15], [15]), ([24, 25, 26, 20, 15], [15, 24, 25, 26]), ([15], [15]), ([27, 28, 15], [15, 27, 28]), ([22, 29, 15], [15, 22, 29]), ([15, 30], [15, 30])])
def curve_Inside.B13 : List Nat := [0, 1, 0, 0, 15, 0, 63, 0, 128, 0, 0, 1951, 0, 8095, 16383, 32767, 65535, 131071, 65535, 65535, 1048575, 65535, 4194303, 65535, 8454143, 65535, 65535, 127926271, 65535, 530579455, 1073741823, 2147483647]
theorem curve_Inside.tab13 : rtab .any (opsOf Try.f44 13) = curve_Inside.T13 := by kernel_rfl
theorem curve_Inside.bits13 : waitsOk curve_Inside.T13.2 curve_Inside.B13 = true := by kernel_rfl
set_option maxHeartbeats 8000000 in
set_option maxRecDepth 100000 in
theorem curve_Inside.calls (A0_0 : Option Addr) (c0_0 : Nat) (l0_0 : List Int) (A0_1 : Option Addr) (c0_1 : Nat) (l0_1 : List Int) (A0_2 : Option Addr) (c0_2 : Nat) (l0_2 : List (List Int)) (A0_3 : Option Addr) (c0_3 : Nat) (l0_3 : List (List Int)) (A1_0 : Option Addr) (c1_0 : Nat) (l1_0 : List Int) (A1_1 : Option Addr) (c1_1 : Nat) (l1_1 : List Int) (A1_2 : Option Addr) (c1_2 : Nat) (l1_2 : List (List Int)) (A1_3 : Option Addr) (c1_3 : Nat) (l1_3 : List (List Int)) (r : Bool) (w : World) (hr0_0 : Kd.C (Kd.int .i64) w A0_0 l0_0.length l0_0) (hc0_0 : l0_0.length ≤ c0_0) (hr0_1 : Kd.C (Kd.int .i64) w A0_1 l0_1.length l0_1) (hc0_1 : l0_1.length ≤ c0_1) (hr0_2 : Kd.C (Kd.slice 3 (Kd.int .i64)) w A0_2 l0_2.length l0_2) (hc0_2 : l0_2.length ≤ c0_2) (hr0_3 : Kd.C (Kd.slice 3 (Kd.int .i64)) w A0_3 l0_3.length l0_3) (hc0_3 : l0_3.length ≤ c0_3) (hr1_0 : Kd.C (Kd.int .i64) w A1_0 l1_0.length l1_0) (hc1_0 : l1_0.length ≤ c1_0) (hr1_1 : Kd.C (Kd.int .i64) w A1_1 l1_1.length l1_1) (hc1_1 : l1_1.length ≤ c1_1) (hr1_2 : Kd.C (Kd.slice 3 (Kd.int .i64)) w A1_2 l1_2.length l1_2) (hc1_2 : l1_2.length ≤ c1_2) (hr1_3 : Kd.C (Kd.slice 3 (Kd.int .i64)) w A1_3 l1_3.length l1_3) (hc1_3 : l1_3.length ≤ c1_3) (h : curve_Inside.f l0_0 l0_1 l0_2 l0_3 l1_0 l1_1 l1_2 l1_3 = some r) :
    Calls Try.prog 44 #[.agg #[.slice A0_0 l0_0.length c0_0, .slice A0_1 l0_1.length c0_1, .slice A0_2 l0_2.length c0_2, .slice A0_3 l0_3.length c0_3], .agg #[.slice A1_0 l1_0.length c1_0, .slice A1_1 l1_1.length c1_1, .slice A1_2 l1_2.length c1_2, .slice A1_3 l1_3.length c1_3]] w fun e w' => e = .returned (.bool r) ∧ Below w.heap.size w w' := by
  unfold curve_Inside.f at h
  have n0 : l0_0.length ≤ 9223372036854775807 := hr0_0.2.1
  have n1 : l0_1.length ≤ 9223372036854775807 := hr0_1.2.1
  obtain ⟨e1, he1, h⟩ := Option.bind_eq_some_iff.mp h
  have HC1 := Aside0.mk (fun W (hb : Below w.heap.size w W) => curve_Check.calls A0_0 c0_0 l0_0 A0_1 c0_1 l0_1 A0_2 c0_2 l0_2 A0_3 c0_3 l0_3 e1 W (Kd.C_below hr0_0 hb) hc0_0 (Kd.C_below hr0_1 hb) hc0_1 (Kd.C_below hr0_2 hb) hc0_2 (Kd.C_below hr0_3 hb) hc0_3 he1)
  have HWh0 := Aside0.mk (fun W (hb : Below w.heap.size w W) v a b c h => curve_where.calls 100 A0_0 c0_0 l0_0 v a b c W (Kd.C_below hr0_0 hb) hc0_0 h)
  have HWh1 := Aside0.mk (fun W (hb : Below w.heap.size w W) v a b c h => curve_where.calls 100 A0_1 c0_1 l0_1 v a b c W (Kd.C_below hr0_1 hb) hc0_1 h)
  have HWh2 := Aside0.mk (fun W (hb : Below w.heap.size w W) v a b c h => curve_where.calls 100 A1_0 c1_0 l1_0 v a b c W (Kd.C_below hr1_0 hb) hc1_0 h)
  have HWh3 := Aside0.mk (fun W (hb : Below w.heap.size w W) v a b c h => curve_where.calls 100 A1_1 c1_1 l1_1 v a b c W (Kd.C_below hr1_1 hb) hc1_1 h)
  have HV0 := Aside0.mk (fun W (hb : Below w.heap.size w W) a b c d e f r h => curve_value.calls A0_2 c0_2 l0_2 a b c d e f r W (Kd.C_below hr0_2 hb) hc0_2 h)
  have HV1 := Aside0.mk (fun W (hb : Below w.heap.size w W) a b c d e f r h => curve_value.calls A0_3 c0_3 l0_3 a b c d e f r W (Kd.C_below hr0_3 hb) hc0_3 h)
  have HV2 := Aside0.mk (fun W (hb : Below w.heap.size w W) a b c d e f r h => curve_value.calls A1_2 c1_2 l1_2 a b c d e f r W (Kd.C_below hr1_2 hb) hc1_2 h)
  have HV3 := Aside0.mk (fun W (hb : Below w.heap.size w W) a b c d e f r h => curve_value.calls A1_3 c1_3 l1_3 a b c d e f r W (Kd.C_below hr1_3 hb) hc1_3 h)
  by_cases z1 : e1 = 0
  · subst z1
    rw [if_pos rfl] at h
    obtain ⟨e2, he2, h⟩ := Option.bind_eq_some_iff.mp h
    have HC2 := Aside0.mk (fun W (hb : Below w.heap.size w W) => curve_Check.calls A1_0 c1_0 l1_0 A1_1 c1_1 l1_1 A1_2 c1_2 l1_2 A1_3 c1_3 l1_3 e2 W (Kd.C_below hr1_0 hb) hc1_0 (Kd.C_below hr1_1 hb) hc1_1 (Kd.C_below hr1_2 hb) hc1_2 (Kd.C_below hr1_3 hb) hc1_3 he2)
    by_cases z2 : e2 = 0
    · subst z2
      rw [if_pos rfl] at h
      obtain ⟨ps, hps, h⟩ := Option.bind_eq_some_iff.mp h
      obtain ⟨gs, hgs, h⟩ := Option.bind_eq_some_iff.mp h
      have HP := Aside0.mk (fun W (hb : Below w.heap.size w W) b t hh => slices_Concat_int_int.calls (some ⟨b, 0, none⟩) 2 [l0_1, l1_1] ps W (pairC (t := t) hh (Kd.C_below hr0_1 hb) hc0_1 (Kd.C_below hr1_1 hb) hc1_1) (Nat.le_refl _) hps)
      have HG := Aside0.mk (fun W (hb : Below w.heap.size w W) b t hh => slices_Concat_int_int.calls (some ⟨b, 0, none⟩) 2 [l0_0, l1_0] gs W (pairC (t := t) hh (Kd.C_below hr0_0 hb) hc0_0 (Kd.C_below hr1_0 hb) hc1_0) (Nat.le_refl _) hgs)
      have H := Aside0.mk h
      clear h hr0_0 hr0_1 hr0_2 hr0_3 hr1_0 hr1_1 hr1_2 hr1_3 hps hgs he1 he2
      go_enter Try.func44, Try.ntmps44
      go_upto_region 1 with (fail)
      generalize hW : ((w.alloc (Obj.cells #[Value.slice A0_0 l0_0.length c0_0, Value.slice A0_1 l0_1.length c0_1, Value.slice A0_2 l0_2.length c0_2, Value.slice A0_3 l0_3.length c0_3] 25)).alloc (Obj.cells #[Value.slice A1_0 l1_0.length c1_0, Value.slice A1_1 l1_1.length c1_1, Value.slice A1_2 l1_2.length c1_2, Value.slice A1_3 l1_3.length c1_3] 25)) = W2
      have hs2 : w.heap.size ≤ W2.heap.size := by subst hW; simp; omega
      have HB2 : Aside0 (Below w.heap.size w W2) := ⟨by subst hW; exact below_alloc (below_alloc (Below.refl _ _) _) _⟩
      have HCe : Aside0 (∀ W, Below W2.heap.size W2 W → W.cell? ⟨w.heap.size, 0, none⟩ = some (.slice A0_0 l0_0.length c0_0) ∧ W.cell? ⟨w.heap.size, 1, none⟩ = some (.slice A0_1 l0_1.length c0_1) ∧ W.cell? ⟨w.heap.size, 2, none⟩ = some (.slice A0_2 l0_2.length c0_2) ∧ W.cell? ⟨w.heap.size, 3, none⟩ = some (.slice A0_3 l0_3.length c0_3) ∧ W.cell? ⟨w.heap.size + 1, 0, none⟩ = some (.slice A1_0 l1_0.length c1_0) ∧ W.cell? ⟨w.heap.size + 1, 1, none⟩ = some (.slice A1_1 l1_1.length c1_1) ∧ W.cell? ⟨w.heap.size + 1, 2, none⟩ = some (.slice A1_2 l1_2.length c1_2) ∧ W.cell? ⟨w.heap.size + 1, 3, none⟩ = some (.slice A1_3 l1_3.length c1_3)) := ⟨by
        intro W hb
        subst hW
        refine ⟨?_, ?_, ?_, ?_, ?_, ?_, ?_, ?_⟩ <;> exact pw_cell_below hb (by simp)⟩
      generalize w.heap.size + 1 = g1 at HCe ⊢
      have ⟨x0, x1, x2, x3, x4, x5, x6, x7⟩ := HCe.out W2 (Below.refl _ _)
      clear hW
      go_wp2_with (first | (go_at_call 103; (refine (HG.out (w5.alloc (Obj.cells #[Value.slice A0_0 l0_0.length c0_0, Value.slice A1_0 l1_0.length c1_0] 22)) (below_alloc (below_callI HB2.out hs2 HB5.out) _) _ _ (blk_new w5 _)).mono ?_); rintro e w6 ⟨v6, rfl, ho6, hb6⟩; (obtain ⟨A6, c6, hv6, hc6, hC6⟩ := Kd.R_reads ho6); subst hv6; (have HC6 := Aside0.mk hC6); (have HB6 := Aside0.mk (below_callI (below_alloc HB5.out _) (below_alloc HB5.out _).size hb6)); (have hB56 := Aside0.mk (below_callI (below_alloc (Below.refl w5.heap.size w5) _) (below_alloc (Below.refl w5.heap.size w5) _).size hb6)); clear ho6 hC6 hb6; (obtain ⟨y0, y1, y2, y3, y4, y5, y6, y7⟩ := HCe.out w6 HB6.out)) | (go_at_call 103; (refine (HP.out (w4.alloc (Obj.cells #[Value.slice A0_1 l0_1.length c0_1, Value.slice A1_1 l1_1.length c1_1] 22)) (below_alloc (below_callI HB2.out hs2 HB4.out) _) _ _ (blk_new w4 _)).mono ?_); rintro e w5 ⟨v5, rfl, ho5, hb5⟩; (obtain ⟨A5, c5, hv5, hc5, hC5⟩ := Kd.R_reads ho5); subst hv5; (have HC5 := Aside0.mk hC5); (have HB5 := Aside0.mk (below_callI (below_alloc HB4.out _) (below_alloc HB4.out _).size hb5)); clear ho5 hC5 hb5; (obtain ⟨q0, q1, q2, q3, q4, q5, q6, q7⟩ := HCe.out w5 HB5.out)) | (go_at_call 37; (refine (HC2.out _ HB3.out).mono ?_); rintro e w4 ⟨rfl, hb⟩; (have HB4 := Aside0.mk (below_callI hb3 hs3 hb)); (obtain ⟨p0, p1, p2, p3, p4, p5, p6, p7⟩ := HCe.out w4 HB4.out)) | (go_at_call 37; (refine (HC1.out _ HB2.out).mono ?_); rintro e w3 ⟨rfl, hb3⟩; (have hs3 := hb3.size); (have HB3 := Aside0.mk (below_callI HB2.out hs2 hb3)); (obtain ⟨o0, o1, o2, o3, o4, o5, o6, o7⟩ := HCe.out w3 hb3)) | fail)
      clear x0 x1 x2 x3 x4 x5 x6 x7 o0 o1 o2 o3 o4 o5 o6 o7 p0 p1 p2 p3 p4 p5 p6 p7 q0 q1 q2 q3 q4 q5 q6 q7
      have HC5 := Aside0.mk (Kd.C_below HC5.out hB56.out)
      have HBw := Aside0.mk (below_callI HB2.out hs2 HB6.out)
      have hs6 : w.heap.size ≤ w6.heap.size := Nat.le_trans hs2 HB6.out.size
      have mg : gs.length ≤ 9223372036854775807 := HC6.out.2.1
      have mp : ps.length ≤ 9223372036854775807 := HC5.out.2.1
      clear HB3 HB4 HB5 HB6 hB56 hb3 hs3 HB2 HC1 HC2 HP HG HCe
      go_loopw [37] (fun ix wr => ∃ k : Nat, k ≤ gs.length ∧ ix = .int .i64 k ∧ Aside0 (insTab l0_0 l0_1 l1_0 l1_1 l0_2 l0_3 l1_2 l1_3 ps (gs.drop k) = some r) ∧ Aside0 (Below w6.heap.size w6 wr)) (fun ix _ => gs.length - (intOf ix).toNat)
      case atStart => exact ⟨0, Nat.zero_le _, rfl, ⟨H.out⟩, ⟨Below.refl _ _⟩⟩
      case round =>
        obtain ⟨k, hk, rfl, hT, hB⟩ := hrel
        by_cases hlt : k < gs.length
        · have hT1 := hT.out
          rw [drop_consI _ _ hlt, insTab] at hT1
          obtain ⟨⟨xa, xu, xo⟩, ex, hT1⟩ := Option.bind_eq_some_iff.mp hT1
          obtain ⟨⟨ua, uu, uo⟩, eu, hT1⟩ := Option.bind_eq_some_iff.mp hT1
          obtain ⟨b, eb, hT1⟩ := Option.bind_eq_some_iff.mp hT1
          have EX := Aside0.mk ex
          have EU := Aside0.mk eu
          have EB := Aside0.mk eb
          have HT1 := Aside0.mk hT1
          clear ex eu eb hT1 hT
          obtain ⟨ag, hag, hcell⟩ := Kd.at_int (Kd.C_below HC6.out hB.out) (k : Int) (by omega) (by omega)
          subst hag
          have hcell' : wr.cell? (ag.add k) = some (.int .i64 (gs.getD k 0)) := hcell
          clear hcell
          generalize gs.getD k 0 = gv at *
          have hk0 : (0 : Int) ≤ k := by omega
          have hk1 : (k : Int) < gs.length := by omega
          have hwk : IntKind.i64.wrap ((k : Int) + 1) = k + 1 := IntWalk.i64_in _ (by omega)
          have f0 := pw_cell_below hB.out y0
          have f4 := pw_cell_below hB.out y4
          have HBr : Aside0 (Below w.heap.size w wr) := ⟨below_callI HBw.out hs6 hB.out⟩
          have hsr : w.heap.size ≤ wr.heap.size := HBr.out.size
          go_upto_region 8 with (fail)
          refine start_ (n := 12) (S := fun w' => Below wr.heap.size wr w') (ds := []) #[false, false, false, false, false, false, false, false, false, false, false, false] (by kernel_rfl) rfl rfl (below_drew1 (Below.refl _ _)) (fun hHeld => ?_)
          refine with_tabW curve_Inside.tab7 curve_Inside.bits7 (fun HT_ HW_ => ?_)
          generalize wr.drew = w39 at hHeld ⊢
          refine pure_ (i := 0) (N := some 41) (v := ?_) (a' := ?_) #[true, false, false, false, false, false, false, false, false, false, false, false] rfl rfl (any_of HT_.out (by kernel_rfl)) (fun _ _ _ h => h) (Or.inl ⟨by rfl, ?_⟩) ?_ ?_
          rotate_left
          · intro w'
            go_simp
            with_reducible rfl
          rotate_left
          · simp only [Act.put, List.setIfInBounds_toArray, List.set_cons_zero, List.set_cons_succ, i64_w, i32_w]
            rfl
          refine pure_ (i := 2) (N := some 43) (v := ?_) (a' := ?_) #[true, false, true, false, false, false, false, false, false, false, false, false] rfl rfl (any_of HT_.out (by kernel_rfl)) (fun _ _ _ h => h) (Or.inl ⟨by rfl, ?_⟩) ?_ ?_
          rotate_left
          · intro w'
            go_simp
            with_reducible rfl
          rotate_left
          · simp only [Act.put, List.setIfInBounds_toArray, List.set_cons_zero, List.set_cons_succ, i64_w, i32_w]
            rfl
          refine pure_ (i := 4) (N := some 45) (v := ?_) (a' := ?_) #[true, false, true, false, true, false, false, false, false, false, false, false] rfl rfl (any_of HT_.out (by kernel_rfl)) (fun _ _ _ h => h) (Or.inl ⟨by rfl, ?_⟩) ?_ ?_
          rotate_left
          · intro w'
            go_simp
            with_reducible rfl
          rotate_left
          · simp only [Act.put, List.setIfInBounds_toArray, List.set_cons_zero, List.set_cons_succ, i64_w, i32_w]
            rfl
          refine pure_ (i := 6) (N := some 47) (v := ?_) (a' := ?_) #[true, false, true, false, true, false, true, false, false, false, false, false] rfl rfl (any_of HT_.out (by kernel_rfl)) (fun _ _ _ h => h) (Or.inl ⟨by rfl, ?_⟩) ?_ ?_
          rotate_left
          · intro w'
            go_simp
            with_reducible rfl
          rotate_left
          · simp only [Act.put, List.setIfInBounds_toArray, List.set_cons_zero, List.set_cons_succ, i64_w, i32_w]
            rfl
          refine take_ (i := 1) (N := some 42) (v := ?_) (a' := ?_) #[true, true, true, false, true, false, true, false, false, false, false, false] rfl rfl (take_ofW HT_.out HW_.out (by kernel_rfl)) (fun _ _ _ h => h) (Or.inl ⟨by rfl, ?_⟩) hHeld ?_ ?_
          rotate_left
          · intro w' hS_
            have s0 := pw_cell_below hS_ f0
            have s4 := pw_cell_below hS_ f4
            go_simp
            with_reducible rfl
          rotate_left
          · simp only [Act.put, List.setIfInBounds_toArray, List.set_cons_zero, List.set_cons_succ, i64_w, i32_w]
            rfl
          refine take_ (i := 5) (N := some 46) (v := ?_) (a' := ?_) #[true, true, true, false, true, true, true, false, false, false, false, false] rfl rfl (take_ofW HT_.out HW_.out (by kernel_rfl)) (fun _ _ _ h => h) (Or.inl ⟨by rfl, ?_⟩) hHeld ?_ ?_
          rotate_left
          · intro w' hS_
            have s0 := pw_cell_below hS_ f0
            have s4 := pw_cell_below hS_ f4
            go_simp
            with_reducible rfl
          rotate_left
          · simp only [Act.put, List.setIfInBounds_toArray, List.set_cons_zero, List.set_cons_succ, i64_w, i32_w]
            rfl
          refine join_ (σ := Nat × Nat) 2 #[true, true, true, true, true, true, true, true, true, true, false, false] (fun s_ => [(44, .agg #[.int .i64 xa, .int .i64 xu, .int .i64 xo]), (48, .agg #[.int .i64 ua, .int .i64 uu, .int .i64 uo]), (8, .pointer (some ⟨s_.1, 0, none⟩)), (9, .pointer (some ⟨s_.2, 0, none⟩))]) (fun s_ w' => Below wr.heap.size wr w' ∧ w'.heap[s_.1]? = some (.cells #[.int .i64 0, .int .i64 0, .int .i64 0] 86 (0, 0)) ∧ wr.heap.size ≤ s_.1 ∧ w'.heap[s_.2]? = some (.cells #[.int .i64 0, .int .i64 0, .int .i64 0] 86 (0, 0)) ∧ wr.heap.size ≤ s_.2 ∧ s_.1 ≠ s_.2) ?_ ?_
          rotate_left
          · intro hJ_3_7_8_9
            refine join_ (σ := Nat) 3 #[true, true, true, true, true, true, true, true, true, false, false, false] (fun s_ => [(44, .agg #[.int .i64 xa, .int .i64 xu, .int .i64 xo]), (48, .agg #[.int .i64 ua, .int .i64 uu, .int .i64 uo]), (8, .pointer (some ⟨s_, 0, none⟩))]) (fun s_ w' => Below wr.heap.size wr w' ∧ w'.heap[s_]? = some (.cells #[.int .i64 0, .int .i64 0, .int .i64 0] 86 (0, 0)) ∧ wr.heap.size ≤ s_) ?_ ?_
            rotate_left
            · intro hJ_3_7_8
              refine join_ (σ := Nat) 3 #[true, true, true, true, true, true, true, true, false, true, false, false] (fun s_ => [(44, .agg #[.int .i64 xa, .int .i64 xu, .int .i64 xo]), (48, .agg #[.int .i64 ua, .int .i64 uu, .int .i64 uo]), (9, .pointer (some ⟨s_, 0, none⟩))]) (fun s_ w' => Below wr.heap.size wr w' ∧ w'.heap[s_]? = some (.cells #[.int .i64 0, .int .i64 0, .int .i64 0] 86 (0, 0)) ∧ wr.heap.size ≤ s_) ?_ ?_
              rotate_left
              · intro hJ_3_7_9
                refine join_ (σ := Nat × Nat) 3 #[true, true, true, true, true, true, true, false, true, true, false, false] (fun s_ => [(44, .agg #[.int .i64 xa, .int .i64 xu, .int .i64 xo]), (8, .pointer (some ⟨s_.1, 0, none⟩)), (9, .pointer (some ⟨s_.2, 0, none⟩))]) (fun s_ w' => Below wr.heap.size wr w' ∧ w'.heap[s_.1]? = some (.cells #[.int .i64 0, .int .i64 0, .int .i64 0] 86 (0, 0)) ∧ wr.heap.size ≤ s_.1 ∧ w'.heap[s_.2]? = some (.cells #[.int .i64 0, .int .i64 0, .int .i64 0] 86 (0, 0)) ∧ wr.heap.size ≤ s_.2 ∧ s_.1 ≠ s_.2) ?_ ?_
                rotate_left
                · intro hJ_3_8_9
                  refine join_ (σ := Unit) 4 #[true, true, true, true, true, true, true, true, false, false, false, false] (fun s_ => [(44, .agg #[.int .i64 xa, .int .i64 xu, .int .i64 xo]), (48, .agg #[.int .i64 ua, .int .i64 uu, .int .i64 uo])]) (fun s_ w' => Below wr.heap.size wr w') ?_ ?_
                  rotate_left
                  · intro hJ_3_7
                    refine join_ (σ := Nat) 4 #[true, true, true, true, true, true, true, false, true, false, false, false] (fun s_ => [(44, .agg #[.int .i64 xa, .int .i64 xu, .int .i64 xo]), (8, .pointer (some ⟨s_, 0, none⟩))]) (fun s_ w' => Below wr.heap.size wr w' ∧ w'.heap[s_]? = some (.cells #[.int .i64 0, .int .i64 0, .int .i64 0] 86 (0, 0)) ∧ wr.heap.size ≤ s_) ?_ ?_
                    rotate_left
                    · intro hJ_3_8
                      refine join_ (σ := Nat) 4 #[true, true, true, true, true, true, true, false, false, true, false, false] (fun s_ => [(44, .agg #[.int .i64 xa, .int .i64 xu, .int .i64 xo]), (9, .pointer (some ⟨s_, 0, none⟩))]) (fun s_ w' => Below wr.heap.size wr w' ∧ w'.heap[s_]? = some (.cells #[.int .i64 0, .int .i64 0, .int .i64 0] 86 (0, 0)) ∧ wr.heap.size ≤ s_) ?_ ?_
                      rotate_left
                      · intro hJ_3_9
                        refine join_ (σ := Nat × Nat) 4 #[true, true, true, false, true, true, true, false, true, true, false, false] (fun s_ => [(8, .pointer (some ⟨s_.1, 0, none⟩)), (9, .pointer (some ⟨s_.2, 0, none⟩))]) (fun s_ w' => Below wr.heap.size wr w' ∧ w'.heap[s_.1]? = some (.cells #[.int .i64 0, .int .i64 0, .int .i64 0] 86 (0, 0)) ∧ wr.heap.size ≤ s_.1 ∧ w'.heap[s_.2]? = some (.cells #[.int .i64 0, .int .i64 0, .int .i64 0] 86 (0, 0)) ∧ wr.heap.size ≤ s_.2 ∧ s_.1 ≠ s_.2) ?_ ?_
                        rotate_left
                        · intro hJ_8_9
                          refine join_ (σ := Unit) 5 #[true, true, true, true, true, true, true, false, false, false, false, false] (fun s_ => [(44, .agg #[.int .i64 xa, .int .i64 xu, .int .i64 xo])]) (fun s_ w' => Below wr.heap.size wr w') ?_ ?_
                          rotate_left
                          · intro hJ_3
                            refine join_ (σ := Nat) 5 #[true, true, true, false, true, true, true, false, true, false, false, false] (fun s_ => [(8, .pointer (some ⟨s_, 0, none⟩))]) (fun s_ w' => Below wr.heap.size wr w' ∧ w'.heap[s_]? = some (.cells #[.int .i64 0, .int .i64 0, .int .i64 0] 86 (0, 0)) ∧ wr.heap.size ≤ s_) ?_ ?_
                            rotate_left
                            · intro hJ_8
                              refine join_ (σ := Nat) 5 #[true, true, true, false, true, true, true, false, false, true, false, false] (fun s_ => [(9, .pointer (some ⟨s_, 0, none⟩))]) (fun s_ w' => Below wr.heap.size wr w' ∧ w'.heap[s_]? = some (.cells #[.int .i64 0, .int .i64 0, .int .i64 0] 86 (0, 0)) ∧ wr.heap.size ≤ s_) ?_ ?_
                              rotate_left
                              · intro hJ_9
                                have hS := hHeld
                                refine three_ (i := 3) (j := 8) (k := 9) (Ni := some 44) (Nj := some 8) (Nk := some 9) #[true, true, true, true, true, true, true, false, false, false, false, false] #[true, true, true, false, true, true, true, false, true, false, false, false] #[true, true, true, false, true, true, true, false, false, true, false, false] rfl rfl rfl rfl rfl rfl (three_of HT_.out (by kernel_rfl)) (by decide) (by decide) (by decide) (fun K hK => ?_) (fun K hK => ?_) (fun K hK => ?_)
                                · skip
                                  refine goes_ Try.func68 (by kernel_rfl) rfl #[.slice A0_0 l0_0.length c0_0, .int .i64 gv] (by rfl) rfl rfl (by (try simp only [List.map_toArray, List.map_cons, List.map_nil]); first | done | rfl) ?_
                                  refine (HWh0.out _ (below_callI HBr.out hsr hS) gv xa xu xo EX.out).mono ?_
                                  rintro e w40 ⟨rfl, hb⟩
                                  refine ⟨_, rfl, ?_⟩
                                  have hS2 := below_callI hS hS.size hb
                                  refine hK.out _ _ hS2 (fun hHeld2 => ?_)
                                  clear hK K
                                  refine norm_ (a' := ?_) ?_ ?_
                                  rotate_left
                                  · show Act.put _ (some 44) _ = _
                                    simp only [Act.put, List.setIfInBounds_toArray, List.set_cons_zero, List.set_cons_succ, i64_w, i32_w]
                                    rfl
                                  exact norm_ (by first | (simp only [putAll, Act.put, List.setIfInBounds_toArray, List.set_cons_zero, List.set_cons_succ]; done) | (simp only [putAll, Act.put, List.setIfInBounds_toArray, List.set_cons_zero, List.set_cons_succ]; rfl)) (hJ_3 () _ hS2)
                                · skip
                                  refine box_step ?hg (N := 8) ?hd (cs := #[.int .i64 0, .int .i64 0, .int .i64 0]) (t := 86) ?hr ?_; (case hd => rfl); (case hg => rfl); (case hr => first | (go_simp; done) | (go_simp; rfl))
                                  intro p8 hg w40 hbox hb
                                  have l8 : wr.heap.size ≤ p8 := by rw [hg]; exact hS.size
                                  have hS2 := below_callI hS hS.size hb
                                  refine hK.out _ _ hS2 (fun hHeld2 => ?_)
                                  clear hK K
                                  refine norm_ (a' := ?_) ?_ ?_
                                  rotate_left
                                  · show Act.put _ (some 8) _ = _
                                    simp only [Act.put, List.setIfInBounds_toArray, List.set_cons_zero, List.set_cons_succ, i64_w, i32_w]
                                    rfl
                                  exact norm_ (by first | (simp only [putAll, Act.put, List.setIfInBounds_toArray, List.set_cons_zero, List.set_cons_succ]; done) | (simp only [putAll, Act.put, List.setIfInBounds_toArray, List.set_cons_zero, List.set_cons_succ]; rfl)) (hJ_8 p8 _ ⟨hS2, hbox, l8⟩)
                                · skip
                                  refine box_step ?hg (N := 9) ?hd (cs := #[.int .i64 0, .int .i64 0, .int .i64 0]) (t := 86) ?hr ?_; (case hd => rfl); (case hg => rfl); (case hr => first | (go_simp; done) | (go_simp; rfl))
                                  intro p9 hg w40 hbox hb
                                  have l9 : wr.heap.size ≤ p9 := by rw [hg]; exact hS.size
                                  have hS2 := below_callI hS hS.size hb
                                  refine hK.out _ _ hS2 (fun hHeld2 => ?_)
                                  clear hK K
                                  refine norm_ (a' := ?_) ?_ ?_
                                  rotate_left
                                  · show Act.put _ (some 9) _ = _
                                    simp only [Act.put, List.setIfInBounds_toArray, List.set_cons_zero, List.set_cons_succ, i64_w, i32_w]
                                    rfl
                                  exact norm_ (by first | (simp only [putAll, Act.put, List.setIfInBounds_toArray, List.set_cons_zero, List.set_cons_succ]; done) | (simp only [putAll, Act.put, List.setIfInBounds_toArray, List.set_cons_zero, List.set_cons_succ]; rfl)) (hJ_9 p9 _ ⟨hS2, hbox, l9⟩)
                              · skip
                                rintro p9 w41 ⟨hS, k9, l9⟩
                                replace k9 : w41.heap[p9]? = some (.cells #[.int .i64 0, .int .i64 0, .int .i64 0] 86 (0, 0)) := k9
                                replace l9 : wr.heap.size ≤ p9 := l9
                                refine norm_ (a' := ?_) ?_ ?_
                                rotate_left
                                · simp only [putAll, Act.put, List.setIfInBounds_toArray, List.set_cons_zero, List.set_cons_succ]
                                  rfl
                                refine two_ (i := 3) (j := 8) (Ni := some 44) (Nj := some 8) #[true, true, true, true, true, true, true, false, false, true, false, false] #[true, true, true, false, true, true, true, false, true, true, false, false] rfl rfl rfl rfl (two_of HT_.out (by kernel_rfl)) (by decide) (by decide) (fun K hK => ?_) (fun K hK => ?_)
                                · skip
                                  refine goes_ Try.func68 (by kernel_rfl) rfl #[.slice A0_0 l0_0.length c0_0, .int .i64 gv] (by rfl) rfl rfl (by (try simp only [List.map_toArray, List.map_cons, List.map_nil]); first | done | rfl) ?_
                                  refine (HWh0.out _ (below_callI HBr.out hsr hS) gv xa xu xo EX.out).mono ?_
                                  rintro e w40 ⟨rfl, hb⟩
                                  refine ⟨_, rfl, ?_⟩
                                  have hS2 := below_callI hS hS.size hb
                                  refine hK.out _ _ hS2 (fun hHeld2 => ?_)
                                  clear hK K
                                  refine norm_ (a' := ?_) ?_ ?_
                                  rotate_left
                                  · show Act.put _ (some 44) _ = _
                                    simp only [Act.put, List.setIfInBounds_toArray, List.set_cons_zero, List.set_cons_succ, i64_w, i32_w]
                                    rfl
                                  exact norm_ (by first | (simp only [putAll, Act.put, List.setIfInBounds_toArray, List.set_cons_zero, List.set_cons_succ]; done) | (simp only [putAll, Act.put, List.setIfInBounds_toArray, List.set_cons_zero, List.set_cons_succ]; rfl)) (hJ_3_9 p9 _ ⟨hS2, blk_below k9 hb, l9⟩)
                                · skip
                                  refine box_step ?hg (N := 8) ?hd (cs := #[.int .i64 0, .int .i64 0, .int .i64 0]) (t := 86) ?hr ?_; (case hd => rfl); (case hg => rfl); (case hr => first | (go_simp; done) | (go_simp; rfl))
                                  intro p8 hg w40 hbox hb
                                  have l8 : wr.heap.size ≤ p8 := by rw [hg]; exact hS.size
                                  have ne9 : p9 ≠ p8 := by rw [hg]; exact Nat.ne_of_lt (blk_lt k9)
                                  have hS2 := below_callI hS hS.size hb
                                  refine hK.out _ _ hS2 (fun hHeld2 => ?_)
                                  clear hK K
                                  refine norm_ (a' := ?_) ?_ ?_
                                  rotate_left
                                  · show Act.put _ (some 8) _ = _
                                    simp only [Act.put, List.setIfInBounds_toArray, List.set_cons_zero, List.set_cons_succ, i64_w, i32_w]
                                    rfl
                                  exact norm_ (by first | (simp only [putAll, Act.put, List.setIfInBounds_toArray, List.set_cons_zero, List.set_cons_succ]; done) | (simp only [putAll, Act.put, List.setIfInBounds_toArray, List.set_cons_zero, List.set_cons_succ]; rfl)) (hJ_8_9 (p8, p9) _ ⟨hS2, hbox, l8, blk_below k9 hb, l9, fun h => ne9 h.symm⟩)
                            · skip
                              rintro p8 w41 ⟨hS, k8, l8⟩
                              replace k8 : w41.heap[p8]? = some (.cells #[.int .i64 0, .int .i64 0, .int .i64 0] 86 (0, 0)) := k8
                              replace l8 : wr.heap.size ≤ p8 := l8
                              refine norm_ (a' := ?_) ?_ ?_
                              rotate_left
                              · simp only [putAll, Act.put, List.setIfInBounds_toArray, List.set_cons_zero, List.set_cons_succ]
                                rfl
                              refine two_ (i := 3) (j := 9) (Ni := some 44) (Nj := some 9) #[true, true, true, true, true, true, true, false, true, false, false, false] #[true, true, true, false, true, true, true, false, true, true, false, false] rfl rfl rfl rfl (two_of HT_.out (by kernel_rfl)) (by decide) (by decide) (fun K hK => ?_) (fun K hK => ?_)
                              · skip
                                refine goes_ Try.func68 (by kernel_rfl) rfl #[.slice A0_0 l0_0.length c0_0, .int .i64 gv] (by rfl) rfl rfl (by (try simp only [List.map_toArray, List.map_cons, List.map_nil]); first | done | rfl) ?_
                                refine (HWh0.out _ (below_callI HBr.out hsr hS) gv xa xu xo EX.out).mono ?_
                                rintro e w40 ⟨rfl, hb⟩
                                refine ⟨_, rfl, ?_⟩
                                have hS2 := below_callI hS hS.size hb
                                refine hK.out _ _ hS2 (fun hHeld2 => ?_)
                                clear hK K
                                refine norm_ (a' := ?_) ?_ ?_
                                rotate_left
                                · show Act.put _ (some 44) _ = _
                                  simp only [Act.put, List.setIfInBounds_toArray, List.set_cons_zero, List.set_cons_succ, i64_w, i32_w]
                                  rfl
                                exact norm_ (by first | (simp only [putAll, Act.put, List.setIfInBounds_toArray, List.set_cons_zero, List.set_cons_succ]; done) | (simp only [putAll, Act.put, List.setIfInBounds_toArray, List.set_cons_zero, List.set_cons_succ]; rfl)) (hJ_3_8 p8 _ ⟨hS2, blk_below k8 hb, l8⟩)
                              · skip
                                refine box_step ?hg (N := 9) ?hd (cs := #[.int .i64 0, .int .i64 0, .int .i64 0]) (t := 86) ?hr ?_; (case hd => rfl); (case hg => rfl); (case hr => first | (go_simp; done) | (go_simp; rfl))
                                intro p9 hg w40 hbox hb
                                have l9 : wr.heap.size ≤ p9 := by rw [hg]; exact hS.size
                                have ne8 : p8 ≠ p9 := by rw [hg]; exact Nat.ne_of_lt (blk_lt k8)
                                have hS2 := below_callI hS hS.size hb
                                refine hK.out _ _ hS2 (fun hHeld2 => ?_)
                                clear hK K
                                refine norm_ (a' := ?_) ?_ ?_
                                rotate_left
                                · show Act.put _ (some 9) _ = _
                                  simp only [Act.put, List.setIfInBounds_toArray, List.set_cons_zero, List.set_cons_succ, i64_w, i32_w]
                                  rfl
                                exact norm_ (by first | (simp only [putAll, Act.put, List.setIfInBounds_toArray, List.set_cons_zero, List.set_cons_succ]; done) | (simp only [putAll, Act.put, List.setIfInBounds_toArray, List.set_cons_zero, List.set_cons_succ]; rfl)) (hJ_8_9 (p8, p9) _ ⟨hS2, blk_below k8 hb, l8, hbox, l9, ne8⟩)
                          · skip
                            rintro _ w41 hS
                            refine norm_ (a' := ?_) ?_ ?_
                            rotate_left
                            · simp only [putAll, Act.put, List.setIfInBounds_toArray, List.set_cons_zero, List.set_cons_succ]
                              rfl
                            refine three_ (i := 7) (j := 8) (k := 9) (Ni := some 48) (Nj := some 8) (Nk := some 9) #[true, true, true, true, true, true, true, true, false, false, false, false] #[true, true, true, true, true, true, true, false, true, false, false, false] #[true, true, true, true, true, true, true, false, false, true, false, false] rfl rfl rfl rfl rfl rfl (three_of HT_.out (by kernel_rfl)) (by decide) (by decide) (by decide) (fun K hK => ?_) (fun K hK => ?_) (fun K hK => ?_)
                            · skip
                              refine goes_ Try.func68 (by kernel_rfl) rfl #[.slice A1_0 l1_0.length c1_0, .int .i64 gv] (by rfl) rfl rfl (by (try simp only [List.map_toArray, List.map_cons, List.map_nil]); first | done | rfl) ?_
                              refine (HWh2.out _ (below_callI HBr.out hsr hS) gv ua uu uo EU.out).mono ?_
                              rintro e w40 ⟨rfl, hb⟩
                              refine ⟨_, rfl, ?_⟩
                              have hS2 := below_callI hS hS.size hb
                              refine hK.out _ _ hS2 (fun hHeld2 => ?_)
                              clear hK K
                              refine norm_ (a' := ?_) ?_ ?_
                              rotate_left
                              · show Act.put _ (some 48) _ = _
                                simp only [Act.put, List.setIfInBounds_toArray, List.set_cons_zero, List.set_cons_succ, i64_w, i32_w]
                                rfl
                              exact norm_ (by first | (simp only [putAll, Act.put, List.setIfInBounds_toArray, List.set_cons_zero, List.set_cons_succ]; done) | (simp only [putAll, Act.put, List.setIfInBounds_toArray, List.set_cons_zero, List.set_cons_succ]; rfl)) (hJ_3_7 () _ hS2)
                            · skip
                              refine box_step ?hg (N := 8) ?hd (cs := #[.int .i64 0, .int .i64 0, .int .i64 0]) (t := 86) ?hr ?_; (case hd => rfl); (case hg => rfl); (case hr => first | (go_simp; done) | (go_simp; rfl))
                              intro p8 hg w40 hbox hb
                              have l8 : wr.heap.size ≤ p8 := by rw [hg]; exact hS.size
                              have hS2 := below_callI hS hS.size hb
                              refine hK.out _ _ hS2 (fun hHeld2 => ?_)
                              clear hK K
                              refine norm_ (a' := ?_) ?_ ?_
                              rotate_left
                              · show Act.put _ (some 8) _ = _
                                simp only [Act.put, List.setIfInBounds_toArray, List.set_cons_zero, List.set_cons_succ, i64_w, i32_w]
                                rfl
                              exact norm_ (by first | (simp only [putAll, Act.put, List.setIfInBounds_toArray, List.set_cons_zero, List.set_cons_succ]; done) | (simp only [putAll, Act.put, List.setIfInBounds_toArray, List.set_cons_zero, List.set_cons_succ]; rfl)) (hJ_3_8 p8 _ ⟨hS2, hbox, l8⟩)
                            · skip
                              refine box_step ?hg (N := 9) ?hd (cs := #[.int .i64 0, .int .i64 0, .int .i64 0]) (t := 86) ?hr ?_; (case hd => rfl); (case hg => rfl); (case hr => first | (go_simp; done) | (go_simp; rfl))
                              intro p9 hg w40 hbox hb
                              have l9 : wr.heap.size ≤ p9 := by rw [hg]; exact hS.size
                              have hS2 := below_callI hS hS.size hb
                              refine hK.out _ _ hS2 (fun hHeld2 => ?_)
                              clear hK K
                              refine norm_ (a' := ?_) ?_ ?_
                              rotate_left
                              · show Act.put _ (some 9) _ = _
                                simp only [Act.put, List.setIfInBounds_toArray, List.set_cons_zero, List.set_cons_succ, i64_w, i32_w]
                                rfl
                              exact norm_ (by first | (simp only [putAll, Act.put, List.setIfInBounds_toArray, List.set_cons_zero, List.set_cons_succ]; done) | (simp only [putAll, Act.put, List.setIfInBounds_toArray, List.set_cons_zero, List.set_cons_succ]; rfl)) (hJ_3_9 p9 _ ⟨hS2, hbox, l9⟩)
                        · skip
                          rintro ⟨p8, p9⟩ w41 ⟨hS, k8, l8, k9, l9, ne89⟩
                          replace ne89 : p8 ≠ p9 := ne89
                          replace k8 : w41.heap[p8]? = some (.cells #[.int .i64 0, .int .i64 0, .int .i64 0] 86 (0, 0)) := k8
                          replace l8 : wr.heap.size ≤ p8 := l8
                          replace k9 : w41.heap[p9]? = some (.cells #[.int .i64 0, .int .i64 0, .int .i64 0] 86 (0, 0)) := k9
                          replace l9 : wr.heap.size ≤ p9 := l9
                          refine norm_ (a' := ?_) ?_ ?_
                          rotate_left
                          · simp only [putAll, Act.put, List.setIfInBounds_toArray, List.set_cons_zero, List.set_cons_succ]
                            rfl
                          refine one_ (i := 3) (N := some 44) #[true, true, true, true, true, true, true, false, true, true, false, false] rfl rfl (one_of HT_.out (by kernel_rfl)) (by decide) (fun K hK => ?_)
                          refine goes_ Try.func68 (by kernel_rfl) rfl #[.slice A0_0 l0_0.length c0_0, .int .i64 gv] (by rfl) rfl rfl (by (try simp only [List.map_toArray, List.map_cons, List.map_nil]); first | done | rfl) ?_
                          refine (HWh0.out _ (below_callI HBr.out hsr hS) gv xa xu xo EX.out).mono ?_
                          rintro e w40 ⟨rfl, hb⟩
                          refine ⟨_, rfl, ?_⟩
                          have hS2 := below_callI hS hS.size hb
                          refine hK.out _ _ hS2 (fun hHeld2 => ?_)
                          clear hK K
                          refine norm_ (a' := ?_) ?_ ?_
                          rotate_left
                          · show Act.put _ (some 44) _ = _
                            simp only [Act.put, List.setIfInBounds_toArray, List.set_cons_zero, List.set_cons_succ, i64_w, i32_w]
                            rfl
                          exact norm_ (by first | (simp only [putAll, Act.put, List.setIfInBounds_toArray, List.set_cons_zero, List.set_cons_succ]; done) | (simp only [putAll, Act.put, List.setIfInBounds_toArray, List.set_cons_zero, List.set_cons_succ]; rfl)) (hJ_3_8_9 (p8, p9) _ ⟨hS2, blk_below k8 hb, l8, blk_below k9 hb, l9, ne89⟩)
                      · skip
                        rintro p9 w41 ⟨hS, k9, l9⟩
                        replace k9 : w41.heap[p9]? = some (.cells #[.int .i64 0, .int .i64 0, .int .i64 0] 86 (0, 0)) := k9
                        replace l9 : wr.heap.size ≤ p9 := l9
                        refine norm_ (a' := ?_) ?_ ?_
                        rotate_left
                        · simp only [putAll, Act.put, List.setIfInBounds_toArray, List.set_cons_zero, List.set_cons_succ]
                          rfl
                        refine two_ (i := 7) (j := 8) (Ni := some 48) (Nj := some 8) #[true, true, true, true, true, true, true, true, false, true, false, false] #[true, true, true, true, true, true, true, false, true, true, false, false] rfl rfl rfl rfl (two_of HT_.out (by kernel_rfl)) (by decide) (by decide) (fun K hK => ?_) (fun K hK => ?_)
                        · skip
                          refine goes_ Try.func68 (by kernel_rfl) rfl #[.slice A1_0 l1_0.length c1_0, .int .i64 gv] (by rfl) rfl rfl (by (try simp only [List.map_toArray, List.map_cons, List.map_nil]); first | done | rfl) ?_
                          refine (HWh2.out _ (below_callI HBr.out hsr hS) gv ua uu uo EU.out).mono ?_
                          rintro e w40 ⟨rfl, hb⟩
                          refine ⟨_, rfl, ?_⟩
                          have hS2 := below_callI hS hS.size hb
                          refine hK.out _ _ hS2 (fun hHeld2 => ?_)
                          clear hK K
                          refine norm_ (a' := ?_) ?_ ?_
                          rotate_left
                          · show Act.put _ (some 48) _ = _
                            simp only [Act.put, List.setIfInBounds_toArray, List.set_cons_zero, List.set_cons_succ, i64_w, i32_w]
                            rfl
                          exact norm_ (by first | (simp only [putAll, Act.put, List.setIfInBounds_toArray, List.set_cons_zero, List.set_cons_succ]; done) | (simp only [putAll, Act.put, List.setIfInBounds_toArray, List.set_cons_zero, List.set_cons_succ]; rfl)) (hJ_3_7_9 p9 _ ⟨hS2, blk_below k9 hb, l9⟩)
                        · skip
                          refine box_step ?hg (N := 8) ?hd (cs := #[.int .i64 0, .int .i64 0, .int .i64 0]) (t := 86) ?hr ?_; (case hd => rfl); (case hg => rfl); (case hr => first | (go_simp; done) | (go_simp; rfl))
                          intro p8 hg w40 hbox hb
                          have l8 : wr.heap.size ≤ p8 := by rw [hg]; exact hS.size
                          have ne9 : p9 ≠ p8 := by rw [hg]; exact Nat.ne_of_lt (blk_lt k9)
                          have hS2 := below_callI hS hS.size hb
                          refine hK.out _ _ hS2 (fun hHeld2 => ?_)
                          clear hK K
                          refine norm_ (a' := ?_) ?_ ?_
                          rotate_left
                          · show Act.put _ (some 8) _ = _
                            simp only [Act.put, List.setIfInBounds_toArray, List.set_cons_zero, List.set_cons_succ, i64_w, i32_w]
                            rfl
                          exact norm_ (by first | (simp only [putAll, Act.put, List.setIfInBounds_toArray, List.set_cons_zero, List.set_cons_succ]; done) | (simp only [putAll, Act.put, List.setIfInBounds_toArray, List.set_cons_zero, List.set_cons_succ]; rfl)) (hJ_3_8_9 (p8, p9) _ ⟨hS2, hbox, l8, blk_below k9 hb, l9, fun h => ne9 h.symm⟩)
                    · skip
                      rintro p8 w41 ⟨hS, k8, l8⟩
                      replace k8 : w41.heap[p8]? = some (.cells #[.int .i64 0, .int .i64 0, .int .i64 0] 86 (0, 0)) := k8
                      replace l8 : wr.heap.size ≤ p8 := l8
                      refine norm_ (a' := ?_) ?_ ?_
                      rotate_left
                      · simp only [putAll, Act.put, List.setIfInBounds_toArray, List.set_cons_zero, List.set_cons_succ]
                        rfl
                      refine two_ (i := 7) (j := 9) (Ni := some 48) (Nj := some 9) #[true, true, true, true, true, true, true, true, true, false, false, false] #[true, true, true, true, true, true, true, false, true, true, false, false] rfl rfl rfl rfl (two_of HT_.out (by kernel_rfl)) (by decide) (by decide) (fun K hK => ?_) (fun K hK => ?_)
                      · skip
                        refine goes_ Try.func68 (by kernel_rfl) rfl #[.slice A1_0 l1_0.length c1_0, .int .i64 gv] (by rfl) rfl rfl (by (try simp only [List.map_toArray, List.map_cons, List.map_nil]); first | done | rfl) ?_
                        refine (HWh2.out _ (below_callI HBr.out hsr hS) gv ua uu uo EU.out).mono ?_
                        rintro e w40 ⟨rfl, hb⟩
                        refine ⟨_, rfl, ?_⟩
                        have hS2 := below_callI hS hS.size hb
                        refine hK.out _ _ hS2 (fun hHeld2 => ?_)
                        clear hK K
                        refine norm_ (a' := ?_) ?_ ?_
                        rotate_left
                        · show Act.put _ (some 48) _ = _
                          simp only [Act.put, List.setIfInBounds_toArray, List.set_cons_zero, List.set_cons_succ, i64_w, i32_w]
                          rfl
                        exact norm_ (by first | (simp only [putAll, Act.put, List.setIfInBounds_toArray, List.set_cons_zero, List.set_cons_succ]; done) | (simp only [putAll, Act.put, List.setIfInBounds_toArray, List.set_cons_zero, List.set_cons_succ]; rfl)) (hJ_3_7_8 p8 _ ⟨hS2, blk_below k8 hb, l8⟩)
                      · skip
                        refine box_step ?hg (N := 9) ?hd (cs := #[.int .i64 0, .int .i64 0, .int .i64 0]) (t := 86) ?hr ?_; (case hd => rfl); (case hg => rfl); (case hr => first | (go_simp; done) | (go_simp; rfl))
                        intro p9 hg w40 hbox hb
                        have l9 : wr.heap.size ≤ p9 := by rw [hg]; exact hS.size
                        have ne8 : p8 ≠ p9 := by rw [hg]; exact Nat.ne_of_lt (blk_lt k8)
                        have hS2 := below_callI hS hS.size hb
                        refine hK.out _ _ hS2 (fun hHeld2 => ?_)
                        clear hK K
                        refine norm_ (a' := ?_) ?_ ?_
                        rotate_left
                        · show Act.put _ (some 9) _ = _
                          simp only [Act.put, List.setIfInBounds_toArray, List.set_cons_zero, List.set_cons_succ, i64_w, i32_w]
                          rfl
                        exact norm_ (by first | (simp only [putAll, Act.put, List.setIfInBounds_toArray, List.set_cons_zero, List.set_cons_succ]; done) | (simp only [putAll, Act.put, List.setIfInBounds_toArray, List.set_cons_zero, List.set_cons_succ]; rfl)) (hJ_3_8_9 (p8, p9) _ ⟨hS2, blk_below k8 hb, l8, hbox, l9, ne8⟩)
                  · skip
                    rintro _ w41 hS
                    refine norm_ (a' := ?_) ?_ ?_
                    rotate_left
                    · simp only [putAll, Act.put, List.setIfInBounds_toArray, List.set_cons_zero, List.set_cons_succ]
                      rfl
                    refine two_ (i := 8) (j := 9) (Ni := some 8) (Nj := some 9) #[true, true, true, true, true, true, true, true, true, false, false, false] #[true, true, true, true, true, true, true, true, false, true, false, false] rfl rfl rfl rfl (two_of HT_.out (by kernel_rfl)) (by decide) (by decide) (fun K hK => ?_) (fun K hK => ?_)
                    · skip
                      refine box_step ?hg (N := 8) ?hd (cs := #[.int .i64 0, .int .i64 0, .int .i64 0]) (t := 86) ?hr ?_; (case hd => rfl); (case hg => rfl); (case hr => first | (go_simp; done) | (go_simp; rfl))
                      intro p8 hg w40 hbox hb
                      have l8 : wr.heap.size ≤ p8 := by rw [hg]; exact hS.size
                      have hS2 := below_callI hS hS.size hb
                      refine hK.out _ _ hS2 (fun hHeld2 => ?_)
                      clear hK K
                      refine norm_ (a' := ?_) ?_ ?_
                      rotate_left
                      · show Act.put _ (some 8) _ = _
                        simp only [Act.put, List.setIfInBounds_toArray, List.set_cons_zero, List.set_cons_succ, i64_w, i32_w]
                        rfl
                      exact norm_ (by first | (simp only [putAll, Act.put, List.setIfInBounds_toArray, List.set_cons_zero, List.set_cons_succ]; done) | (simp only [putAll, Act.put, List.setIfInBounds_toArray, List.set_cons_zero, List.set_cons_succ]; rfl)) (hJ_3_7_8 p8 _ ⟨hS2, hbox, l8⟩)
                    · skip
                      refine box_step ?hg (N := 9) ?hd (cs := #[.int .i64 0, .int .i64 0, .int .i64 0]) (t := 86) ?hr ?_; (case hd => rfl); (case hg => rfl); (case hr => first | (go_simp; done) | (go_simp; rfl))
                      intro p9 hg w40 hbox hb
                      have l9 : wr.heap.size ≤ p9 := by rw [hg]; exact hS.size
                      have hS2 := below_callI hS hS.size hb
                      refine hK.out _ _ hS2 (fun hHeld2 => ?_)
                      clear hK K
                      refine norm_ (a' := ?_) ?_ ?_
                      rotate_left
                      · show Act.put _ (some 9) _ = _
                        simp only [Act.put, List.setIfInBounds_toArray, List.set_cons_zero, List.set_cons_succ, i64_w, i32_w]
                        rfl
                      exact norm_ (by first | (simp only [putAll, Act.put, List.setIfInBounds_toArray, List.set_cons_zero, List.set_cons_succ]; done) | (simp only [putAll, Act.put, List.setIfInBounds_toArray, List.set_cons_zero, List.set_cons_succ]; rfl)) (hJ_3_7_9 p9 _ ⟨hS2, hbox, l9⟩)
                · skip
                  rintro ⟨p8, p9⟩ w41 ⟨hS, k8, l8, k9, l9, ne89⟩
                  replace ne89 : p8 ≠ p9 := ne89
                  replace k8 : w41.heap[p8]? = some (.cells #[.int .i64 0, .int .i64 0, .int .i64 0] 86 (0, 0)) := k8
                  replace l8 : wr.heap.size ≤ p8 := l8
                  replace k9 : w41.heap[p9]? = some (.cells #[.int .i64 0, .int .i64 0, .int .i64 0] 86 (0, 0)) := k9
                  replace l9 : wr.heap.size ≤ p9 := l9
                  refine norm_ (a' := ?_) ?_ ?_
                  rotate_left
                  · simp only [putAll, Act.put, List.setIfInBounds_toArray, List.set_cons_zero, List.set_cons_succ]
                    rfl
                  refine one_ (i := 7) (N := some 48) #[true, true, true, true, true, true, true, true, true, true, false, false] rfl rfl (one_of HT_.out (by kernel_rfl)) (by decide) (fun K hK => ?_)
                  refine goes_ Try.func68 (by kernel_rfl) rfl #[.slice A1_0 l1_0.length c1_0, .int .i64 gv] (by rfl) rfl rfl (by (try simp only [List.map_toArray, List.map_cons, List.map_nil]); first | done | rfl) ?_
                  refine (HWh2.out _ (below_callI HBr.out hsr hS) gv ua uu uo EU.out).mono ?_
                  rintro e w40 ⟨rfl, hb⟩
                  refine ⟨_, rfl, ?_⟩
                  have hS2 := below_callI hS hS.size hb
                  refine hK.out _ _ hS2 (fun hHeld2 => ?_)
                  clear hK K
                  refine norm_ (a' := ?_) ?_ ?_
                  rotate_left
                  · show Act.put _ (some 48) _ = _
                    simp only [Act.put, List.setIfInBounds_toArray, List.set_cons_zero, List.set_cons_succ, i64_w, i32_w]
                    rfl
                  exact norm_ (by first | (simp only [putAll, Act.put, List.setIfInBounds_toArray, List.set_cons_zero, List.set_cons_succ]; done) | (simp only [putAll, Act.put, List.setIfInBounds_toArray, List.set_cons_zero, List.set_cons_succ]; rfl)) (hJ_3_7_8_9 (p8, p9) _ ⟨hS2, blk_below k8 hb, l8, blk_below k9 hb, l9, ne89⟩)
              · skip
                rintro p9 w41 ⟨hS, k9, l9⟩
                replace k9 : w41.heap[p9]? = some (.cells #[.int .i64 0, .int .i64 0, .int .i64 0] 86 (0, 0)) := k9
                replace l9 : wr.heap.size ≤ p9 := l9
                refine norm_ (a' := ?_) ?_ ?_
                rotate_left
                · simp only [putAll, Act.put, List.setIfInBounds_toArray, List.set_cons_zero, List.set_cons_succ]
                  rfl
                refine one_ (i := 8) (N := some 8) #[true, true, true, true, true, true, true, true, true, true, false, false] rfl rfl (one_of HT_.out (by kernel_rfl)) (by decide) (fun K hK => ?_)
                refine box_step ?hg (N := 8) ?hd (cs := #[.int .i64 0, .int .i64 0, .int .i64 0]) (t := 86) ?hr ?_; (case hd => rfl); (case hg => rfl); (case hr => first | (go_simp; done) | (go_simp; rfl))
                intro p8 hg w40 hbox hb
                have l8 : wr.heap.size ≤ p8 := by rw [hg]; exact hS.size
                have ne9 : p9 ≠ p8 := by rw [hg]; exact Nat.ne_of_lt (blk_lt k9)
                have hS2 := below_callI hS hS.size hb
                refine hK.out _ _ hS2 (fun hHeld2 => ?_)
                clear hK K
                refine norm_ (a' := ?_) ?_ ?_
                rotate_left
                · show Act.put _ (some 8) _ = _
                  simp only [Act.put, List.setIfInBounds_toArray, List.set_cons_zero, List.set_cons_succ, i64_w, i32_w]
                  rfl
                exact norm_ (by first | (simp only [putAll, Act.put, List.setIfInBounds_toArray, List.set_cons_zero, List.set_cons_succ]; done) | (simp only [putAll, Act.put, List.setIfInBounds_toArray, List.set_cons_zero, List.set_cons_succ]; rfl)) (hJ_3_7_8_9 (p8, p9) _ ⟨hS2, hbox, l8, blk_below k9 hb, l9, fun h => ne9 h.symm⟩)
            · skip
              rintro p8 w41 ⟨hS, k8, l8⟩
              replace k8 : w41.heap[p8]? = some (.cells #[.int .i64 0, .int .i64 0, .int .i64 0] 86 (0, 0)) := k8
              replace l8 : wr.heap.size ≤ p8 := l8
              refine norm_ (a' := ?_) ?_ ?_
              rotate_left
              · simp only [putAll, Act.put, List.setIfInBounds_toArray, List.set_cons_zero, List.set_cons_succ]
                rfl
              refine one_ (i := 9) (N := some 9) #[true, true, true, true, true, true, true, true, true, true, false, false] rfl rfl (one_of HT_.out (by kernel_rfl)) (by decide) (fun K hK => ?_)
              refine box_step ?hg (N := 9) ?hd (cs := #[.int .i64 0, .int .i64 0, .int .i64 0]) (t := 86) ?hr ?_; (case hd => rfl); (case hg => rfl); (case hr => first | (go_simp; done) | (go_simp; rfl))
              intro p9 hg w40 hbox hb
              have l9 : wr.heap.size ≤ p9 := by rw [hg]; exact hS.size
              have ne8 : p8 ≠ p9 := by rw [hg]; exact Nat.ne_of_lt (blk_lt k8)
              have hS2 := below_callI hS hS.size hb
              refine hK.out _ _ hS2 (fun hHeld2 => ?_)
              clear hK K
              refine norm_ (a' := ?_) ?_ ?_
              rotate_left
              · show Act.put _ (some 9) _ = _
                simp only [Act.put, List.setIfInBounds_toArray, List.set_cons_zero, List.set_cons_succ, i64_w, i32_w]
                rfl
              exact norm_ (by first | (simp only [putAll, Act.put, List.setIfInBounds_toArray, List.set_cons_zero, List.set_cons_succ]; done) | (simp only [putAll, Act.put, List.setIfInBounds_toArray, List.set_cons_zero, List.set_cons_succ]; rfl)) (hJ_3_7_8_9 (p8, p9) _ ⟨hS2, blk_below k8 hb, l8, hbox, l9, ne8⟩)
          · skip
            rintro ⟨p8, p9⟩ w41 ⟨hS, k8, l8, k9, l9, ne89⟩
            replace ne89 : p8 ≠ p9 := ne89
            replace k8 : w41.heap[p8]? = some (.cells #[.int .i64 0, .int .i64 0, .int .i64 0] 86 (0, 0)) := k8
            replace l8 : wr.heap.size ≤ p8 := l8
            replace k9 : w41.heap[p9]? = some (.cells #[.int .i64 0, .int .i64 0, .int .i64 0] 86 (0, 0)) := k9
            replace l9 : wr.heap.size ≤ p9 := l9
            refine norm_ (a' := ?_) ?_ ?_
            rotate_left
            · simp only [putAll, Act.put, List.setIfInBounds_toArray, List.set_cons_zero, List.set_cons_succ]
              rfl
            refine one_ (i := 10) (N := none) #[true, true, true, true, true, true, true, true, true, true, true, false] rfl rfl (one_of HT_.out (by kernel_rfl)) (by decide) (fun K hK => ?_)
            have c8_0 : w41.cell? ⟨p8, 0, none⟩ = some (.int .i64 0) := (blk_cell k8 0).trans rfl
            have f8_0 := blk_frozen k8 0
            have c8_1 : w41.cell? ⟨p8, 1, none⟩ = some (.int .i64 0) := (blk_cell k8 1).trans rfl
            have f8_1 := blk_frozen k8 1
            have c8_2 : w41.cell? ⟨p8, 2, none⟩ = some (.int .i64 0) := (blk_cell k8 2).trans rfl
            have f8_2 := blk_frozen k8 2
            have c9_0 : w41.cell? ⟨p9, 0, none⟩ = some (.int .i64 0) := (blk_cell k9 0).trans rfl
            have f9_0 := blk_frozen k9 0
            have c9_1 : w41.cell? ⟨p9, 1, none⟩ = some (.int .i64 0) := (blk_cell k9 1).trans rfl
            have f9_1 := blk_frozen k9 1
            have c9_2 : w41.cell? ⟨p9, 2, none⟩ = some (.int .i64 0) := (blk_cell k9 2).trans rfl
            have f9_2 := blk_frozen k9 2
            have ne98 : p9 ≠ p8 := fun h => ne89 h.symm
            refine skip_ (w1 := ?_) (by rfl) rfl ?_ ?_
            rotate_left
            · go_simp
              rfl
            refine hK.out _ _ (below_set (below_set (below_set hS l8) l8) l8) (fun hHeld2 => ?_)
            clear hK K
            refine one_ (i := 11) (N := none) #[true, true, true, true, true, true, true, true, true, true, true, true] rfl rfl (one_of HT_.out (by kernel_rfl)) (by decide) (fun K hK => ?_)
            refine skip_ (w1 := ?_) (by rfl) rfl ?_ ?_
            rotate_left
            · go_simp
              rfl
            refine hK.out _ _ (below_set (below_set (below_set (below_set (below_set (below_set hS l8) l8) l8) l9) l9) l9) (fun hHeld2 => ?_)
            clear hK K
            refine done_ (done_of HT_.out (by kernel_rfl)) ?_
            have B8 : Aside0 ((World.setCell (World.setCell (World.setCell (World.setCell (World.setCell (World.setCell w41 ⟨p8, 0, none⟩ (.int .i64 xa)) ⟨p8, 1, none⟩ (.int .i64 xu)) ⟨p8, 2, none⟩ (.int .i64 xo)) ⟨p9, 0, none⟩ (.int .i64 ua)) ⟨p9, 1, none⟩ (.int .i64 uu)) ⟨p9, 2, none⟩ (.int .i64 uo)).heap[p8]? = some (.cells #[.int .i64 xa, .int .i64 xu, .int .i64 xo] 86 (0, 0))) := ⟨by refine blk_far (blk_far (blk_far ?_ ne89 _) ne89 _) ne89 _; exact (by refine blk_put (cs := #[.int .i64 xa, .int .i64 xu, .int .i64 0]) ?_ 2 _ rfl; refine blk_put (cs := #[.int .i64 xa, .int .i64 0, .int .i64 0]) ?_ 1 _ rfl; refine blk_put (cs := #[.int .i64 0, .int .i64 0, .int .i64 0]) ?_ 0 _ rfl; exact k8)⟩
            have B9 : Aside0 ((World.setCell (World.setCell (World.setCell (World.setCell (World.setCell (World.setCell w41 ⟨p8, 0, none⟩ (.int .i64 xa)) ⟨p8, 1, none⟩ (.int .i64 xu)) ⟨p8, 2, none⟩ (.int .i64 xo)) ⟨p9, 0, none⟩ (.int .i64 ua)) ⟨p9, 1, none⟩ (.int .i64 uu)) ⟨p9, 2, none⟩ (.int .i64 uo)).heap[p9]? = some (.cells #[.int .i64 ua, .int .i64 uu, .int .i64 uo] 86 (0, 0))) := ⟨(by refine blk_put (cs := #[.int .i64 ua, .int .i64 uu, .int .i64 0]) ?_ 2 _ rfl; refine blk_put (cs := #[.int .i64 ua, .int .i64 0, .int .i64 0]) ?_ 1 _ rfl; refine blk_put (cs := #[.int .i64 0, .int .i64 0, .int .i64 0]) ?_ 0 _ rfl; exact blk_far (blk_far (blk_far k9 ne98 _) ne98 _) ne98 _)⟩
            have HBw8 : Aside0 (Below wr.heap.size wr (World.setCell (World.setCell (World.setCell (World.setCell (World.setCell (World.setCell w41 ⟨p8, 0, none⟩ (.int .i64 xa)) ⟨p8, 1, none⟩ (.int .i64 xu)) ⟨p8, 2, none⟩ (.int .i64 xo)) ⟨p9, 0, none⟩ (.int .i64 ua)) ⟨p9, 1, none⟩ (.int .i64 uu)) ⟨p9, 2, none⟩ (.int .i64 uo))) := ⟨below_set (below_set (below_set (below_set (below_set (below_set hS l8) l8) l8) l9) l9) l9⟩
            clear hHeld2 c8_0 f8_0 c8_1 f8_1 c8_2 f8_2 c9_0 f9_0 c9_1 f9_1 c9_2 f9_2
            clear HT_ HW_ hS hHeld k8 k9 l8 l9 ne89 ne98
            generalize (World.setCell (World.setCell (World.setCell (World.setCell (World.setCell (World.setCell w41 ⟨p8, 0, none⟩ (.int .i64 xa)) ⟨p8, 1, none⟩ (.int .i64 xu)) ⟨p8, 2, none⟩ (.int .i64 xo)) ⟨p9, 0, none⟩ (.int .i64 ua)) ⟨p9, 1, none⟩ (.int .i64 uu)) ⟨p9, 2, none⟩ (.int .i64 uo)) = w8 at B8 B9 HBw8 ⊢
            have HB8 := Aside0.mk (below_callI hB.out hB.out.size HBw8.out)
            clear hcell' f0 f4
            go_wp2_with fail
            go_loopw [51] (fun ix wr => ∃ j : Nat, j ≤ ps.length ∧ ix = .int .i64 j ∧ Aside0 (insRow l0_1 l1_1 l0_2 l0_3 l1_2 l1_3 (xa, xu, xo) (ua, uu, uo) (ps.drop j) = some b) ∧ Aside0 (Below w8.heap.size w8 wr)) (fun ix _ => ps.length - (intOf ix).toNat)
            case atStart => exact ⟨0, Nat.zero_le _, rfl, ⟨EB.out⟩, ⟨Below.refl _ _⟩⟩
            case round =>
              obtain ⟨j, hj, rfl, hR, hQ⟩ := hrel
              have HB68 := Aside0.mk (below_callI HB8.out HB8.out.size hQ.out)
              by_cases hlj : j < ps.length
              · have hR1 := hR.out
                rw [drop_consI _ _ hlj, insRow] at hR1
                obtain ⟨⟨ya, yu, yo⟩, ey, hR1⟩ := Option.bind_eq_some_iff.mp hR1
                obtain ⟨⟨va, vu, vo⟩, ev, hR1⟩ := Option.bind_eq_some_iff.mp hR1
                obtain ⟨b2, eb2, hR1⟩ := Option.bind_eq_some_iff.mp hR1
                have EY := Aside0.mk ey
                have EV := Aside0.mk ev
                have EB2 := Aside0.mk eb2
                have HR1 := Aside0.mk hR1
                clear ey ev eb2 hR1 hR
                obtain ⟨ap, hap, hcell⟩ := Kd.at_int (Kd.C_below HC5.out HB68.out) (j : Int) (by omega) (by omega)
                subst hap
                have hcell' : wr.cell? (ap.add j) = some (.int .i64 (ps.getD j 0)) := hcell
                clear hcell
                generalize ps.getD j 0 = pv at *
                have hj0 : (0 : Int) ≤ j := by omega
                have hj1 : (j : Int) < ps.length := by omega
                have hwj : IntKind.i64.wrap ((j : Int) + 1) = j + 1 := IntWalk.i64_in _ (by omega)
                have f1 := pw_cell_below HB68.out y1
                have f5 := pw_cell_below HB68.out y5
                have HBq : Aside0 (Below w.heap.size w wr) := ⟨below_callI HBw.out hs6 HB68.out⟩
                have hsq : w.heap.size ≤ wr.heap.size := HBq.out.size
                go_upto_region 12 with (fail)
                refine start_ (n := 12) (S := fun w' => Below wr.heap.size wr w') (ds := []) #[false, false, false, false, false, false, false, false, false, false, false, false] (by kernel_rfl) rfl rfl (below_drew1 (Below.refl _ _)) (fun hHeld => ?_)
                refine with_tabW curve_Inside.tab11 curve_Inside.bits11 (fun HT_ HW_ => ?_)
                generalize wr.drew = w39 at hHeld ⊢
                refine pure_ (i := 0) (N := some 55) (v := ?_) (a' := ?_) #[true, false, false, false, false, false, false, false, false, false, false, false] rfl rfl (any_of HT_.out (by kernel_rfl)) (fun _ _ _ h => h) (Or.inl ⟨by rfl, ?_⟩) ?_ ?_
                rotate_left
                · intro w'
                  go_simp
                  with_reducible rfl
                rotate_left
                · simp only [Act.put, List.setIfInBounds_toArray, List.set_cons_zero, List.set_cons_succ, i64_w, i32_w]
                  rfl
                refine pure_ (i := 2) (N := some 57) (v := ?_) (a' := ?_) #[true, false, true, false, false, false, false, false, false, false, false, false] rfl rfl (any_of HT_.out (by kernel_rfl)) (fun _ _ _ h => h) (Or.inl ⟨by rfl, ?_⟩) ?_ ?_
                rotate_left
                · intro w'
                  go_simp
                  with_reducible rfl
                rotate_left
                · simp only [Act.put, List.setIfInBounds_toArray, List.set_cons_zero, List.set_cons_succ, i64_w, i32_w]
                  rfl
                refine pure_ (i := 4) (N := some 59) (v := ?_) (a' := ?_) #[true, false, true, false, true, false, false, false, false, false, false, false] rfl rfl (any_of HT_.out (by kernel_rfl)) (fun _ _ _ h => h) (Or.inl ⟨by rfl, ?_⟩) ?_ ?_
                rotate_left
                · intro w'
                  go_simp
                  with_reducible rfl
                rotate_left
                · simp only [Act.put, List.setIfInBounds_toArray, List.set_cons_zero, List.set_cons_succ, i64_w, i32_w]
                  rfl
                refine pure_ (i := 6) (N := some 61) (v := ?_) (a' := ?_) #[true, false, true, false, true, false, true, false, false, false, false, false] rfl rfl (any_of HT_.out (by kernel_rfl)) (fun _ _ _ h => h) (Or.inl ⟨by rfl, ?_⟩) ?_ ?_
                rotate_left
                · intro w'
                  go_simp
                  with_reducible rfl
                rotate_left
                · simp only [Act.put, List.setIfInBounds_toArray, List.set_cons_zero, List.set_cons_succ, i64_w, i32_w]
                  rfl
                refine take_ (i := 1) (N := some 56) (v := ?_) (a' := ?_) #[true, true, true, false, true, false, true, false, false, false, false, false] rfl rfl (take_ofW HT_.out HW_.out (by kernel_rfl)) (fun _ _ _ h => h) (Or.inl ⟨by rfl, ?_⟩) hHeld ?_ ?_
                rotate_left
                · intro w' hS_
                  have s0 := pw_cell_below hS_ f1
                  have s4 := pw_cell_below hS_ f5
                  go_simp
                  with_reducible rfl
                rotate_left
                · simp only [Act.put, List.setIfInBounds_toArray, List.set_cons_zero, List.set_cons_succ, i64_w, i32_w]
                  rfl
                refine take_ (i := 5) (N := some 60) (v := ?_) (a' := ?_) #[true, true, true, false, true, true, true, false, false, false, false, false] rfl rfl (take_ofW HT_.out HW_.out (by kernel_rfl)) (fun _ _ _ h => h) (Or.inl ⟨by rfl, ?_⟩) hHeld ?_ ?_
                rotate_left
                · intro w' hS_
                  have s0 := pw_cell_below hS_ f1
                  have s4 := pw_cell_below hS_ f5
                  go_simp
                  with_reducible rfl
                rotate_left
                · simp only [Act.put, List.setIfInBounds_toArray, List.set_cons_zero, List.set_cons_succ, i64_w, i32_w]
                  rfl
                refine join_ (σ := Nat × Nat) 2 #[true, true, true, true, true, true, true, true, true, true, false, false] (fun s_ => [(58, .agg #[.int .i64 ya, .int .i64 yu, .int .i64 yo]), (62, .agg #[.int .i64 va, .int .i64 vu, .int .i64 vo]), (12, .pointer (some ⟨s_.1, 0, none⟩)), (13, .pointer (some ⟨s_.2, 0, none⟩))]) (fun s_ w' => Below wr.heap.size wr w' ∧ w'.heap[s_.1]? = some (.cells #[.int .i64 0, .int .i64 0, .int .i64 0] 86 (0, 0)) ∧ wr.heap.size ≤ s_.1 ∧ w'.heap[s_.2]? = some (.cells #[.int .i64 0, .int .i64 0, .int .i64 0] 86 (0, 0)) ∧ wr.heap.size ≤ s_.2 ∧ s_.1 ≠ s_.2) ?_ ?_
                rotate_left
                · intro hJ_3_7_8_9
                  refine join_ (σ := Nat) 3 #[true, true, true, true, true, true, true, true, true, false, false, false] (fun s_ => [(58, .agg #[.int .i64 ya, .int .i64 yu, .int .i64 yo]), (62, .agg #[.int .i64 va, .int .i64 vu, .int .i64 vo]), (12, .pointer (some ⟨s_, 0, none⟩))]) (fun s_ w' => Below wr.heap.size wr w' ∧ w'.heap[s_]? = some (.cells #[.int .i64 0, .int .i64 0, .int .i64 0] 86 (0, 0)) ∧ wr.heap.size ≤ s_) ?_ ?_
                  rotate_left
                  · intro hJ_3_7_8
                    refine join_ (σ := Nat) 3 #[true, true, true, true, true, true, true, true, false, true, false, false] (fun s_ => [(58, .agg #[.int .i64 ya, .int .i64 yu, .int .i64 yo]), (62, .agg #[.int .i64 va, .int .i64 vu, .int .i64 vo]), (13, .pointer (some ⟨s_, 0, none⟩))]) (fun s_ w' => Below wr.heap.size wr w' ∧ w'.heap[s_]? = some (.cells #[.int .i64 0, .int .i64 0, .int .i64 0] 86 (0, 0)) ∧ wr.heap.size ≤ s_) ?_ ?_
                    rotate_left
                    · intro hJ_3_7_9
                      refine join_ (σ := Nat × Nat) 3 #[true, true, true, true, true, true, true, false, true, true, false, false] (fun s_ => [(58, .agg #[.int .i64 ya, .int .i64 yu, .int .i64 yo]), (12, .pointer (some ⟨s_.1, 0, none⟩)), (13, .pointer (some ⟨s_.2, 0, none⟩))]) (fun s_ w' => Below wr.heap.size wr w' ∧ w'.heap[s_.1]? = some (.cells #[.int .i64 0, .int .i64 0, .int .i64 0] 86 (0, 0)) ∧ wr.heap.size ≤ s_.1 ∧ w'.heap[s_.2]? = some (.cells #[.int .i64 0, .int .i64 0, .int .i64 0] 86 (0, 0)) ∧ wr.heap.size ≤ s_.2 ∧ s_.1 ≠ s_.2) ?_ ?_
                      rotate_left
                      · intro hJ_3_8_9
                        refine join_ (σ := Unit) 4 #[true, true, true, true, true, true, true, true, false, false, false, false] (fun s_ => [(58, .agg #[.int .i64 ya, .int .i64 yu, .int .i64 yo]), (62, .agg #[.int .i64 va, .int .i64 vu, .int .i64 vo])]) (fun s_ w' => Below wr.heap.size wr w') ?_ ?_
                        rotate_left
                        · intro hJ_3_7
                          refine join_ (σ := Nat) 4 #[true, true, true, true, true, true, true, false, true, false, false, false] (fun s_ => [(58, .agg #[.int .i64 ya, .int .i64 yu, .int .i64 yo]), (12, .pointer (some ⟨s_, 0, none⟩))]) (fun s_ w' => Below wr.heap.size wr w' ∧ w'.heap[s_]? = some (.cells #[.int .i64 0, .int .i64 0, .int .i64 0] 86 (0, 0)) ∧ wr.heap.size ≤ s_) ?_ ?_
                          rotate_left
                          · intro hJ_3_8
                            refine join_ (σ := Nat) 4 #[true, true, true, true, true, true, true, false, false, true, false, false] (fun s_ => [(58, .agg #[.int .i64 ya, .int .i64 yu, .int .i64 yo]), (13, .pointer (some ⟨s_, 0, none⟩))]) (fun s_ w' => Below wr.heap.size wr w' ∧ w'.heap[s_]? = some (.cells #[.int .i64 0, .int .i64 0, .int .i64 0] 86 (0, 0)) ∧ wr.heap.size ≤ s_) ?_ ?_
                            rotate_left
                            · intro hJ_3_9
                              refine join_ (σ := Nat × Nat) 4 #[true, true, true, false, true, true, true, false, true, true, false, false] (fun s_ => [(12, .pointer (some ⟨s_.1, 0, none⟩)), (13, .pointer (some ⟨s_.2, 0, none⟩))]) (fun s_ w' => Below wr.heap.size wr w' ∧ w'.heap[s_.1]? = some (.cells #[.int .i64 0, .int .i64 0, .int .i64 0] 86 (0, 0)) ∧ wr.heap.size ≤ s_.1 ∧ w'.heap[s_.2]? = some (.cells #[.int .i64 0, .int .i64 0, .int .i64 0] 86 (0, 0)) ∧ wr.heap.size ≤ s_.2 ∧ s_.1 ≠ s_.2) ?_ ?_
                              rotate_left
                              · intro hJ_8_9
                                refine join_ (σ := Unit) 5 #[true, true, true, true, true, true, true, false, false, false, false, false] (fun s_ => [(58, .agg #[.int .i64 ya, .int .i64 yu, .int .i64 yo])]) (fun s_ w' => Below wr.heap.size wr w') ?_ ?_
                                rotate_left
                                · intro hJ_3
                                  refine join_ (σ := Nat) 5 #[true, true, true, false, true, true, true, false, true, false, false, false] (fun s_ => [(12, .pointer (some ⟨s_, 0, none⟩))]) (fun s_ w' => Below wr.heap.size wr w' ∧ w'.heap[s_]? = some (.cells #[.int .i64 0, .int .i64 0, .int .i64 0] 86 (0, 0)) ∧ wr.heap.size ≤ s_) ?_ ?_
                                  rotate_left
                                  · intro hJ_8
                                    refine join_ (σ := Nat) 5 #[true, true, true, false, true, true, true, false, false, true, false, false] (fun s_ => [(13, .pointer (some ⟨s_, 0, none⟩))]) (fun s_ w' => Below wr.heap.size wr w' ∧ w'.heap[s_]? = some (.cells #[.int .i64 0, .int .i64 0, .int .i64 0] 86 (0, 0)) ∧ wr.heap.size ≤ s_) ?_ ?_
                                    rotate_left
                                    · intro hJ_9
                                      have hS := hHeld
                                      refine three_ (i := 3) (j := 8) (k := 9) (Ni := some 58) (Nj := some 12) (Nk := some 13) #[true, true, true, true, true, true, true, false, false, false, false, false] #[true, true, true, false, true, true, true, false, true, false, false, false] #[true, true, true, false, true, true, true, false, false, true, false, false] rfl rfl rfl rfl rfl rfl (three_of HT_.out (by kernel_rfl)) (by decide) (by decide) (by decide) (fun K hK => ?_) (fun K hK => ?_) (fun K hK => ?_)
                                      · skip
                                        refine goes_ Try.func68 (by kernel_rfl) rfl #[.slice A0_1 l0_1.length c0_1, .int .i64 pv] (by rfl) rfl rfl (by (try simp only [List.map_toArray, List.map_cons, List.map_nil]); first | done | rfl) ?_
                                        refine (HWh1.out _ (below_callI HBq.out hsq hS) pv ya yu yo EY.out).mono ?_
                                        rintro e w40 ⟨rfl, hb⟩
                                        refine ⟨_, rfl, ?_⟩
                                        have hS2 := below_callI hS hS.size hb
                                        refine hK.out _ _ hS2 (fun hHeld2 => ?_)
                                        clear hK K
                                        refine norm_ (a' := ?_) ?_ ?_
                                        rotate_left
                                        · show Act.put _ (some 58) _ = _
                                          simp only [Act.put, List.setIfInBounds_toArray, List.set_cons_zero, List.set_cons_succ, i64_w, i32_w]
                                          rfl
                                        exact norm_ (by first | (simp only [putAll, Act.put, List.setIfInBounds_toArray, List.set_cons_zero, List.set_cons_succ]; done) | (simp only [putAll, Act.put, List.setIfInBounds_toArray, List.set_cons_zero, List.set_cons_succ]; rfl)) (hJ_3 () _ hS2)
                                      · skip
                                        refine box_step ?hg (N := 12) ?hd (cs := #[.int .i64 0, .int .i64 0, .int .i64 0]) (t := 86) ?hr ?_; (case hd => rfl); (case hg => rfl); (case hr => first | (go_simp; done) | (go_simp; rfl))
                                        intro q8 hg w40 hbox hb
                                        have l8 : wr.heap.size ≤ q8 := by rw [hg]; exact hS.size
                                        have hS2 := below_callI hS hS.size hb
                                        refine hK.out _ _ hS2 (fun hHeld2 => ?_)
                                        clear hK K
                                        refine norm_ (a' := ?_) ?_ ?_
                                        rotate_left
                                        · show Act.put _ (some 12) _ = _
                                          simp only [Act.put, List.setIfInBounds_toArray, List.set_cons_zero, List.set_cons_succ, i64_w, i32_w]
                                          rfl
                                        exact norm_ (by first | (simp only [putAll, Act.put, List.setIfInBounds_toArray, List.set_cons_zero, List.set_cons_succ]; done) | (simp only [putAll, Act.put, List.setIfInBounds_toArray, List.set_cons_zero, List.set_cons_succ]; rfl)) (hJ_8 q8 _ ⟨hS2, hbox, l8⟩)
                                      · skip
                                        refine box_step ?hg (N := 13) ?hd (cs := #[.int .i64 0, .int .i64 0, .int .i64 0]) (t := 86) ?hr ?_; (case hd => rfl); (case hg => rfl); (case hr => first | (go_simp; done) | (go_simp; rfl))
                                        intro q9 hg w40 hbox hb
                                        have l9 : wr.heap.size ≤ q9 := by rw [hg]; exact hS.size
                                        have hS2 := below_callI hS hS.size hb
                                        refine hK.out _ _ hS2 (fun hHeld2 => ?_)
                                        clear hK K
                                        refine norm_ (a' := ?_) ?_ ?_
                                        rotate_left
                                        · show Act.put _ (some 13) _ = _
                                          simp only [Act.put, List.setIfInBounds_toArray, List.set_cons_zero, List.set_cons_succ, i64_w, i32_w]
                                          rfl
                                        exact norm_ (by first | (simp only [putAll, Act.put, List.setIfInBounds_toArray, List.set_cons_zero, List.set_cons_succ]; done) | (simp only [putAll, Act.put, List.setIfInBounds_toArray, List.set_cons_zero, List.set_cons_succ]; rfl)) (hJ_9 q9 _ ⟨hS2, hbox, l9⟩)
                                    · skip
                                      rintro q9 w41 ⟨hS, k9, l9⟩
                                      replace k9 : w41.heap[q9]? = some (.cells #[.int .i64 0, .int .i64 0, .int .i64 0] 86 (0, 0)) := k9
                                      replace l9 : wr.heap.size ≤ q9 := l9
                                      refine norm_ (a' := ?_) ?_ ?_
                                      rotate_left
                                      · simp only [putAll, Act.put, List.setIfInBounds_toArray, List.set_cons_zero, List.set_cons_succ]
                                        rfl
                                      refine two_ (i := 3) (j := 8) (Ni := some 58) (Nj := some 12) #[true, true, true, true, true, true, true, false, false, true, false, false] #[true, true, true, false, true, true, true, false, true, true, false, false] rfl rfl rfl rfl (two_of HT_.out (by kernel_rfl)) (by decide) (by decide) (fun K hK => ?_) (fun K hK => ?_)
                                      · skip
                                        refine goes_ Try.func68 (by kernel_rfl) rfl #[.slice A0_1 l0_1.length c0_1, .int .i64 pv] (by rfl) rfl rfl (by (try simp only [List.map_toArray, List.map_cons, List.map_nil]); first | done | rfl) ?_
                                        refine (HWh1.out _ (below_callI HBq.out hsq hS) pv ya yu yo EY.out).mono ?_
                                        rintro e w40 ⟨rfl, hb⟩
                                        refine ⟨_, rfl, ?_⟩
                                        have hS2 := below_callI hS hS.size hb
                                        refine hK.out _ _ hS2 (fun hHeld2 => ?_)
                                        clear hK K
                                        refine norm_ (a' := ?_) ?_ ?_
                                        rotate_left
                                        · show Act.put _ (some 58) _ = _
                                          simp only [Act.put, List.setIfInBounds_toArray, List.set_cons_zero, List.set_cons_succ, i64_w, i32_w]
                                          rfl
                                        exact norm_ (by first | (simp only [putAll, Act.put, List.setIfInBounds_toArray, List.set_cons_zero, List.set_cons_succ]; done) | (simp only [putAll, Act.put, List.setIfInBounds_toArray, List.set_cons_zero, List.set_cons_succ]; rfl)) (hJ_3_9 q9 _ ⟨hS2, blk_below k9 hb, l9⟩)
                                      · skip
                                        refine box_step ?hg (N := 12) ?hd (cs := #[.int .i64 0, .int .i64 0, .int .i64 0]) (t := 86) ?hr ?_; (case hd => rfl); (case hg => rfl); (case hr => first | (go_simp; done) | (go_simp; rfl))
                                        intro q8 hg w40 hbox hb
                                        have l8 : wr.heap.size ≤ q8 := by rw [hg]; exact hS.size
                                        have ne9 : q9 ≠ q8 := by rw [hg]; exact Nat.ne_of_lt (blk_lt k9)
                                        have hS2 := below_callI hS hS.size hb
                                        refine hK.out _ _ hS2 (fun hHeld2 => ?_)
                                        clear hK K
                                        refine norm_ (a' := ?_) ?_ ?_
                                        rotate_left
                                        · show Act.put _ (some 12) _ = _
                                          simp only [Act.put, List.setIfInBounds_toArray, List.set_cons_zero, List.set_cons_succ, i64_w, i32_w]
                                          rfl
                                        exact norm_ (by first | (simp only [putAll, Act.put, List.setIfInBounds_toArray, List.set_cons_zero, List.set_cons_succ]; done) | (simp only [putAll, Act.put, List.setIfInBounds_toArray, List.set_cons_zero, List.set_cons_succ]; rfl)) (hJ_8_9 (q8, q9) _ ⟨hS2, hbox, l8, blk_below k9 hb, l9, fun h => ne9 h.symm⟩)
                                  · skip
                                    rintro q8 w41 ⟨hS, k8, l8⟩
                                    replace k8 : w41.heap[q8]? = some (.cells #[.int .i64 0, .int .i64 0, .int .i64 0] 86 (0, 0)) := k8
                                    replace l8 : wr.heap.size ≤ q8 := l8
                                    refine norm_ (a' := ?_) ?_ ?_
                                    rotate_left
                                    · simp only [putAll, Act.put, List.setIfInBounds_toArray, List.set_cons_zero, List.set_cons_succ]
                                      rfl
                                    refine two_ (i := 3) (j := 9) (Ni := some 58) (Nj := some 13) #[true, true, true, true, true, true, true, false, true, false, false, false] #[true, true, true, false, true, true, true, false, true, true, false, false] rfl rfl rfl rfl (two_of HT_.out (by kernel_rfl)) (by decide) (by decide) (fun K hK => ?_) (fun K hK => ?_)
                                    · skip
                                      refine goes_ Try.func68 (by kernel_rfl) rfl #[.slice A0_1 l0_1.length c0_1, .int .i64 pv] (by rfl) rfl rfl (by (try simp only [List.map_toArray, List.map_cons, List.map_nil]); first | done | rfl) ?_
                                      refine (HWh1.out _ (below_callI HBq.out hsq hS) pv ya yu yo EY.out).mono ?_
                                      rintro e w40 ⟨rfl, hb⟩
                                      refine ⟨_, rfl, ?_⟩
                                      have hS2 := below_callI hS hS.size hb
                                      refine hK.out _ _ hS2 (fun hHeld2 => ?_)
                                      clear hK K
                                      refine norm_ (a' := ?_) ?_ ?_
                                      rotate_left
                                      · show Act.put _ (some 58) _ = _
                                        simp only [Act.put, List.setIfInBounds_toArray, List.set_cons_zero, List.set_cons_succ, i64_w, i32_w]
                                        rfl
                                      exact norm_ (by first | (simp only [putAll, Act.put, List.setIfInBounds_toArray, List.set_cons_zero, List.set_cons_succ]; done) | (simp only [putAll, Act.put, List.setIfInBounds_toArray, List.set_cons_zero, List.set_cons_succ]; rfl)) (hJ_3_8 q8 _ ⟨hS2, blk_below k8 hb, l8⟩)
                                    · skip
                                      refine box_step ?hg (N := 13) ?hd (cs := #[.int .i64 0, .int .i64 0, .int .i64 0]) (t := 86) ?hr ?_; (case hd => rfl); (case hg => rfl); (case hr => first | (go_simp; done) | (go_simp; rfl))
                                      intro q9 hg w40 hbox hb
                                      have l9 : wr.heap.size ≤ q9 := by rw [hg]; exact hS.size
                                      have ne8 : q8 ≠ q9 := by rw [hg]; exact Nat.ne_of_lt (blk_lt k8)
                                      have hS2 := below_callI hS hS.size hb
                                      refine hK.out _ _ hS2 (fun hHeld2 => ?_)
                                      clear hK K
                                      refine norm_ (a' := ?_) ?_ ?_
                                      rotate_left
                                      · show Act.put _ (some 13) _ = _
                                        simp only [Act.put, List.setIfInBounds_toArray, List.set_cons_zero, List.set_cons_succ, i64_w, i32_w]
                                        rfl
                                      exact norm_ (by first | (simp only [putAll, Act.put, List.setIfInBounds_toArray, List.set_cons_zero, List.set_cons_succ]; done) | (simp only [putAll, Act.put, List.setIfInBounds_toArray, List.set_cons_zero, List.set_cons_succ]; rfl)) (hJ_8_9 (q8, q9) _ ⟨hS2, blk_below k8 hb, l8, hbox, l9, ne8⟩)
                                · skip
                                  rintro _ w41 hS
                                  refine norm_ (a' := ?_) ?_ ?_
                                  rotate_left
                                  · simp only [putAll, Act.put, List.setIfInBounds_toArray, List.set_cons_zero, List.set_cons_succ]
                                    rfl
                                  refine three_ (i := 7) (j := 8) (k := 9) (Ni := some 62) (Nj := some 12) (Nk := some 13) #[true, true, true, true, true, true, true, true, false, false, false, false] #[true, true, true, true, true, true, true, false, true, false, false, false] #[true, true, true, true, true, true, true, false, false, true, false, false] rfl rfl rfl rfl rfl rfl (three_of HT_.out (by kernel_rfl)) (by decide) (by decide) (by decide) (fun K hK => ?_) (fun K hK => ?_) (fun K hK => ?_)
                                  · skip
                                    refine goes_ Try.func68 (by kernel_rfl) rfl #[.slice A1_1 l1_1.length c1_1, .int .i64 pv] (by rfl) rfl rfl (by (try simp only [List.map_toArray, List.map_cons, List.map_nil]); first | done | rfl) ?_
                                    refine (HWh3.out _ (below_callI HBq.out hsq hS) pv va vu vo EV.out).mono ?_
                                    rintro e w40 ⟨rfl, hb⟩
                                    refine ⟨_, rfl, ?_⟩
                                    have hS2 := below_callI hS hS.size hb
                                    refine hK.out _ _ hS2 (fun hHeld2 => ?_)
                                    clear hK K
                                    refine norm_ (a' := ?_) ?_ ?_
                                    rotate_left
                                    · show Act.put _ (some 62) _ = _
                                      simp only [Act.put, List.setIfInBounds_toArray, List.set_cons_zero, List.set_cons_succ, i64_w, i32_w]
                                      rfl
                                    exact norm_ (by first | (simp only [putAll, Act.put, List.setIfInBounds_toArray, List.set_cons_zero, List.set_cons_succ]; done) | (simp only [putAll, Act.put, List.setIfInBounds_toArray, List.set_cons_zero, List.set_cons_succ]; rfl)) (hJ_3_7 () _ hS2)
                                  · skip
                                    refine box_step ?hg (N := 12) ?hd (cs := #[.int .i64 0, .int .i64 0, .int .i64 0]) (t := 86) ?hr ?_; (case hd => rfl); (case hg => rfl); (case hr => first | (go_simp; done) | (go_simp; rfl))
                                    intro q8 hg w40 hbox hb
                                    have l8 : wr.heap.size ≤ q8 := by rw [hg]; exact hS.size
                                    have hS2 := below_callI hS hS.size hb
                                    refine hK.out _ _ hS2 (fun hHeld2 => ?_)
                                    clear hK K
                                    refine norm_ (a' := ?_) ?_ ?_
                                    rotate_left
                                    · show Act.put _ (some 12) _ = _
                                      simp only [Act.put, List.setIfInBounds_toArray, List.set_cons_zero, List.set_cons_succ, i64_w, i32_w]
                                      rfl
                                    exact norm_ (by first | (simp only [putAll, Act.put, List.setIfInBounds_toArray, List.set_cons_zero, List.set_cons_succ]; done) | (simp only [putAll, Act.put, List.setIfInBounds_toArray, List.set_cons_zero, List.set_cons_succ]; rfl)) (hJ_3_8 q8 _ ⟨hS2, hbox, l8⟩)
                                  · skip
                                    refine box_step ?hg (N := 13) ?hd (cs := #[.int .i64 0, .int .i64 0, .int .i64 0]) (t := 86) ?hr ?_; (case hd => rfl); (case hg => rfl); (case hr => first | (go_simp; done) | (go_simp; rfl))
                                    intro q9 hg w40 hbox hb
                                    have l9 : wr.heap.size ≤ q9 := by rw [hg]; exact hS.size
                                    have hS2 := below_callI hS hS.size hb
                                    refine hK.out _ _ hS2 (fun hHeld2 => ?_)
                                    clear hK K
                                    refine norm_ (a' := ?_) ?_ ?_
                                    rotate_left
                                    · show Act.put _ (some 13) _ = _
                                      simp only [Act.put, List.setIfInBounds_toArray, List.set_cons_zero, List.set_cons_succ, i64_w, i32_w]
                                      rfl
                                    exact norm_ (by first | (simp only [putAll, Act.put, List.setIfInBounds_toArray, List.set_cons_zero, List.set_cons_succ]; done) | (simp only [putAll, Act.put, List.setIfInBounds_toArray, List.set_cons_zero, List.set_cons_succ]; rfl)) (hJ_3_9 q9 _ ⟨hS2, hbox, l9⟩)
                              · skip
                                rintro ⟨q8, q9⟩ w41 ⟨hS, k8, l8, k9, l9, ne89⟩
                                replace ne89 : q8 ≠ q9 := ne89
                                replace k8 : w41.heap[q8]? = some (.cells #[.int .i64 0, .int .i64 0, .int .i64 0] 86 (0, 0)) := k8
                                replace l8 : wr.heap.size ≤ q8 := l8
                                replace k9 : w41.heap[q9]? = some (.cells #[.int .i64 0, .int .i64 0, .int .i64 0] 86 (0, 0)) := k9
                                replace l9 : wr.heap.size ≤ q9 := l9
                                refine norm_ (a' := ?_) ?_ ?_
                                rotate_left
                                · simp only [putAll, Act.put, List.setIfInBounds_toArray, List.set_cons_zero, List.set_cons_succ]
                                  rfl
                                refine one_ (i := 3) (N := some 58) #[true, true, true, true, true, true, true, false, true, true, false, false] rfl rfl (one_of HT_.out (by kernel_rfl)) (by decide) (fun K hK => ?_)
                                refine goes_ Try.func68 (by kernel_rfl) rfl #[.slice A0_1 l0_1.length c0_1, .int .i64 pv] (by rfl) rfl rfl (by (try simp only [List.map_toArray, List.map_cons, List.map_nil]); first | done | rfl) ?_
                                refine (HWh1.out _ (below_callI HBq.out hsq hS) pv ya yu yo EY.out).mono ?_
                                rintro e w40 ⟨rfl, hb⟩
                                refine ⟨_, rfl, ?_⟩
                                have hS2 := below_callI hS hS.size hb
                                refine hK.out _ _ hS2 (fun hHeld2 => ?_)
                                clear hK K
                                refine norm_ (a' := ?_) ?_ ?_
                                rotate_left
                                · show Act.put _ (some 58) _ = _
                                  simp only [Act.put, List.setIfInBounds_toArray, List.set_cons_zero, List.set_cons_succ, i64_w, i32_w]
                                  rfl
                                exact norm_ (by first | (simp only [putAll, Act.put, List.setIfInBounds_toArray, List.set_cons_zero, List.set_cons_succ]; done) | (simp only [putAll, Act.put, List.setIfInBounds_toArray, List.set_cons_zero, List.set_cons_succ]; rfl)) (hJ_3_8_9 (q8, q9) _ ⟨hS2, blk_below k8 hb, l8, blk_below k9 hb, l9, ne89⟩)
                            · skip
                              rintro q9 w41 ⟨hS, k9, l9⟩
                              replace k9 : w41.heap[q9]? = some (.cells #[.int .i64 0, .int .i64 0, .int .i64 0] 86 (0, 0)) := k9
                              replace l9 : wr.heap.size ≤ q9 := l9
                              refine norm_ (a' := ?_) ?_ ?_
                              rotate_left
                              · simp only [putAll, Act.put, List.setIfInBounds_toArray, List.set_cons_zero, List.set_cons_succ]
                                rfl
                              refine two_ (i := 7) (j := 8) (Ni := some 62) (Nj := some 12) #[true, true, true, true, true, true, true, true, false, true, false, false] #[true, true, true, true, true, true, true, false, true, true, false, false] rfl rfl rfl rfl (two_of HT_.out (by kernel_rfl)) (by decide) (by decide) (fun K hK => ?_) (fun K hK => ?_)
                              · skip
                                refine goes_ Try.func68 (by kernel_rfl) rfl #[.slice A1_1 l1_1.length c1_1, .int .i64 pv] (by rfl) rfl rfl (by (try simp only [List.map_toArray, List.map_cons, List.map_nil]); first | done | rfl) ?_
                                refine (HWh3.out _ (below_callI HBq.out hsq hS) pv va vu vo EV.out).mono ?_
                                rintro e w40 ⟨rfl, hb⟩
                                refine ⟨_, rfl, ?_⟩
                                have hS2 := below_callI hS hS.size hb
                                refine hK.out _ _ hS2 (fun hHeld2 => ?_)
                                clear hK K
                                refine norm_ (a' := ?_) ?_ ?_
                                rotate_left
                                · show Act.put _ (some 62) _ = _
                                  simp only [Act.put, List.setIfInBounds_toArray, List.set_cons_zero, List.set_cons_succ, i64_w, i32_w]
                                  rfl
                                exact norm_ (by first | (simp only [putAll, Act.put, List.setIfInBounds_toArray, List.set_cons_zero, List.set_cons_succ]; done) | (simp only [putAll, Act.put, List.setIfInBounds_toArray, List.set_cons_zero, List.set_cons_succ]; rfl)) (hJ_3_7_9 q9 _ ⟨hS2, blk_below k9 hb, l9⟩)
                              · skip
                                refine box_step ?hg (N := 12) ?hd (cs := #[.int .i64 0, .int .i64 0, .int .i64 0]) (t := 86) ?hr ?_; (case hd => rfl); (case hg => rfl); (case hr => first | (go_simp; done) | (go_simp; rfl))
                                intro q8 hg w40 hbox hb
                                have l8 : wr.heap.size ≤ q8 := by rw [hg]; exact hS.size
                                have ne9 : q9 ≠ q8 := by rw [hg]; exact Nat.ne_of_lt (blk_lt k9)
                                have hS2 := below_callI hS hS.size hb
                                refine hK.out _ _ hS2 (fun hHeld2 => ?_)
                                clear hK K
                                refine norm_ (a' := ?_) ?_ ?_
                                rotate_left
                                · show Act.put _ (some 12) _ = _
                                  simp only [Act.put, List.setIfInBounds_toArray, List.set_cons_zero, List.set_cons_succ, i64_w, i32_w]
                                  rfl
                                exact norm_ (by first | (simp only [putAll, Act.put, List.setIfInBounds_toArray, List.set_cons_zero, List.set_cons_succ]; done) | (simp only [putAll, Act.put, List.setIfInBounds_toArray, List.set_cons_zero, List.set_cons_succ]; rfl)) (hJ_3_8_9 (q8, q9) _ ⟨hS2, hbox, l8, blk_below k9 hb, l9, fun h => ne9 h.symm⟩)
                          · skip
                            rintro q8 w41 ⟨hS, k8, l8⟩
                            replace k8 : w41.heap[q8]? = some (.cells #[.int .i64 0, .int .i64 0, .int .i64 0] 86 (0, 0)) := k8
                            replace l8 : wr.heap.size ≤ q8 := l8
                            refine norm_ (a' := ?_) ?_ ?_
                            rotate_left
                            · simp only [putAll, Act.put, List.setIfInBounds_toArray, List.set_cons_zero, List.set_cons_succ]
                              rfl
                            refine two_ (i := 7) (j := 9) (Ni := some 62) (Nj := some 13) #[true, true, true, true, true, true, true, true, true, false, false, false] #[true, true, true, true, true, true, true, false, true, true, false, false] rfl rfl rfl rfl (two_of HT_.out (by kernel_rfl)) (by decide) (by decide) (fun K hK => ?_) (fun K hK => ?_)
                            · skip
                              refine goes_ Try.func68 (by kernel_rfl) rfl #[.slice A1_1 l1_1.length c1_1, .int .i64 pv] (by rfl) rfl rfl (by (try simp only [List.map_toArray, List.map_cons, List.map_nil]); first | done | rfl) ?_
                              refine (HWh3.out _ (below_callI HBq.out hsq hS) pv va vu vo EV.out).mono ?_
                              rintro e w40 ⟨rfl, hb⟩
                              refine ⟨_, rfl, ?_⟩
                              have hS2 := below_callI hS hS.size hb
                              refine hK.out _ _ hS2 (fun hHeld2 => ?_)
                              clear hK K
                              refine norm_ (a' := ?_) ?_ ?_
                              rotate_left
                              · show Act.put _ (some 62) _ = _
                                simp only [Act.put, List.setIfInBounds_toArray, List.set_cons_zero, List.set_cons_succ, i64_w, i32_w]
                                rfl
                              exact norm_ (by first | (simp only [putAll, Act.put, List.setIfInBounds_toArray, List.set_cons_zero, List.set_cons_succ]; done) | (simp only [putAll, Act.put, List.setIfInBounds_toArray, List.set_cons_zero, List.set_cons_succ]; rfl)) (hJ_3_7_8 q8 _ ⟨hS2, blk_below k8 hb, l8⟩)
                            · skip
                              refine box_step ?hg (N := 13) ?hd (cs := #[.int .i64 0, .int .i64 0, .int .i64 0]) (t := 86) ?hr ?_; (case hd => rfl); (case hg => rfl); (case hr => first | (go_simp; done) | (go_simp; rfl))
                              intro q9 hg w40 hbox hb
                              have l9 : wr.heap.size ≤ q9 := by rw [hg]; exact hS.size
                              have ne8 : q8 ≠ q9 := by rw [hg]; exact Nat.ne_of_lt (blk_lt k8)
                              have hS2 := below_callI hS hS.size hb
                              refine hK.out _ _ hS2 (fun hHeld2 => ?_)
                              clear hK K
                              refine norm_ (a' := ?_) ?_ ?_
                              rotate_left
                              · show Act.put _ (some 13) _ = _
                                simp only [Act.put, List.setIfInBounds_toArray, List.set_cons_zero, List.set_cons_succ, i64_w, i32_w]
                                rfl
                              exact norm_ (by first | (simp only [putAll, Act.put, List.setIfInBounds_toArray, List.set_cons_zero, List.set_cons_succ]; done) | (simp only [putAll, Act.put, List.setIfInBounds_toArray, List.set_cons_zero, List.set_cons_succ]; rfl)) (hJ_3_8_9 (q8, q9) _ ⟨hS2, blk_below k8 hb, l8, hbox, l9, ne8⟩)
                        · skip
                          rintro _ w41 hS
                          refine norm_ (a' := ?_) ?_ ?_
                          rotate_left
                          · simp only [putAll, Act.put, List.setIfInBounds_toArray, List.set_cons_zero, List.set_cons_succ]
                            rfl
                          refine two_ (i := 8) (j := 9) (Ni := some 12) (Nj := some 13) #[true, true, true, true, true, true, true, true, true, false, false, false] #[true, true, true, true, true, true, true, true, false, true, false, false] rfl rfl rfl rfl (two_of HT_.out (by kernel_rfl)) (by decide) (by decide) (fun K hK => ?_) (fun K hK => ?_)
                          · skip
                            refine box_step ?hg (N := 12) ?hd (cs := #[.int .i64 0, .int .i64 0, .int .i64 0]) (t := 86) ?hr ?_; (case hd => rfl); (case hg => rfl); (case hr => first | (go_simp; done) | (go_simp; rfl))
                            intro q8 hg w40 hbox hb
                            have l8 : wr.heap.size ≤ q8 := by rw [hg]; exact hS.size
                            have hS2 := below_callI hS hS.size hb
                            refine hK.out _ _ hS2 (fun hHeld2 => ?_)
                            clear hK K
                            refine norm_ (a' := ?_) ?_ ?_
                            rotate_left
                            · show Act.put _ (some 12) _ = _
                              simp only [Act.put, List.setIfInBounds_toArray, List.set_cons_zero, List.set_cons_succ, i64_w, i32_w]
                              rfl
                            exact norm_ (by first | (simp only [putAll, Act.put, List.setIfInBounds_toArray, List.set_cons_zero, List.set_cons_succ]; done) | (simp only [putAll, Act.put, List.setIfInBounds_toArray, List.set_cons_zero, List.set_cons_succ]; rfl)) (hJ_3_7_8 q8 _ ⟨hS2, hbox, l8⟩)
                          · skip
                            refine box_step ?hg (N := 13) ?hd (cs := #[.int .i64 0, .int .i64 0, .int .i64 0]) (t := 86) ?hr ?_; (case hd => rfl); (case hg => rfl); (case hr => first | (go_simp; done) | (go_simp; rfl))
                            intro q9 hg w40 hbox hb
                            have l9 : wr.heap.size ≤ q9 := by rw [hg]; exact hS.size
                            have hS2 := below_callI hS hS.size hb
                            refine hK.out _ _ hS2 (fun hHeld2 => ?_)
                            clear hK K
                            refine norm_ (a' := ?_) ?_ ?_
                            rotate_left
                            · show Act.put _ (some 13) _ = _
                              simp only [Act.put, List.setIfInBounds_toArray, List.set_cons_zero, List.set_cons_succ, i64_w, i32_w]
                              rfl
                            exact norm_ (by first | (simp only [putAll, Act.put, List.setIfInBounds_toArray, List.set_cons_zero, List.set_cons_succ]; done) | (simp only [putAll, Act.put, List.setIfInBounds_toArray, List.set_cons_zero, List.set_cons_succ]; rfl)) (hJ_3_7_9 q9 _ ⟨hS2, hbox, l9⟩)
                      · skip
                        rintro ⟨q8, q9⟩ w41 ⟨hS, k8, l8, k9, l9, ne89⟩
                        replace ne89 : q8 ≠ q9 := ne89
                        replace k8 : w41.heap[q8]? = some (.cells #[.int .i64 0, .int .i64 0, .int .i64 0] 86 (0, 0)) := k8
                        replace l8 : wr.heap.size ≤ q8 := l8
                        replace k9 : w41.heap[q9]? = some (.cells #[.int .i64 0, .int .i64 0, .int .i64 0] 86 (0, 0)) := k9
                        replace l9 : wr.heap.size ≤ q9 := l9
                        refine norm_ (a' := ?_) ?_ ?_
                        rotate_left
                        · simp only [putAll, Act.put, List.setIfInBounds_toArray, List.set_cons_zero, List.set_cons_succ]
                          rfl
                        refine one_ (i := 7) (N := some 62) #[true, true, true, true, true, true, true, true, true, true, false, false] rfl rfl (one_of HT_.out (by kernel_rfl)) (by decide) (fun K hK => ?_)
                        refine goes_ Try.func68 (by kernel_rfl) rfl #[.slice A1_1 l1_1.length c1_1, .int .i64 pv] (by rfl) rfl rfl (by (try simp only [List.map_toArray, List.map_cons, List.map_nil]); first | done | rfl) ?_
                        refine (HWh3.out _ (below_callI HBq.out hsq hS) pv va vu vo EV.out).mono ?_
                        rintro e w40 ⟨rfl, hb⟩
                        refine ⟨_, rfl, ?_⟩
                        have hS2 := below_callI hS hS.size hb
                        refine hK.out _ _ hS2 (fun hHeld2 => ?_)
                        clear hK K
                        refine norm_ (a' := ?_) ?_ ?_
                        rotate_left
                        · show Act.put _ (some 62) _ = _
                          simp only [Act.put, List.setIfInBounds_toArray, List.set_cons_zero, List.set_cons_succ, i64_w, i32_w]
                          rfl
                        exact norm_ (by first | (simp only [putAll, Act.put, List.setIfInBounds_toArray, List.set_cons_zero, List.set_cons_succ]; done) | (simp only [putAll, Act.put, List.setIfInBounds_toArray, List.set_cons_zero, List.set_cons_succ]; rfl)) (hJ_3_7_8_9 (q8, q9) _ ⟨hS2, blk_below k8 hb, l8, blk_below k9 hb, l9, ne89⟩)
                    · skip
                      rintro q9 w41 ⟨hS, k9, l9⟩
                      replace k9 : w41.heap[q9]? = some (.cells #[.int .i64 0, .int .i64 0, .int .i64 0] 86 (0, 0)) := k9
                      replace l9 : wr.heap.size ≤ q9 := l9
                      refine norm_ (a' := ?_) ?_ ?_
                      rotate_left
                      · simp only [putAll, Act.put, List.setIfInBounds_toArray, List.set_cons_zero, List.set_cons_succ]
                        rfl
                      refine one_ (i := 8) (N := some 12) #[true, true, true, true, true, true, true, true, true, true, false, false] rfl rfl (one_of HT_.out (by kernel_rfl)) (by decide) (fun K hK => ?_)
                      refine box_step ?hg (N := 12) ?hd (cs := #[.int .i64 0, .int .i64 0, .int .i64 0]) (t := 86) ?hr ?_; (case hd => rfl); (case hg => rfl); (case hr => first | (go_simp; done) | (go_simp; rfl))
                      intro q8 hg w40 hbox hb
                      have l8 : wr.heap.size ≤ q8 := by rw [hg]; exact hS.size
                      have ne9 : q9 ≠ q8 := by rw [hg]; exact Nat.ne_of_lt (blk_lt k9)
                      have hS2 := below_callI hS hS.size hb
                      refine hK.out _ _ hS2 (fun hHeld2 => ?_)
                      clear hK K
                      refine norm_ (a' := ?_) ?_ ?_
                      rotate_left
                      · show Act.put _ (some 12) _ = _
                        simp only [Act.put, List.setIfInBounds_toArray, List.set_cons_zero, List.set_cons_succ, i64_w, i32_w]
                        rfl
                      exact norm_ (by first | (simp only [putAll, Act.put, List.setIfInBounds_toArray, List.set_cons_zero, List.set_cons_succ]; done) | (simp only [putAll, Act.put, List.setIfInBounds_toArray, List.set_cons_zero, List.set_cons_succ]; rfl)) (hJ_3_7_8_9 (q8, q9) _ ⟨hS2, hbox, l8, blk_below k9 hb, l9, fun h => ne9 h.symm⟩)
                  · skip
                    rintro q8 w41 ⟨hS, k8, l8⟩
                    replace k8 : w41.heap[q8]? = some (.cells #[.int .i64 0, .int .i64 0, .int .i64 0] 86 (0, 0)) := k8
                    replace l8 : wr.heap.size ≤ q8 := l8
                    refine norm_ (a' := ?_) ?_ ?_
                    rotate_left
                    · simp only [putAll, Act.put, List.setIfInBounds_toArray, List.set_cons_zero, List.set_cons_succ]
                      rfl
                    refine one_ (i := 9) (N := some 13) #[true, true, true, true, true, true, true, true, true, true, false, false] rfl rfl (one_of HT_.out (by kernel_rfl)) (by decide) (fun K hK => ?_)
                    refine box_step ?hg (N := 13) ?hd (cs := #[.int .i64 0, .int .i64 0, .int .i64 0]) (t := 86) ?hr ?_; (case hd => rfl); (case hg => rfl); (case hr => first | (go_simp; done) | (go_simp; rfl))
                    intro q9 hg w40 hbox hb
                    have l9 : wr.heap.size ≤ q9 := by rw [hg]; exact hS.size
                    have ne8 : q8 ≠ q9 := by rw [hg]; exact Nat.ne_of_lt (blk_lt k8)
                    have hS2 := below_callI hS hS.size hb
                    refine hK.out _ _ hS2 (fun hHeld2 => ?_)
                    clear hK K
                    refine norm_ (a' := ?_) ?_ ?_
                    rotate_left
                    · show Act.put _ (some 13) _ = _
                      simp only [Act.put, List.setIfInBounds_toArray, List.set_cons_zero, List.set_cons_succ, i64_w, i32_w]
                      rfl
                    exact norm_ (by first | (simp only [putAll, Act.put, List.setIfInBounds_toArray, List.set_cons_zero, List.set_cons_succ]; done) | (simp only [putAll, Act.put, List.setIfInBounds_toArray, List.set_cons_zero, List.set_cons_succ]; rfl)) (hJ_3_7_8_9 (q8, q9) _ ⟨hS2, blk_below k8 hb, l8, hbox, l9, ne8⟩)
                · skip
                  rintro ⟨q8, q9⟩ w41 ⟨hS, k8, l8, k9, l9, ne89⟩
                  replace ne89 : q8 ≠ q9 := ne89
                  replace k8 : w41.heap[q8]? = some (.cells #[.int .i64 0, .int .i64 0, .int .i64 0] 86 (0, 0)) := k8
                  replace l8 : wr.heap.size ≤ q8 := l8
                  replace k9 : w41.heap[q9]? = some (.cells #[.int .i64 0, .int .i64 0, .int .i64 0] 86 (0, 0)) := k9
                  replace l9 : wr.heap.size ≤ q9 := l9
                  refine norm_ (a' := ?_) ?_ ?_
                  rotate_left
                  · simp only [putAll, Act.put, List.setIfInBounds_toArray, List.set_cons_zero, List.set_cons_succ]
                    rfl
                  refine one_ (i := 10) (N := none) #[true, true, true, true, true, true, true, true, true, true, true, false] rfl rfl (one_of HT_.out (by kernel_rfl)) (by decide) (fun K hK => ?_)
                  have c8_0 : w41.cell? ⟨q8, 0, none⟩ = some (.int .i64 0) := (blk_cell k8 0).trans rfl
                  have f8_0 := blk_frozen k8 0
                  have c8_1 : w41.cell? ⟨q8, 1, none⟩ = some (.int .i64 0) := (blk_cell k8 1).trans rfl
                  have f8_1 := blk_frozen k8 1
                  have c8_2 : w41.cell? ⟨q8, 2, none⟩ = some (.int .i64 0) := (blk_cell k8 2).trans rfl
                  have f8_2 := blk_frozen k8 2
                  have c9_0 : w41.cell? ⟨q9, 0, none⟩ = some (.int .i64 0) := (blk_cell k9 0).trans rfl
                  have f9_0 := blk_frozen k9 0
                  have c9_1 : w41.cell? ⟨q9, 1, none⟩ = some (.int .i64 0) := (blk_cell k9 1).trans rfl
                  have f9_1 := blk_frozen k9 1
                  have c9_2 : w41.cell? ⟨q9, 2, none⟩ = some (.int .i64 0) := (blk_cell k9 2).trans rfl
                  have f9_2 := blk_frozen k9 2
                  have ne98 : q9 ≠ q8 := fun h => ne89 h.symm
                  refine skip_ (w1 := ?_) (by rfl) rfl ?_ ?_
                  rotate_left
                  · go_simp
                    rfl
                  refine hK.out _ _ (below_set (below_set (below_set hS l8) l8) l8) (fun hHeld2 => ?_)
                  clear hK K
                  refine one_ (i := 11) (N := none) #[true, true, true, true, true, true, true, true, true, true, true, true] rfl rfl (one_of HT_.out (by kernel_rfl)) (by decide) (fun K hK => ?_)
                  refine skip_ (w1 := ?_) (by rfl) rfl ?_ ?_
                  rotate_left
                  · go_simp
                    rfl
                  refine hK.out _ _ (below_set (below_set (below_set (below_set (below_set (below_set hS l8) l8) l8) l9) l9) l9) (fun hHeld2 => ?_)
                  clear hK K
                  refine done_ (done_of HT_.out (by kernel_rfl)) ?_
                  have B12 : Aside0 ((World.setCell (World.setCell (World.setCell (World.setCell (World.setCell (World.setCell w41 ⟨q8, 0, none⟩ (.int .i64 ya)) ⟨q8, 1, none⟩ (.int .i64 yu)) ⟨q8, 2, none⟩ (.int .i64 yo)) ⟨q9, 0, none⟩ (.int .i64 va)) ⟨q9, 1, none⟩ (.int .i64 vu)) ⟨q9, 2, none⟩ (.int .i64 vo)).heap[q8]? = some (.cells #[.int .i64 ya, .int .i64 yu, .int .i64 yo] 86 (0, 0))) := ⟨by refine blk_far (blk_far (blk_far ?_ ne89 _) ne89 _) ne89 _; exact (by refine blk_put (cs := #[.int .i64 ya, .int .i64 yu, .int .i64 0]) ?_ 2 _ rfl; refine blk_put (cs := #[.int .i64 ya, .int .i64 0, .int .i64 0]) ?_ 1 _ rfl; refine blk_put (cs := #[.int .i64 0, .int .i64 0, .int .i64 0]) ?_ 0 _ rfl; exact k8)⟩
                  have B13 : Aside0 ((World.setCell (World.setCell (World.setCell (World.setCell (World.setCell (World.setCell w41 ⟨q8, 0, none⟩ (.int .i64 ya)) ⟨q8, 1, none⟩ (.int .i64 yu)) ⟨q8, 2, none⟩ (.int .i64 yo)) ⟨q9, 0, none⟩ (.int .i64 va)) ⟨q9, 1, none⟩ (.int .i64 vu)) ⟨q9, 2, none⟩ (.int .i64 vo)).heap[q9]? = some (.cells #[.int .i64 va, .int .i64 vu, .int .i64 vo] 86 (0, 0))) := ⟨(by refine blk_put (cs := #[.int .i64 va, .int .i64 vu, .int .i64 0]) ?_ 2 _ rfl; refine blk_put (cs := #[.int .i64 va, .int .i64 0, .int .i64 0]) ?_ 1 _ rfl; refine blk_put (cs := #[.int .i64 0, .int .i64 0, .int .i64 0]) ?_ 0 _ rfl; exact blk_far (blk_far (blk_far k9 ne98 _) ne98 _) ne98 _)⟩
                  have HBw12 : Aside0 (Below wr.heap.size wr (World.setCell (World.setCell (World.setCell (World.setCell (World.setCell (World.setCell w41 ⟨q8, 0, none⟩ (.int .i64 ya)) ⟨q8, 1, none⟩ (.int .i64 yu)) ⟨q8, 2, none⟩ (.int .i64 yo)) ⟨q9, 0, none⟩ (.int .i64 va)) ⟨q9, 1, none⟩ (.int .i64 vu)) ⟨q9, 2, none⟩ (.int .i64 vo))) := ⟨below_set (below_set (below_set (below_set (below_set (below_set hS l8) l8) l8) l9) l9) l9⟩
                  clear hHeld2 c8_0 f8_0 c8_1 f8_1 c8_2 f8_2 c9_0 f9_0 c9_1 f9_1 c9_2 f9_2
                  clear HT_ HW_ hS hHeld k8 k9 l8 l9 ne89 ne98
                  generalize (World.setCell (World.setCell (World.setCell (World.setCell (World.setCell (World.setCell w41 ⟨q8, 0, none⟩ (.int .i64 ya)) ⟨q8, 1, none⟩ (.int .i64 yu)) ⟨q8, 2, none⟩ (.int .i64 yo)) ⟨q9, 0, none⟩ (.int .i64 va)) ⟨q9, 1, none⟩ (.int .i64 vu)) ⟨q9, 2, none⟩ (.int .i64 vo)) = w12 at B12 B13 HBw12 ⊢
                  have HB6w := Aside0.mk (below_callI HB68.out HB68.out.size HBw12.out)
                  have HBz := Aside0.mk (below_callI HBw.out hs6 HB6w.out)
                  have hsz : w.heap.size ≤ w12.heap.size := HBz.out.size
                  have hz0 := pw_cell_below HB6w.out y2
                  have hz1 := pw_cell_below HB6w.out y3
                  have hz2 := pw_cell_below HB6w.out y6
                  have hz3 := pw_cell_below HB6w.out y7
                  have hk8 := blk_below (blk_below B8.out hQ.out) HBw12.out
                  have hk9 := blk_below (blk_below B9.out hQ.out) HBw12.out
                  have hx0 : w12.cell? ⟨p8, 0, none⟩ = some (.int .i64 xa) := (blk_cell hk8 0).trans rfl
                  have hx1 : w12.cell? ⟨p8, 1, none⟩ = some (.int .i64 xu) := (blk_cell hk8 1).trans rfl
                  have hx2 : w12.cell? ⟨p8, 2, none⟩ = some (.int .i64 xo) := (blk_cell hk8 2).trans rfl
                  have hu0 : w12.cell? ⟨p9, 0, none⟩ = some (.int .i64 ua) := (blk_cell hk9 0).trans rfl
                  have hu1 : w12.cell? ⟨p9, 1, none⟩ = some (.int .i64 uu) := (blk_cell hk9 1).trans rfl
                  have hu2 : w12.cell? ⟨p9, 2, none⟩ = some (.int .i64 uo) := (blk_cell hk9 2).trans rfl
                  have hy0 : w12.cell? ⟨q8, 0, none⟩ = some (.int .i64 ya) := (blk_cell B12.out 0).trans rfl
                  have hy1 : w12.cell? ⟨q8, 1, none⟩ = some (.int .i64 yu) := (blk_cell B12.out 1).trans rfl
                  have hy2 : w12.cell? ⟨q8, 2, none⟩ = some (.int .i64 yo) := (blk_cell B12.out 2).trans rfl
                  have hv0 : w12.cell? ⟨q9, 0, none⟩ = some (.int .i64 va) := (blk_cell B13.out 0).trans rfl
                  have hv1 : w12.cell? ⟨q9, 1, none⟩ = some (.int .i64 vu) := (blk_cell B13.out 1).trans rfl
                  have hv2 : w12.cell? ⟨q9, 2, none⟩ = some (.int .i64 vo) := (blk_cell B13.out 2).trans rfl
                  clear hk8 hk9 hcell' f1 f5
                  have eb2 := EB2.out
                  unfold insAt at eb2
                  dsimp only at eb2
                  obtain ⟨m1, em1, eb2⟩ := Option.bind_eq_some_iff.mp eb2
                  obtain ⟨m2, em2, eb2⟩ := Option.bind_eq_some_iff.mp eb2
                  have EM1 := Aside0.mk em1
                  have EM2 := Aside0.mk em2
                  have hw1 : IntKind.i64.wrap (xo * yo) = wrap64 (xo * yo) := i64_w _
                  have hw2 : IntKind.i64.wrap (uo * vo) = wrap64 (uo * vo) := i64_w _
                  obtain ⟨mA, hmA⟩ : ∃ mA, mA = wrap64 (xo * yo) := ⟨_, rfl⟩
                  obtain ⟨mB, hmB⟩ : ∃ mB, mB = wrap64 (uo * vo) := ⟨_, rfl⟩
                  rw [← hmA] at hw1 eb2
                  rw [← hmB] at hw2 eb2
                  have hw3 : IntKind.i64.wrap (m1 * mA) = wrap64 (m1 * mA) := i64_w _
                  have hw4 : IntKind.i64.wrap (m2 * mB) = wrap64 (m2 * mB) := i64_w _
                  obtain ⟨nA, hnA⟩ : ∃ nA, nA = wrap64 (m1 * mA) := ⟨_, rfl⟩
                  obtain ⟨nB, hnB⟩ : ∃ nB, nB = wrap64 (m2 * mB) := ⟨_, rfl⟩
                  rw [← hnA] at hw3 eb2
                  rw [← hnB] at hw4 eb2
                  clear em1 em2 EB2 hmA hmB hnA hnB EX EU EY EV
                  go_wp2_with fail
                  go_quiet (fail)
                  go_wp2_with fail
                  clear hw1 hw2
                  obtain ⟨w13, hw13⟩ : ∃ w13, w13 = w12.drewN nq := ⟨_, rfl⟩
                  rw [← hw13]
                  have hb13 : Below w12.heap.size w12 w13 := by rw [hw13]; exact pw_below_drewN (Below.refl _ _) _
                  clear hw13
                  by_cases hc1 : nA < nB
                  · rw [if_pos hc1] at eb2
                    have hd1 : decide (nA < nB) = true := decide_eq_true hc1
                    obtain rfl := Option.some.inj eb2
                    have hR1 := HR1.out
                    rw [if_neg (by simp)] at hR1
                    obtain rfl := Option.some.inj hR1
                    have hT1 := HT1.out
                    rw [if_neg (by simp)] at hT1
                    obtain rfl := Option.some.inj hT1
                    clear hR1 hT1
                    refine start_ (n := 32) (S := fun w' => Below w12.heap.size w12 w') (ds := []) #[false, false, false, false, false, false, false, false, false, false, false, false, false, false, false, false, false, false, false, false, false, false, false, false, false, false, false, false, false, false, false, false] (by kernel_rfl) rfl rfl (below_drew hb13) (fun hHeld => ?_)
                    refine with_tabW curve_Inside.tab13 curve_Inside.bits13 (fun HT_ HW_ => ?_)
                    generalize w13.drew = w39 at hHeld ⊢
                    refine pure_ (i := 0) (N := some 73) (v := ?_) (a' := ?_) #[true, false, false, false, false, false, false, false, false, false, false, false, false, false, false, false, false, false, false, false, false, false, false, false, false, false, false, false, false, false, false, false] rfl rfl (any_of HT_.out (by kernel_rfl)) (fun _ _ _ h => h) (Or.inl ⟨by rfl, ?_⟩) ?_ ?_
                    rotate_left
                    · intro w'
                      go_simp
                      with_reducible rfl
                    rotate_left
                    · simp only [Act.put, List.setIfInBounds_toArray, List.set_cons_zero, List.set_cons_succ, i64_w, i32_w]
                      rfl
                    refine pure_ (i := 5) (N := some 78) (v := ?_) (a' := ?_) #[true, false, false, false, false, true, false, false, false, false, false, false, false, false, false, false, false, false, false, false, false, false, false, false, false, false, false, false, false, false, false, false] rfl rfl (any_of HT_.out (by kernel_rfl)) (fun _ _ _ h => h) (Or.inl ⟨by rfl, ?_⟩) ?_ ?_
                    rotate_left
                    · intro w'
                      go_simp
                      with_reducible rfl
                    rotate_left
                    · simp only [Act.put, List.setIfInBounds_toArray, List.set_cons_zero, List.set_cons_succ, i64_w, i32_w]
                      rfl
                    refine pure_ (i := 7) (N := some 80) (v := ?_) (a' := ?_) #[true, false, false, false, false, true, false, true, false, false, false, false, false, false, false, false, false, false, false, false, false, false, false, false, false, false, false, false, false, false, false, false] rfl rfl (any_of HT_.out (by kernel_rfl)) (fun _ _ _ h => h) (Or.inl ⟨by rfl, ?_⟩) ?_ ?_
                    rotate_left
                    · intro w'
                      go_simp
                      with_reducible rfl
                    rotate_left
                    · simp only [Act.put, List.setIfInBounds_toArray, List.set_cons_zero, List.set_cons_succ, i64_w, i32_w]
                      rfl
                    refine pure_ (i := 12) (N := some 85) (v := ?_) (a' := ?_) #[true, false, false, false, false, true, false, true, false, false, false, false, true, false, false, false, false, false, false, false, false, false, false, false, false, false, false, false, false, false, false, false] rfl rfl (any_of HT_.out (by kernel_rfl)) (fun _ _ _ h => h) (Or.inl ⟨by rfl, ?_⟩) ?_ ?_
                    rotate_left
                    · intro w'
                      go_simp
                      with_reducible rfl
                    rotate_left
                    · simp only [Act.put, List.setIfInBounds_toArray, List.set_cons_zero, List.set_cons_succ, i64_w, i32_w]
                      rfl
                    refine take_ (i := 1) (N := some 74) (v := ?_) (a' := ?_) #[true, true, false, false, false, true, false, true, false, false, false, false, true, false, false, false, false, false, false, false, false, false, false, false, false, false, false, false, false, false, false, false] rfl rfl (take_ofW HT_.out HW_.out (by kernel_rfl)) (fun _ _ _ h => h) (Or.inl ⟨by rfl, ?_⟩) hHeld ?_ ?_
                    rotate_left
                    · intro w' hS_
                      have s0 := pw_cell_below hS_ hz2
                      go_simp
                      with_reducible rfl
                    rotate_left
                    · simp only [Act.put, List.setIfInBounds_toArray, List.set_cons_zero, List.set_cons_succ, i64_w, i32_w]
                      rfl
                    refine take_ (i := 2) (N := some 75) (v := ?_) (a' := ?_) #[true, true, true, false, false, true, false, true, false, false, false, false, true, false, false, false, false, false, false, false, false, false, false, false, false, false, false, false, false, false, false, false] rfl rfl (take_ofW HT_.out HW_.out (by kernel_rfl)) (fun _ _ _ h => h) (Or.inl ⟨by rfl, ?_⟩) hHeld ?_ ?_
                    rotate_left
                    · intro w' hS_
                      have s0 := pw_cell_below hS_ hu0
                      have s1 := pw_cell_below hS_ hu1
                      have s2 := pw_cell_below hS_ hu2
                      go_simp
                      with_reducible rfl
                    rotate_left
                    · simp only [Act.put, List.setIfInBounds_toArray, List.set_cons_zero, List.set_cons_succ, i64_w, i32_w]
                      rfl
                    refine take_ (i := 3) (N := some 76) (v := ?_) (a' := ?_) #[true, true, true, true, false, true, false, true, false, false, false, false, true, false, false, false, false, false, false, false, false, false, false, false, false, false, false, false, false, false, false, false] rfl rfl (take_ofW HT_.out HW_.out (by kernel_rfl)) (fun _ _ _ h => h) (Or.inl ⟨by rfl, ?_⟩) hHeld ?_ ?_
                    rotate_left
                    · intro w' hS_
                      have s0 := pw_cell_below hS_ hv0
                      have s1 := pw_cell_below hS_ hv1
                      have s2 := pw_cell_below hS_ hv2
                      go_simp
                      with_reducible rfl
                    rotate_left
                    · simp only [Act.put, List.setIfInBounds_toArray, List.set_cons_zero, List.set_cons_succ, i64_w, i32_w]
                      rfl
                    refine take_ (i := 8) (N := some 81) (v := ?_) (a' := ?_) #[true, true, true, true, false, true, false, true, true, false, false, false, true, false, false, false, false, false, false, false, false, false, false, false, false, false, false, false, false, false, false, false] rfl rfl (take_ofW HT_.out HW_.out (by kernel_rfl)) (fun _ _ _ h => h) (Or.inl ⟨by rfl, ?_⟩) hHeld ?_ ?_
                    rotate_left
                    · intro w' hS_
                      have s0 := pw_cell_below hS_ hz0
                      go_simp
                      with_reducible rfl
                    rotate_left
                    · simp only [Act.put, List.setIfInBounds_toArray, List.set_cons_zero, List.set_cons_succ, i64_w, i32_w]
                      rfl
                    refine take_ (i := 9) (N := some 82) (v := ?_) (a' := ?_) #[true, true, true, true, false, true, false, true, true, true, false, false, true, false, false, false, false, false, false, false, false, false, false, false, false, false, false, false, false, false, false, false] rfl rfl (take_ofW HT_.out HW_.out (by kernel_rfl)) (fun _ _ _ h => h) (Or.inl ⟨by rfl, ?_⟩) hHeld ?_ ?_
                    rotate_left
                    · intro w' hS_
                      have s0 := pw_cell_below hS_ hx0
                      have s1 := pw_cell_below hS_ hx1
                      have s2 := pw_cell_below hS_ hx2
                      go_simp
                      with_reducible rfl
                    rotate_left
                    · simp only [Act.put, List.setIfInBounds_toArray, List.set_cons_zero, List.set_cons_succ, i64_w, i32_w]
                      rfl
                    refine take_ (i := 10) (N := some 83) (v := ?_) (a' := ?_) #[true, true, true, true, false, true, false, true, true, true, true, false, true, false, false, false, false, false, false, false, false, false, false, false, false, false, false, false, false, false, false, false] rfl rfl (take_ofW HT_.out HW_.out (by kernel_rfl)) (fun _ _ _ h => h) (Or.inl ⟨by rfl, ?_⟩) hHeld ?_ ?_
                    rotate_left
                    · intro w' hS_
                      have s0 := pw_cell_below hS_ hy0
                      have s1 := pw_cell_below hS_ hy1
                      have s2 := pw_cell_below hS_ hy2
                      go_simp
                      with_reducible rfl
                    rotate_left
                    · simp only [Act.put, List.setIfInBounds_toArray, List.set_cons_zero, List.set_cons_succ, i64_w, i32_w]
                      rfl
                    refine one_ (i := 4) (N := some 77) #[true, true, true, true, true, true, false, true, true, true, true, false, true, false, false, false, false, false, false, false, false, false, false, false, false, false, false, false, false, false, false, false] rfl rfl (one_of HT_.out (by kernel_rfl)) (by decide) (fun K hK => ?_)
                    refine goes_ Try.func70 (by kernel_rfl) rfl #[.slice A1_2 l1_2.length c1_2, .agg #[.int .i64 ua, .int .i64 uu, .int .i64 uo], .agg #[.int .i64 va, .int .i64 vu, .int .i64 vo]] (by rfl) rfl rfl (by (try simp only [List.map_toArray, List.map_cons, List.map_nil]); first | done | rfl) ?_
                    refine (HV2.out _ (below_callI HBz.out hsz hHeld) ua uu uo va vu vo m1 EM1.out).mono ?_
                    rintro e w14 ⟨rfl, hb⟩
                    refine ⟨_, rfl, ?_⟩
                    replace hHeld := below_callI hHeld hHeld.size hb
                    refine hK.out _ _ hHeld (fun hHeld2 => ?_)
                    clear hK K
                    refine norm_ (a' := ?_) ?_ ?_
                    rotate_left
                    · show Act.put _ (some 77) _ = _
                      simp only [Act.put, List.setIfInBounds_toArray, List.set_cons_zero, List.set_cons_succ, i64_w, i32_w]
                      rfl
                    refine pure_ (i := 6) (N := some 79) (v := ?_) (a' := ?_) #[true, true, true, true, true, true, true, true, true, true, true, false, true, false, false, false, false, false, false, false, false, false, false, false, false, false, false, false, false, false, false, false] rfl rfl (any_of HT_.out (by kernel_rfl)) (fun _ _ _ h => h) (Or.inl ⟨by rfl, ?_⟩) ?_ ?_
                    rotate_left
                    · intro w'
                      go_simp
                      with_reducible rfl
                    rotate_left
                    · simp only [Act.put, List.setIfInBounds_toArray, List.set_cons_zero, List.set_cons_succ, i64_w, i32_w]
                      rfl
                    refine one_ (i := 11) (N := some 84) #[true, true, true, true, true, true, true, true, true, true, true, true, true, false, false, false, false, false, false, false, false, false, false, false, false, false, false, false, false, false, false, false] rfl rfl (one_of HT_.out (by kernel_rfl)) (by decide) (fun K hK => ?_)
                    refine goes_ Try.func70 (by kernel_rfl) rfl #[.slice A0_2 l0_2.length c0_2, .agg #[.int .i64 xa, .int .i64 xu, .int .i64 xo], .agg #[.int .i64 ya, .int .i64 yu, .int .i64 yo]] (by rfl) rfl rfl (by (try simp only [List.map_toArray, List.map_cons, List.map_nil]); first | done | rfl) ?_
                    refine (HV0.out _ (below_callI HBz.out hsz hHeld) xa xu xo ya yu yo m2 EM2.out).mono ?_
                    rintro e w15 ⟨rfl, hb⟩
                    refine ⟨_, rfl, ?_⟩
                    replace hHeld := below_callI hHeld hHeld.size hb
                    refine hK.out _ _ hHeld (fun hHeld2 => ?_)
                    clear hK K
                    refine norm_ (a' := ?_) ?_ ?_
                    rotate_left
                    · show Act.put _ (some 84) _ = _
                      simp only [Act.put, List.setIfInBounds_toArray, List.set_cons_zero, List.set_cons_succ, i64_w, i32_w]
                      rfl
                    refine pure_ (i := 13) (N := some 86) (v := ?_) (a' := ?_) #[true, true, true, true, true, true, true, true, true, true, true, true, true, true, false, false, false, false, false, false, false, false, false, false, false, false, false, false, false, false, false, false] rfl rfl (any_of HT_.out (by kernel_rfl)) (fun _ _ _ h => h) (Or.inl ⟨by rfl, ?_⟩) ?_ ?_
                    rotate_left
                    · intro w'
                      go_simp
                      with_reducible rfl
                    rotate_left
                    · simp only [Act.put, List.setIfInBounds_toArray, List.set_cons_zero, List.set_cons_succ, i64_w, i32_w]
                      rfl
                    refine pure_ (i := 14) (N := some 87) (v := ?_) (a' := ?_) #[true, true, true, true, true, true, true, true, true, true, true, true, true, true, true, false, false, false, false, false, false, false, false, false, false, false, false, false, false, false, false, false] rfl rfl (any_of HT_.out (by kernel_rfl)) (fun _ _ _ h => h) (Or.inl ⟨by rfl, ?_⟩) ?_ ?_
                    rotate_left
                    · intro w'
                      go_simp
                      with_reducible rfl
                    rotate_left
                    · simp only [Act.put, List.setIfInBounds_toArray, List.set_cons_zero, List.set_cons_succ, i64_w, i32_w]
                      rfl
                    refine pure_ (i := 15) (N := some 88) (v := ?_) (a' := ?_) #[true, true, true, true, true, true, true, true, true, true, true, true, true, true, true, true, false, false, false, false, false, false, false, false, false, false, false, false, false, false, false, false] rfl rfl (any_of HT_.out (by kernel_rfl)) (fun _ _ _ h => h) (Or.inl ⟨by rfl, ?_⟩) ?_ ?_
                    rotate_left
                    · intro w'
                      go_simp
                      with_reducible rfl
                    rotate_left
                    · simp only [Act.put, List.setIfInBounds_toArray, List.set_cons_zero, List.set_cons_succ, i64_w, i32_w]
                      rfl
                    refine pure_ (i := 16) (N := some 89) (v := undef) (a' := ?_) #[true, true, true, true, true, true, true, true, true, true, true, true, true, true, true, true, true, false, false, false, false, false, false, false, false, false, false, false, false, false, false, false] rfl rfl (any_of HT_.out (by kernel_rfl)) (fun _ _ _ h => h) (Or.inr ⟨by rfl, rfl⟩) ?_ ?_
                    rotate_left
                    · simp only [Act.put, List.setIfInBounds_toArray, List.set_cons_zero, List.set_cons_succ, i64_w, i32_w]
                      rfl
                    refine pure_ (i := 17) (N := some 90) (v := undef) (a' := ?_) #[true, true, true, true, true, true, true, true, true, true, true, true, true, true, true, true, true, true, false, false, false, false, false, false, false, false, false, false, false, false, false, false] rfl rfl (any_of HT_.out (by kernel_rfl)) (fun _ _ _ h => h) (Or.inr ⟨by rfl, rfl⟩) ?_ ?_
                    rotate_left
                    · simp only [Act.put, List.setIfInBounds_toArray, List.set_cons_zero, List.set_cons_succ, i64_w, i32_w]
                      rfl
                    refine pure_ (i := 18) (N := some 91) (v := undef) (a' := ?_) #[true, true, true, true, true, true, true, true, true, true, true, true, true, true, true, true, true, true, true, false, false, false, false, false, false, false, false, false, false, false, false, false] rfl rfl (any_of HT_.out (by kernel_rfl)) (fun _ _ _ h => h) (Or.inr ⟨by rfl, rfl⟩) ?_ ?_
                    rotate_left
                    · simp only [Act.put, List.setIfInBounds_toArray, List.set_cons_zero, List.set_cons_succ, i64_w, i32_w]
                      rfl
                    refine pure_ (i := 19) (N := some 92) (v := undef) (a' := ?_) #[true, true, true, true, true, true, true, true, true, true, true, true, true, true, true, true, true, true, true, true, false, false, false, false, false, false, false, false, false, false, false, false] rfl rfl (any_of HT_.out (by kernel_rfl)) (fun _ _ _ h => h) (Or.inr ⟨by rfl, rfl⟩) ?_ ?_
                    rotate_left
                    · simp only [Act.put, List.setIfInBounds_toArray, List.set_cons_zero, List.set_cons_succ, i64_w, i32_w]
                      rfl
                    refine pure_ (i := 20) (N := some 93) (v := undef) (a' := ?_) #[true, true, true, true, true, true, true, true, true, true, true, true, true, true, true, true, true, true, true, true, true, false, false, false, false, false, false, false, false, false, false, false] rfl rfl (any_of HT_.out (by kernel_rfl)) (fun _ _ _ h => h) (Or.inr ⟨by rfl, rfl⟩) ?_ ?_
                    rotate_left
                    · simp only [Act.put, List.setIfInBounds_toArray, List.set_cons_zero, List.set_cons_succ, i64_w, i32_w]
                      rfl
                    refine pure_ (i := 21) (N := some 94) (v := undef) (a' := ?_) #[true, true, true, true, true, true, true, true, true, true, true, true, true, true, true, true, true, true, true, true, true, true, false, false, false, false, false, false, false, false, false, false] rfl rfl (any_of HT_.out (by kernel_rfl)) (fun _ _ _ h => h) (Or.inr ⟨by rfl, rfl⟩) ?_ ?_
                    rotate_left
                    · simp only [Act.put, List.setIfInBounds_toArray, List.set_cons_zero, List.set_cons_succ, i64_w, i32_w]
                      rfl
                    refine pure_ (i := 22) (N := some 95) (v := undef) (a' := ?_) #[true, true, true, true, true, true, true, true, true, true, true, true, true, true, true, true, true, true, true, true, true, true, true, false, false, false, false, false, false, false, false, false] rfl rfl (any_of HT_.out (by kernel_rfl)) (fun _ _ _ h => h) (Or.inr ⟨by rfl, rfl⟩) ?_ ?_
                    rotate_left
                    · simp only [Act.put, List.setIfInBounds_toArray, List.set_cons_zero, List.set_cons_succ, i64_w, i32_w]
                      rfl
                    refine pure_ (i := 23) (N := some 96) (v := undef) (a' := ?_) #[true, true, true, true, true, true, true, true, true, true, true, true, true, true, true, true, true, true, true, true, true, true, true, true, false, false, false, false, false, false, false, false] rfl rfl (any_of HT_.out (by kernel_rfl)) (fun _ _ _ h => h) (Or.inr ⟨by rfl, rfl⟩) ?_ ?_
                    rotate_left
                    · simp only [Act.put, List.setIfInBounds_toArray, List.set_cons_zero, List.set_cons_succ, i64_w, i32_w]
                      rfl
                    refine pure_ (i := 24) (N := some 97) (v := undef) (a' := ?_) #[true, true, true, true, true, true, true, true, true, true, true, true, true, true, true, true, true, true, true, true, true, true, true, true, true, false, false, false, false, false, false, false] rfl rfl (any_of HT_.out (by kernel_rfl)) (fun _ _ _ h => h) (Or.inr ⟨by rfl, rfl⟩) ?_ ?_
                    rotate_left
                    · simp only [Act.put, List.setIfInBounds_toArray, List.set_cons_zero, List.set_cons_succ, i64_w, i32_w]
                      rfl
                    refine pure_ (i := 25) (N := some 98) (v := undef) (a' := ?_) #[true, true, true, true, true, true, true, true, true, true, true, true, true, true, true, true, true, true, true, true, true, true, true, true, true, true, false, false, false, false, false, false] rfl rfl (any_of HT_.out (by kernel_rfl)) (fun _ _ _ h => h) (Or.inr ⟨by rfl, rfl⟩) ?_ ?_
                    rotate_left
                    · simp only [Act.put, List.setIfInBounds_toArray, List.set_cons_zero, List.set_cons_succ, i64_w, i32_w]
                      rfl
                    refine pure_ (i := 26) (N := some 99) (v := undef) (a' := ?_) #[true, true, true, true, true, true, true, true, true, true, true, true, true, true, true, true, true, true, true, true, true, true, true, true, true, true, true, false, false, false, false, false] rfl rfl (any_of HT_.out (by kernel_rfl)) (fun _ _ _ h => h) (Or.inr ⟨by rfl, rfl⟩) ?_ ?_
                    rotate_left
                    · simp only [Act.put, List.setIfInBounds_toArray, List.set_cons_zero, List.set_cons_succ, i64_w, i32_w]
                      rfl
                    refine pure_ (i := 27) (N := some 100) (v := undef) (a' := ?_) #[true, true, true, true, true, true, true, true, true, true, true, true, true, true, true, true, true, true, true, true, true, true, true, true, true, true, true, true, false, false, false, false] rfl rfl (any_of HT_.out (by kernel_rfl)) (fun _ _ _ h => h) (Or.inr ⟨by rfl, rfl⟩) ?_ ?_
                    rotate_left
                    · simp only [Act.put, List.setIfInBounds_toArray, List.set_cons_zero, List.set_cons_succ, i64_w, i32_w]
                      rfl
                    refine pure_ (i := 28) (N := some 101) (v := undef) (a' := ?_) #[true, true, true, true, true, true, true, true, true, true, true, true, true, true, true, true, true, true, true, true, true, true, true, true, true, true, true, true, true, false, false, false] rfl rfl (any_of HT_.out (by kernel_rfl)) (fun _ _ _ h => h) (Or.inr ⟨by rfl, rfl⟩) ?_ ?_
                    rotate_left
                    · simp only [Act.put, List.setIfInBounds_toArray, List.set_cons_zero, List.set_cons_succ, i64_w, i32_w]
                      rfl
                    refine pure_ (i := 29) (N := some 102) (v := undef) (a' := ?_) #[true, true, true, true, true, true, true, true, true, true, true, true, true, true, true, true, true, true, true, true, true, true, true, true, true, true, true, true, true, true, false, false] rfl rfl (any_of HT_.out (by kernel_rfl)) (fun _ _ _ h => h) (Or.inr ⟨by rfl, rfl⟩) ?_ ?_
                    rotate_left
                    · simp only [Act.put, List.setIfInBounds_toArray, List.set_cons_zero, List.set_cons_succ, i64_w, i32_w]
                      rfl
                    refine pure_ (i := 30) (N := some 103) (v := undef) (a' := ?_) #[true, true, true, true, true, true, true, true, true, true, true, true, true, true, true, true, true, true, true, true, true, true, true, true, true, true, true, true, true, true, true, false] rfl rfl (any_of HT_.out (by kernel_rfl)) (fun _ _ _ h => h) (Or.inr ⟨by rfl, rfl⟩) ?_ ?_
                    rotate_left
                    · simp only [Act.put, List.setIfInBounds_toArray, List.set_cons_zero, List.set_cons_succ, i64_w, i32_w]
                      rfl
                    refine pure_ (i := 31) (N := some 104) (v := ?_) (a' := ?_) #[true, true, true, true, true, true, true, true, true, true, true, true, true, true, true, true, true, true, true, true, true, true, true, true, true, true, true, true, true, true, true, true] rfl rfl (any_of HT_.out (by kernel_rfl)) (fun _ _ _ h => h) (Or.inl ⟨by rfl, ?_⟩) ?_ ?_
                    rotate_left
                    · intro w'
                      go_simp
                      with_reducible rfl
                    rotate_left
                    · simp only [Act.put, List.setIfInBounds_toArray, List.set_cons_zero, List.set_cons_succ, i64_w, i32_w]
                      rfl
                    have hq15 := hHeld
                    refine done_ (done_of HT_.out (by kernel_rfl)) ?_
                    go_wp2_with fail
                    go_ret
                    exact ⟨rfl, below_callI HBz.out hsz hq15⟩
                  · rw [if_neg hc1] at eb2
                    have hd1 : decide (nA < nB) = false := decide_eq_false hc1
                    obtain ⟨m3, em3, eb2⟩ := Option.bind_eq_some_iff.mp eb2
                    obtain ⟨m4, em4, eb2⟩ := Option.bind_eq_some_iff.mp eb2
                    have EM3 := Aside0.mk em3
                    have EM4 := Aside0.mk em4
                    have hw5 : IntKind.i64.wrap (m3 * mA) = wrap64 (m3 * mA) := i64_w _
                    have hw6 : IntKind.i64.wrap (m4 * mB) = wrap64 (m4 * mB) := i64_w _
                    obtain ⟨nC, hnC⟩ : ∃ nC, nC = wrap64 (m3 * mA) := ⟨_, rfl⟩
                    obtain ⟨nD, hnD⟩ : ∃ nD, nD = wrap64 (m4 * mB) := ⟨_, rfl⟩
                    rw [← hnC] at hw5 eb2
                    rw [← hnD] at hw6 eb2
                    clear em3 em4 hnC hnD
                    by_cases hc2 : nD < nC
                    · rw [if_pos hc2] at eb2
                      have hd2 : decide (nD < nC) = true := decide_eq_true hc2
                      obtain rfl := Option.some.inj eb2
                      have hR1 := HR1.out
                      rw [if_neg (by simp)] at hR1
                      obtain rfl := Option.some.inj hR1
                      have hT1 := HT1.out
                      rw [if_neg (by simp)] at hT1
                      obtain rfl := Option.some.inj hT1
                      clear hR1 hT1
                      go_region_held3 (fun w' => w'.cell? ⟨w.heap.size, 2, none⟩ = some (.slice A0_2 l0_2.length c0_2) ∧ w'.cell? ⟨w.heap.size, 3, none⟩ = some (.slice A0_3 l0_3.length c0_3) ∧ w'.cell? ⟨g1, 2, none⟩ = some (.slice A1_2 l1_2.length c1_2) ∧ w'.cell? ⟨g1, 3, none⟩ = some (.slice A1_3 l1_3.length c1_3) ∧ w'.cell? ⟨p8, 0, none⟩ = some (.int .i64 xa) ∧ w'.cell? ⟨p8, 1, none⟩ = some (.int .i64 xu) ∧ w'.cell? ⟨p8, 2, none⟩ = some (.int .i64 xo) ∧ w'.cell? ⟨p9, 0, none⟩ = some (.int .i64 ua) ∧ w'.cell? ⟨p9, 1, none⟩ = some (.int .i64 uu) ∧ w'.cell? ⟨p9, 2, none⟩ = some (.int .i64 uo) ∧ w'.cell? ⟨q8, 0, none⟩ = some (.int .i64 ya) ∧ w'.cell? ⟨q8, 1, none⟩ = some (.int .i64 yu) ∧ w'.cell? ⟨q8, 2, none⟩ = some (.int .i64 yo) ∧ w'.cell? ⟨q9, 0, none⟩ = some (.int .i64 va) ∧ w'.cell? ⟨q9, 1, none⟩ = some (.int .i64 vu) ∧ w'.cell? ⟨q9, 2, none⟩ = some (.int .i64 vo)) (refine ⟨pw_cell_below ?_ hz0, pw_cell_below ?_ hz1, pw_cell_below ?_ hz2, pw_cell_below ?_ hz3, pw_cell_below ?_ hx0, pw_cell_below ?_ hx1, pw_cell_below ?_ hx2, pw_cell_below ?_ hu0, pw_cell_below ?_ hu1, pw_cell_below ?_ hu2, pw_cell_below ?_ hy0, pw_cell_below ?_ hy1, pw_cell_below ?_ hy2, pw_cell_below ?_ hv0, pw_cell_below ?_ hv1, pw_cell_below ?_ hv2⟩ <;> first | (with_reducible assumption) | (with_reducible exact below_drew hb13)) (first | (go_at_call 70; (with_reducible show Calls _ _ #[.slice A0_3 _ _, _, _] _ _); (have hX := HV1.out w16 (below_callI HBz.out hsz hq16) xa xu xo ya yu yo m4 EM4.out); (refine hX.mono ?_); clear hX; rintro e w17 ⟨rfl, hb⟩; (have hq17 := below_callI hq16 hq16.size hb); clear hb) | (go_at_call 70; (with_reducible show Calls _ _ #[.slice A1_3 _ _, _, _] _ _); (have hX := HV3.out w15 (below_callI HBz.out hsz hq15) ua uu uo va vu vo m3 EM3.out); (refine hX.mono ?_); clear hX; rintro e w16 ⟨rfl, hb⟩; (have hq16 := below_callI hq15 hq15.size hb); clear hb) | (go_at_call 70; (with_reducible show Calls _ _ #[.slice A0_2 _ _, _, _] _ _); (have hX := HV0.out w14 (below_callI HBz.out hsz hq14) xa xu xo ya yu yo m2 EM2.out); (refine hX.mono ?_); clear hX; rintro e w15 ⟨rfl, hb⟩; (have hq15 := below_callI hq14 hq14.size hb); clear hb) | (go_at_call 70; (with_reducible show Calls _ _ #[.slice A1_2 _ _, _, _] _ _); (have hX := HV2.out w13.drew (below_drew (below_callI HBz.out hsz hb13)) ua uu uo va vu vo m1 EM1.out); (refine hX.mono ?_); clear hX; rintro e w14 ⟨rfl, hb⟩; (have hq14 := below_callI (below_drew hb13) (below_drew hb13).size hb); clear hb) | fail)
                      go_wp2_with fail
                      go_ret
                      exact ⟨rfl, below_callI HBz.out hsz hq17⟩
                    · rw [if_neg hc2] at eb2
                      have hd2 : decide (nD < nC) = false := decide_eq_false hc2
                      obtain rfl := Option.some.inj eb2
                      have hR1 := HR1.out
                      rw [if_pos rfl] at hR1
                      have HR2 := Aside0.mk hR1
                      clear hR1
                      go_region_held3 (fun w' => w'.cell? ⟨w.heap.size, 2, none⟩ = some (.slice A0_2 l0_2.length c0_2) ∧ w'.cell? ⟨w.heap.size, 3, none⟩ = some (.slice A0_3 l0_3.length c0_3) ∧ w'.cell? ⟨g1, 2, none⟩ = some (.slice A1_2 l1_2.length c1_2) ∧ w'.cell? ⟨g1, 3, none⟩ = some (.slice A1_3 l1_3.length c1_3) ∧ w'.cell? ⟨p8, 0, none⟩ = some (.int .i64 xa) ∧ w'.cell? ⟨p8, 1, none⟩ = some (.int .i64 xu) ∧ w'.cell? ⟨p8, 2, none⟩ = some (.int .i64 xo) ∧ w'.cell? ⟨p9, 0, none⟩ = some (.int .i64 ua) ∧ w'.cell? ⟨p9, 1, none⟩ = some (.int .i64 uu) ∧ w'.cell? ⟨p9, 2, none⟩ = some (.int .i64 uo) ∧ w'.cell? ⟨q8, 0, none⟩ = some (.int .i64 ya) ∧ w'.cell? ⟨q8, 1, none⟩ = some (.int .i64 yu) ∧ w'.cell? ⟨q8, 2, none⟩ = some (.int .i64 yo) ∧ w'.cell? ⟨q9, 0, none⟩ = some (.int .i64 va) ∧ w'.cell? ⟨q9, 1, none⟩ = some (.int .i64 vu) ∧ w'.cell? ⟨q9, 2, none⟩ = some (.int .i64 vo)) (refine ⟨pw_cell_below ?_ hz0, pw_cell_below ?_ hz1, pw_cell_below ?_ hz2, pw_cell_below ?_ hz3, pw_cell_below ?_ hx0, pw_cell_below ?_ hx1, pw_cell_below ?_ hx2, pw_cell_below ?_ hu0, pw_cell_below ?_ hu1, pw_cell_below ?_ hu2, pw_cell_below ?_ hy0, pw_cell_below ?_ hy1, pw_cell_below ?_ hy2, pw_cell_below ?_ hv0, pw_cell_below ?_ hv1, pw_cell_below ?_ hv2⟩ <;> first | (with_reducible assumption) | (with_reducible exact below_drew hb13)) (first | (go_at_call 70; (with_reducible show Calls _ _ #[.slice A0_3 _ _, _, _] _ _); (have hX := HV1.out w16 (below_callI HBz.out hsz hq16) xa xu xo ya yu yo m4 EM4.out); (refine hX.mono ?_); clear hX; rintro e w17 ⟨rfl, hb⟩; (have hq17 := below_callI hq16 hq16.size hb); clear hb) | (go_at_call 70; (with_reducible show Calls _ _ #[.slice A1_3 _ _, _, _] _ _); (have hX := HV3.out w15 (below_callI HBz.out hsz hq15) ua uu uo va vu vo m3 EM3.out); (refine hX.mono ?_); clear hX; rintro e w16 ⟨rfl, hb⟩; (have hq16 := below_callI hq15 hq15.size hb); clear hb) | (go_at_call 70; (with_reducible show Calls _ _ #[.slice A0_2 _ _, _, _] _ _); (have hX := HV0.out w14 (below_callI HBz.out hsz hq14) xa xu xo ya yu yo m2 EM2.out); (refine hX.mono ?_); clear hX; rintro e w15 ⟨rfl, hb⟩; (have hq15 := below_callI hq14 hq14.size hb); clear hb) | (go_at_call 70; (with_reducible show Calls _ _ #[.slice A1_2 _ _, _, _] _ _); (have hX := HV2.out w13.drew (below_drew (below_callI HBz.out hsz hb13)) ua uu uo va vu vo m1 EM1.out); (refine hX.mono ?_); clear hX; rintro e w14 ⟨rfl, hb⟩; (have hq14 := below_callI (below_drew hb13) (below_drew hb13).size hb); clear hb) | fail)
                      go_wp2_with fail
                      have HB17 := Aside0.mk (below_callI (below_callI hQ.out hQ.out.size HBw12.out) (below_callI hQ.out hQ.out.size HBw12.out).size hq17)
                      go_roundw
                      case rel => exact ⟨j + 1, by omega, by go_num, HR2, HB17⟩
                      case measure => simp [intOf]; omega
              · obtain rfl : j = ps.length := by omega
                have hR1 := hR.out
                rw [List.drop_length, insRow] at hR1
                obtain rfl := Option.some.inj hR1
                have hT1 := HT1.out
                rw [if_pos rfl] at hT1
                have HT2 := Aside0.mk hT1
                clear hR1 hR hT1 HT1
                go_wp2_with fail
                go_roundw
                case rel => exact ⟨k + 1, by omega, by go_num, HT2, HB68⟩
                case measure => simp [intOf]; omega
        · obtain rfl : k = gs.length := by omega
          have hT1 := hT.out
          rw [List.drop_length, insTab] at hT1
          obtain rfl := Option.some.inj hT1
          have HBr : Below w.heap.size w wr := below_callI HBw.out hs6 hB.out
          clear hT hT1
          go_wp2_with fail
          go_ret
          exact ⟨rfl, HBr⟩
    · rw [if_neg z2] at h
      obtain rfl := Option.some.inj h
      have zb : (e2 != 0) = true := bne_iff_ne.mpr z2
      clear h he1 he2 z2
      clear hr0_0 hr0_1 hr0_2 hr0_3 hr1_0 hr1_1 hr1_2 hr1_3
      go_enter Try.func44, Try.ntmps44
      go_upto_region 1 with (fail)
      generalize hW : ((w.alloc (Obj.cells #[Value.slice A0_0 l0_0.length c0_0, Value.slice A0_1 l0_1.length c0_1, Value.slice A0_2 l0_2.length c0_2, Value.slice A0_3 l0_3.length c0_3] 25)).alloc (Obj.cells #[Value.slice A1_0 l1_0.length c1_0, Value.slice A1_1 l1_1.length c1_1, Value.slice A1_2 l1_2.length c1_2, Value.slice A1_3 l1_3.length c1_3] 25)) = W2
      have hs2 : w.heap.size ≤ W2.heap.size := by subst hW; simp; omega
      have HB2 : Aside0 (Below w.heap.size w W2) := ⟨by subst hW; exact below_alloc (below_alloc (Below.refl _ _) _) _⟩
      have HCe : Aside0 (∀ W, Below W2.heap.size W2 W → W.cell? ⟨w.heap.size, 0, none⟩ = some (.slice A0_0 l0_0.length c0_0) ∧ W.cell? ⟨w.heap.size, 1, none⟩ = some (.slice A0_1 l0_1.length c0_1) ∧ W.cell? ⟨w.heap.size, 2, none⟩ = some (.slice A0_2 l0_2.length c0_2) ∧ W.cell? ⟨w.heap.size, 3, none⟩ = some (.slice A0_3 l0_3.length c0_3) ∧ W.cell? ⟨w.heap.size + 1, 0, none⟩ = some (.slice A1_0 l1_0.length c1_0) ∧ W.cell? ⟨w.heap.size + 1, 1, none⟩ = some (.slice A1_1 l1_1.length c1_1) ∧ W.cell? ⟨w.heap.size + 1, 2, none⟩ = some (.slice A1_2 l1_2.length c1_2) ∧ W.cell? ⟨w.heap.size + 1, 3, none⟩ = some (.slice A1_3 l1_3.length c1_3)) := ⟨by
        intro W hb
        subst hW
        refine ⟨?_, ?_, ?_, ?_, ?_, ?_, ?_, ?_⟩ <;> exact pw_cell_below hb (by simp)⟩
      generalize w.heap.size + 1 = g1 at HCe ⊢
      have ⟨x0, x1, x2, x3, x4, x5, x6, x7⟩ := HCe.out W2 (Below.refl _ _)
      clear hW
      go_wp2_with (first | (go_at_call 37; (refine (HC2.out _ HB3.out).mono ?_); rintro e w4 ⟨rfl, hb⟩; (have HB4 := Aside0.mk (below_callI hb3 hs3 hb)); (obtain ⟨p0, p1, p2, p3, p4, p5, p6, p7⟩ := HCe.out w4 HB4.out)) | (go_at_call 37; (refine (HC1.out _ HB2.out).mono ?_); rintro e w3 ⟨rfl, hb3⟩; (have hs3 := hb3.size); (have HB3 := Aside0.mk (below_callI HB2.out hs2 hb3)); (obtain ⟨o0, o1, o2, o3, o4, o5, o6, o7⟩ := HCe.out w3 hb3)) | fail)
      go_ret
      exact ⟨rfl, below_callI HB2.out hs2 HB4.out⟩
  · rw [if_neg z1] at h
    obtain rfl := Option.some.inj h
    have zb : (e1 != 0) = true := bne_iff_ne.mpr z1
    clear h he1 z1
    clear hr0_0 hr0_1 hr0_2 hr0_3 hr1_0 hr1_1 hr1_2 hr1_3
    go_enter Try.func44, Try.ntmps44
    go_upto_region 1 with (fail)
    generalize hW : ((w.alloc (Obj.cells #[Value.slice A0_0 l0_0.length c0_0, Value.slice A0_1 l0_1.length c0_1, Value.slice A0_2 l0_2.length c0_2, Value.slice A0_3 l0_3.length c0_3] 25)).alloc (Obj.cells #[Value.slice A1_0 l1_0.length c1_0, Value.slice A1_1 l1_1.length c1_1, Value.slice A1_2 l1_2.length c1_2, Value.slice A1_3 l1_3.length c1_3] 25)) = W2
    have hs2 : w.heap.size ≤ W2.heap.size := by subst hW; simp; omega
    have HB2 : Aside0 (Below w.heap.size w W2) := ⟨by subst hW; exact below_alloc (below_alloc (Below.refl _ _) _) _⟩
    have HCe : Aside0 (∀ W, Below W2.heap.size W2 W → W.cell? ⟨w.heap.size, 0, none⟩ = some (.slice A0_0 l0_0.length c0_0) ∧ W.cell? ⟨w.heap.size, 1, none⟩ = some (.slice A0_1 l0_1.length c0_1) ∧ W.cell? ⟨w.heap.size, 2, none⟩ = some (.slice A0_2 l0_2.length c0_2) ∧ W.cell? ⟨w.heap.size, 3, none⟩ = some (.slice A0_3 l0_3.length c0_3) ∧ W.cell? ⟨w.heap.size + 1, 0, none⟩ = some (.slice A1_0 l1_0.length c1_0) ∧ W.cell? ⟨w.heap.size + 1, 1, none⟩ = some (.slice A1_1 l1_1.length c1_1) ∧ W.cell? ⟨w.heap.size + 1, 2, none⟩ = some (.slice A1_2 l1_2.length c1_2) ∧ W.cell? ⟨w.heap.size + 1, 3, none⟩ = some (.slice A1_3 l1_3.length c1_3)) := ⟨by
      intro W hb
      subst hW
      refine ⟨?_, ?_, ?_, ?_, ?_, ?_, ?_, ?_⟩ <;> exact pw_cell_below hb (by simp)⟩
    generalize w.heap.size + 1 = g1 at HCe ⊢
    have ⟨x0, x1, x2, x3, x4, x5, x6, x7⟩ := HCe.out W2 (Below.refl _ _)
    clear hW
    go_wp2_with (first | (go_at_call 37; (refine (HC1.out _ HB2.out).mono ?_); rintro e w3 ⟨rfl, hb3⟩; (have hs3 := hb3.size); (have HB3 := Aside0.mk (below_callI HB2.out hs2 hb3)); (obtain ⟨o0, o1, o2, o3, o4, o5, o6, o7⟩ := HCe.out w3 hb3)) | fail)
    go_ret
    exact ⟨rfl, HB3.out⟩

end Go.Proofs.Ytbomgfbfnkfamaa.PAll
end
section
namespace Go.Proofs.Ytbomgfbfnkfamaa.PAll
open Go.RowKit Go.Proofs.YtbomgfbfnkfamaaW.PrintWords Go.Proofs.YtbomgfbfnkfamaaW.PrintLast Go.Proofs.YtbomgfbfnkfamaaW.PrintMore
attribute [local go_sem] max2_int min2_int max_two min_two max_three min_three max_four min_four   -- for this text's walks alone
set_option linter.unusedVariables false
set_option linter.unusedSimpArgs false

attribute [local go_sem high] eqA35
/-! ### thermionlaw02_CurveLines: function 11 -/
mutual
def thermionlaw02_CurveLines.j0 : Nat → List Int → List Int → Bool → Int → Int → Int → Int → Int → Int → Int → Int → Int → Int → List Int → List Int → List (List Int) → List (List Int) → Option (Bool)
  | 0, _, _, _, _, _, _, _, _, _, _, _, _, _, _, _, _, _ => none
  | k + 1, x6, x7, x61, x115000, x115001, x115002, x115003, x115004, x115005, x115006, x115007, x115008, x115009, x151000, x151001, x151002, x151003 => if x61 = true then (none) else (thermionlaw02_CurveLines.l0 k x6 x7 0 x115000 x115001 x115002 x115003 x115004 x115005 x115006 x115007 x115008 x115009 x151000 x151001 x151002 x151003)
def thermionlaw02_CurveLines.l0 : Nat → List Int → List Int → Int → Int → Int → Int → Int → Int → Int → Int → Int → Int → Int → List Int → List Int → List (List Int) → List (List Int) → Option (Bool)
  | 0, _, _, _, _, _, _, _, _, _, _, _, _, _, _, _, _, _ => none
  | k + 1, x6, x7, x12, x115000, x115001, x115002, x115003, x115004, x115005, x115006, x115007, x115008, x115009, x151000, x151001, x151002, x151003 => if x12 < (x6.length : Int) then (thermionlaw02_CurveLines.l1 k x6 x7 x12 0 x115000 x115001 x115002 x115003 x115004 x115005 x115006 x115007 x115008 x115009 x151000 x151001 x151002 x151003) else ((thermionlaw02_awake.f k).bind fun t167 => (some t167))
def thermionlaw02_CurveLines.l1 : Nat → List Int → List Int → Int → Int → Int → Int → Int → Int → Int → Int → Int → Int → Int → Int → List Int → List Int → List (List Int) → List (List Int) → Option (Bool)
  | 0, _, _, _, _, _, _, _, _, _, _, _, _, _, _, _, _, _, _ => none
  | k + 1, x6, x7, x12, x13, x115000, x115001, x115002, x115003, x115004, x115005, x115006, x115007, x115008, x115009, x151000, x151001, x151002, x151003 => if x13 < (x7.length : Int) then (if 0 ≤ x12 then (if x12 < (x6.length : Int) then (if 0 ≤ x13 then ((curve_Current.f k x115000 x115001 x115002 x115003 x115004 x115005 x115006 x115007 x115008 x115009 (rd x6 x12) (rd x7 x13)).bind fun bt170 => ((curve_At.f k x151000 x151001 x151002 x151003 (rd x6 x12) (rd x7 x13)).bind fun bt176 => (if bt170.2.2 = 0 then (if bt176.2.2 = 0 then (if (!(bt170.1 == bt176.1) || (!(bt170.2.1 == bt176.2.1))) = true then (none) else (thermionlaw02_CurveLines.l1 k x6 x7 x12 (wrap64 (x13 + 1)) x115000 x115001 x115002 x115003 x115004 x115005 x115006 x115007 x115008 x115009 x151000 x151001 x151002 x151003)) else (none)) else (none)))) else (none)) else (none)) else (none)) else (thermionlaw02_CurveLines.l0 k x6 x7 (wrap64 (x12 + 1)) x115000 x115001 x115002 x115003 x115004 x115005 x115006 x115007 x115008 x115009 x151000 x151001 x151002 x151003)
end
def thermionlaw02_CurveLines.f (k : Nat) (l0 : List Int) : Option (Bool) := (thermionkit_NewDice.f l0).bind fun t101 => ((thermionkit_LawOf.f k t101).bind fun bt103 => ((thermionkit_Dice_One.f bt103.2.2.2.2.2.2.2.2.2.2 2).bind fun bt115 => ((thermionkit_WithinLaw.f bt115.2 bt103.1 bt103.2.1 bt103.2.2.1 bt103.2.2.2.1 bt103.2.2.2.2.1 bt103.2.2.2.2.2.1 bt103.2.2.2.2.2.2.1 bt103.2.2.2.2.2.2.2.1 bt103.2.2.2.2.2.2.2.2.1 bt103.2.2.2.2.2.2.2.2.2.1 bt115.1).bind fun bt117 => ((thermionkit_Lines.f bt117.2.2.2.2.2.2.2.2.2.2 (-9000) 9000 5).bind fun bt129 => ((thermionkit_Lines.f bt129.2 0 400000 5).bind fun bt133 => ((curve_Of.f k bt103.1 bt103.2.1 bt103.2.2.1 bt103.2.2.2.1 bt103.2.2.2.2.1 bt103.2.2.2.2.2.1 bt103.2.2.2.2.2.2.1 bt103.2.2.2.2.2.2.2.1 bt103.2.2.2.2.2.2.2.2.1 bt103.2.2.2.2.2.2.2.2.2.1 bt129.1 bt133.1).bind fun bt137 => ((curve_Of.f k bt117.1 bt117.2.1 bt117.2.2.1 bt117.2.2.2.1 bt117.2.2.2.2.1 bt117.2.2.2.2.2.1 bt117.2.2.2.2.2.2.1 bt117.2.2.2.2.2.2.2.1 bt117.2.2.2.2.2.2.2.2.1 bt117.2.2.2.2.2.2.2.2.2.1 bt129.1 bt133.1).bind fun bt151 => (if bt137.2.2.2.2 = 0 then (if bt151.2.2.2.2 = 0 then ((curve_Check.f bt137.1 bt137.2.1 bt137.2.2.1 bt137.2.2.2.1).bind fun t165 => (if t165 = 0 then ((curve_Inside.f bt137.1 bt137.2.1 bt137.2.2.1 bt137.2.2.2.1 bt151.1 bt151.2.1 bt151.2.2.1 bt151.2.2.2.1).bind fun t166 => (thermionlaw02_CurveLines.j0 k bt129.1 bt133.1 (!t166) bt103.1 bt103.2.1 bt103.2.2.1 bt103.2.2.2.1 bt103.2.2.2.2.1 bt103.2.2.2.2.2.1 bt103.2.2.2.2.2.2.1 bt103.2.2.2.2.2.2.2.1 bt103.2.2.2.2.2.2.2.2.1 bt103.2.2.2.2.2.2.2.2.2.1 bt137.1 bt137.2.1 bt137.2.2.1 bt137.2.2.2.1)) else (thermionlaw02_CurveLines.j0 k bt129.1 bt133.1 true bt103.1 bt103.2.1 bt103.2.2.1 bt103.2.2.2.1 bt103.2.2.2.2.1 bt103.2.2.2.2.2.1 bt103.2.2.2.2.2.2.1 bt103.2.2.2.2.2.2.2.1 bt103.2.2.2.2.2.2.2.2.1 bt103.2.2.2.2.2.2.2.2.2.1 bt137.1 bt137.2.1 bt137.2.2.1 bt137.2.2.2.1))) else (thermionlaw02_CurveLines.j0 k bt129.1 bt133.1 true bt103.1 bt103.2.1 bt103.2.2.1 bt103.2.2.2.1 bt103.2.2.2.2.1 bt103.2.2.2.2.2.1 bt103.2.2.2.2.2.2.1 bt103.2.2.2.2.2.2.2.1 bt103.2.2.2.2.2.2.2.2.1 bt103.2.2.2.2.2.2.2.2.2.1 bt137.1 bt137.2.1 bt137.2.2.1 bt137.2.2.2.1)) else (thermionlaw02_CurveLines.j0 k bt129.1 bt133.1 true bt103.1 bt103.2.1 bt103.2.2.1 bt103.2.2.2.1 bt103.2.2.2.2.1 bt103.2.2.2.2.2.1 bt103.2.2.2.2.2.2.1 bt103.2.2.2.2.2.2.2.1 bt103.2.2.2.2.2.2.2.2.1 bt103.2.2.2.2.2.2.2.2.2.1 bt137.1 bt137.2.1 bt137.2.2.1 bt137.2.2.2.1)))))))))
theorem thermionlaw02_CurveLines.mono_l : ∀ k, (∀ y0 y1 y2 y3 y4 y5 y6 y7 y8 y9 y10 y11 y12 y13 y14 y15 y16, LeO (thermionlaw02_CurveLines.j0 k y0 y1 y2 y3 y4 y5 y6 y7 y8 y9 y10 y11 y12 y13 y14 y15 y16) (thermionlaw02_CurveLines.j0 (k + 1) y0 y1 y2 y3 y4 y5 y6 y7 y8 y9 y10 y11 y12 y13 y14 y15 y16)) ∧ (∀ y0 y1 y2 y3 y4 y5 y6 y7 y8 y9 y10 y11 y12 y13 y14 y15 y16, LeO (thermionlaw02_CurveLines.l0 k y0 y1 y2 y3 y4 y5 y6 y7 y8 y9 y10 y11 y12 y13 y14 y15 y16) (thermionlaw02_CurveLines.l0 (k + 1) y0 y1 y2 y3 y4 y5 y6 y7 y8 y9 y10 y11 y12 y13 y14 y15 y16)) ∧ (∀ y0 y1 y2 y3 y4 y5 y6 y7 y8 y9 y10 y11 y12 y13 y14 y15 y16 y17, LeO (thermionlaw02_CurveLines.l1 k y0 y1 y2 y3 y4 y5 y6 y7 y8 y9 y10 y11 y12 y13 y14 y15 y16 y17) (thermionlaw02_CurveLines.l1 (k + 1) y0 y1 y2 y3 y4 y5 y6 y7 y8 y9 y10 y11 y12 y13 y14 y15 y16 y17))
  | 0 => ⟨fun _ _ _ _ _ _ _ _ _ _ _ _ _ _ _ _ _ r h => by simp [thermionlaw02_CurveLines.j0] at h, fun _ _ _ _ _ _ _ _ _ _ _ _ _ _ _ _ _ r h => by simp [thermionlaw02_CurveLines.l0] at h, fun _ _ _ _ _ _ _ _ _ _ _ _ _ _ _ _ _ _ r h => by simp [thermionlaw02_CurveLines.l1] at h⟩
  | k + 1 => by
    obtain ⟨ih0, ih1, ih2⟩ := thermionlaw02_CurveLines.mono_l k
    refine ⟨?_, ?_, ?_⟩
    · intro y0 y1 y2 y3 y4 y5 y6 y7 y8 y9 y10 y11 y12 y13 y14 y15 y16
      unfold thermionlaw02_CurveLines.j0
      repeat' first
      | (with_reducible exact ih0 _ _ _ _ _ _ _ _ _ _ _ _ _ _ _ _ _)
      | (with_reducible exact ih1 _ _ _ _ _ _ _ _ _ _ _ _ _ _ _ _ _)
      | (with_reducible exact ih2 _ _ _ _ _ _ _ _ _ _ _ _ _ _ _ _ _ _)
      | (with_reducible exact curve_At.mono _ _ _ _ _ _ _)
      | (with_reducible exact curve_Current.mono _ _ _ _ _ _ _ _ _ _ _ _ _)
      | (with_reducible exact curve_Of.mono _ _ _ _ _ _ _ _ _ _ _ _ _)
      | (with_reducible exact thermionkit_LawOf.mono _ _)
      | (with_reducible exact thermionlaw02_awake.mono _)
      | (with_reducible exact LeO.refl _)
      | (with_reducible exact LeO.none _)
      | (with_reducible refine LeO.ite ?_ ?_)
      | (with_reducible refine LeO.bind ?_ (fun _ => ?_))
      | exact ih0 _ _ _ _ _ _ _ _ _ _ _ _ _ _ _ _ _
      | exact ih1 _ _ _ _ _ _ _ _ _ _ _ _ _ _ _ _ _
      | exact ih2 _ _ _ _ _ _ _ _ _ _ _ _ _ _ _ _ _ _
      | exact curve_At.mono _ _ _ _ _ _ _
      | exact curve_Current.mono _ _ _ _ _ _ _ _ _ _ _ _ _
      | exact curve_Of.mono _ _ _ _ _ _ _ _ _ _ _ _ _
      | exact thermionkit_LawOf.mono _ _
      | exact thermionlaw02_awake.mono _
      | exact LeO.none _
      | refine LeO.ite ?_ ?_
      | refine LeO.bind ?_ (fun _ => ?_)
    · intro y0 y1 y2 y3 y4 y5 y6 y7 y8 y9 y10 y11 y12 y13 y14 y15 y16
      unfold thermionlaw02_CurveLines.l0
      repeat' first
      | (with_reducible exact ih0 _ _ _ _ _ _ _ _ _ _ _ _ _ _ _ _ _)
      | (with_reducible exact ih1 _ _ _ _ _ _ _ _ _ _ _ _ _ _ _ _ _)
      | (with_reducible exact ih2 _ _ _ _ _ _ _ _ _ _ _ _ _ _ _ _ _ _)
      | (with_reducible exact curve_At.mono _ _ _ _ _ _ _)
      | (with_reducible exact curve_Current.mono _ _ _ _ _ _ _ _ _ _ _ _ _)
      | (with_reducible exact curve_Of.mono _ _ _ _ _ _ _ _ _ _ _ _ _)
      | (with_reducible exact thermionkit_LawOf.mono _ _)
      | (with_reducible exact thermionlaw02_awake.mono _)
      | (with_reducible exact LeO.refl _)
      | (with_reducible exact LeO.none _)
      | (with_reducible refine LeO.ite ?_ ?_)
      | (with_reducible refine LeO.bind ?_ (fun _ => ?_))
      | exact ih0 _ _ _ _ _ _ _ _ _ _ _ _ _ _ _ _ _
      | exact ih1 _ _ _ _ _ _ _ _ _ _ _ _ _ _ _ _ _
      | exact ih2 _ _ _ _ _ _ _ _ _ _ _ _ _ _ _ _ _ _
      | exact curve_At.mono _ _ _ _ _ _ _
      | exact curve_Current.mono _ _ _ _ _ _ _ _ _ _ _ _ _
      | exact curve_Of.mono _ _ _ _ _ _ _ _ _ _ _ _ _
      | exact thermionkit_LawOf.mono _ _
      | exact thermionlaw02_awake.mono _
      | exact LeO.none _
      | refine LeO.ite ?_ ?_
      | refine LeO.bind ?_ (fun _ => ?_)
    · intro y0 y1 y2 y3 y4 y5 y6 y7 y8 y9 y10 y11 y12 y13 y14 y15 y16 y17
      unfold thermionlaw02_CurveLines.l1
      repeat' first
      | (with_reducible exact ih0 _ _ _ _ _ _ _ _ _ _ _ _ _ _ _ _ _)
      | (with_reducible exact ih1 _ _ _ _ _ _ _ _ _ _ _ _ _ _ _ _ _)
      | (with_reducible exact ih2 _ _ _ _ _ _ _ _ _ _ _ _ _ _ _ _ _ _)
      | (with_reducible exact curve_At.mono _ _ _ _ _ _ _)
      | (with_reducible exact curve_Current.mono _ _ _ _ _ _ _ _ _ _ _ _ _)
      | (with_reducible exact curve_Of.mono _ _ _ _ _ _ _ _ _ _ _ _ _)
      | (with_reducible exact thermionkit_LawOf.mono _ _)
      | (with_reducible exact thermionlaw02_awake.mono _)
      | (with_reducible exact LeO.refl _)
      | (with_reducible exact LeO.none _)
      | (with_reducible refine LeO.ite ?_ ?_)
      | (with_reducible refine LeO.bind ?_ (fun _ => ?_))
      | exact ih0 _ _ _ _ _ _ _ _ _ _ _ _ _ _ _ _ _
      | exact ih1 _ _ _ _ _ _ _ _ _ _ _ _ _ _ _ _ _
      | exact ih2 _ _ _ _ _ _ _ _ _ _ _ _ _ _ _ _ _ _
      | exact curve_At.mono _ _ _ _ _ _ _
      | exact curve_Current.mono _ _ _ _ _ _ _ _ _ _ _ _ _
      | exact curve_Of.mono _ _ _ _ _ _ _ _ _ _ _ _ _
      | exact thermionkit_LawOf.mono _ _
      | exact thermionlaw02_awake.mono _
      | exact LeO.none _
      | refine LeO.ite ?_ ?_
      | refine LeO.bind ?_ (fun _ => ?_)
theorem thermionlaw02_CurveLines.mono : ∀ a0 k, LeO (thermionlaw02_CurveLines.f k a0) (thermionlaw02_CurveLines.f (k + 1) a0) := by
  intro a0 k
  obtain ⟨ih0, ih1, ih2⟩ := thermionlaw02_CurveLines.mono_l k
  unfold thermionlaw02_CurveLines.f
  repeat' first
      | (with_reducible exact ih0 _ _ _ _ _ _ _ _ _ _ _ _ _ _ _ _ _)
      | (with_reducible exact ih1 _ _ _ _ _ _ _ _ _ _ _ _ _ _ _ _ _)
      | (with_reducible exact ih2 _ _ _ _ _ _ _ _ _ _ _ _ _ _ _ _ _ _)
      | (with_reducible exact curve_At.mono _ _ _ _ _ _ _)
      | (with_reducible exact curve_Current.mono _ _ _ _ _ _ _ _ _ _ _ _ _)
      | (with_reducible exact curve_Of.mono _ _ _ _ _ _ _ _ _ _ _ _ _)
      | (with_reducible exact thermionkit_LawOf.mono _ _)
      | (with_reducible exact thermionlaw02_awake.mono _)
      | (with_reducible exact LeO.refl _)
      | (with_reducible exact LeO.none _)
      | (with_reducible refine LeO.ite ?_ ?_)
      | (with_reducible refine LeO.bind ?_ (fun _ => ?_))
      | exact ih0 _ _ _ _ _ _ _ _ _ _ _ _ _ _ _ _ _
      | exact ih1 _ _ _ _ _ _ _ _ _ _ _ _ _ _ _ _ _
      | exact ih2 _ _ _ _ _ _ _ _ _ _ _ _ _ _ _ _ _ _
      | exact curve_At.mono _ _ _ _ _ _ _
      | exact curve_Current.mono _ _ _ _ _ _ _ _ _ _ _ _ _
      | exact curve_Of.mono _ _ _ _ _ _ _ _ _ _ _ _ _
      | exact thermionkit_LawOf.mono _ _
      | exact thermionlaw02_awake.mono _
      | exact LeO.none _
      | refine LeO.ite ?_ ?_
      | refine LeO.bind ?_ (fun _ => ?_)
theorem cl_j0 (k : Nat) (x6 x7 : List Int) (y0 y1 y2 y3 y4 y5 y6 y7 y8 y9 : Int) (z0 z1 : List Int) (z2 z3 : List (List Int)) : thermionlaw02_CurveLines.j0 k x6 x7 true y0 y1 y2 y3 y4 y5 y6 y7 y8 y9 z0 z1 z2 z3 = none := by
  cases k with
  | zero => rfl
  | succ k => simp only [thermionlaw02_CurveLines.j0]; rfl
theorem cl_j0f {k : Nat} {x6 x7 : List Int} {y0 y1 y2 y3 y4 y5 y6 y7 y8 y9 : Int} {z0 z1 : List Int} {z2 z3 : List (List Int)} {r : Bool} (h : thermionlaw02_CurveLines.j0 k x6 x7 false y0 y1 y2 y3 y4 y5 y6 y7 y8 y9 z0 z1 z2 z3 = some r) :
    ∃ k0, k = k0 + 1 ∧ thermionlaw02_CurveLines.l0 k0 x6 x7 0 y0 y1 y2 y3 y4 y5 y6 y7 y8 y9 z0 z1 z2 z3 = some r := by
  cases k with
  | zero => cases h
  | succ k => exact ⟨k, rfl, h⟩
def thermionlaw02_CurveLines.T3 : Bool × List (List Nat × List Nat) := (true, [([], []), ([], []), ([], []), ([2], [2]), ([0, 1, 3, 3], [0, 1, 3]), ([], []), ([5, 4, 4, 0, 1, 2, 3, 4, 5], [4, 5])])
def thermionlaw02_CurveLines.B3 : List Nat := [0, 0, 0, 4, 15, 0, 63]
theorem thermionlaw02_CurveLines.tab3 : rtab .any (opsOf Try.f11 3) = thermionlaw02_CurveLines.T3 := by kernel_rfl
theorem thermionlaw02_CurveLines.bits3 : waitsOk thermionlaw02_CurveLines.T3.2 thermionlaw02_CurveLines.B3 = true := by kernel_rfl
def thermionlaw02_CurveLines.T15 : Bool × List (List Nat × List Nat) := (true, [([], []), ([], []), ([], []), ([1, 2], [1, 2]), ([3], [3]), ([], []), ([], []), ([5, 6], [5, 6]), ([7], [7]), ([0, 4, 8], [0, 4, 8]), ([9], [9]), ([10], [10]), ([10], [10]), ([], []), ([13, 11, 9, 0, 1, 2, 3, 4, 5, 6, 7, 8, 9, 10, 11, 13], [11, 13]), ([12, 14, 0, 1, 2, 3, 4, 5, 6, 7, 8, 9, 10, 11, 12, 13, 14], [12])])
def thermionlaw02_CurveLines.B15 : List Nat := [0, 0, 0, 6, 14, 0, 0, 96, 224, 511, 1023, 2047, 2047, 0, 12287, 32767]
theorem thermionlaw02_CurveLines.tab15 : rtab .any (opsOf Try.f11 15) = thermionlaw02_CurveLines.T15 := by kernel_rfl
theorem thermionlaw02_CurveLines.bits15 : waitsOk thermionlaw02_CurveLines.T15.2 thermionlaw02_CurveLines.B15 = true := by kernel_rfl
def thermionlaw02_CurveLines.T16 : Bool × List (List Nat × List Nat) := (true, [([], []), ([], []), ([], []), ([1, 2], [1, 2]), ([3], [3]), ([], []), ([], []), ([5, 6], [5, 6]), ([7], [7]), ([0, 4, 8], [0, 4, 8]), ([9], [9]), ([10], [10]), ([10], [10]), ([], []), ([13, 11, 9, 0, 1, 2, 3, 4, 5, 6, 7, 8, 9, 10, 11, 13], [11, 13]), ([12, 14, 0, 1, 2, 3, 4, 5, 6, 7, 8, 9, 10, 11, 12, 13, 14], [12])])
def thermionlaw02_CurveLines.B16 : List Nat := [0, 0, 0, 6, 14, 0, 0, 96, 224, 511, 1023, 2047, 2047, 0, 12287, 32767]
theorem thermionlaw02_CurveLines.tab16 : rtab .any (opsOf Try.f11 16) = thermionlaw02_CurveLines.T16 := by kernel_rfl
theorem thermionlaw02_CurveLines.bits16 : waitsOk thermionlaw02_CurveLines.T16.2 thermionlaw02_CurveLines.B16 = true := by kernel_rfl
set_option maxHeartbeats 8000000 in
set_option maxRecDepth 100000 in
theorem thermionlaw02_CurveLines.calls (k : Nat) (A0 : Option Addr) (c0 : Nat) (l0 : List Int) (r : Bool) (w : World) (hr0 : Kd.C (Kd.int .i64) w A0 l0.length l0) (hc0 : l0.length ≤ c0) (h : thermionlaw02_CurveLines.f k l0 = some r) :
    Calls Try.prog 11 #[.slice A0 l0.length c0] w fun e w' => e = .returned (.bool r) ∧ Below w.heap.size w w' := by
  unfold thermionlaw02_CurveLines.f at h
  replace h := Option.bind_eq_some_iff.mp h
  obtain ⟨t0, e1, h⟩ := h
  replace h := Option.bind_eq_some_iff.mp h
  obtain ⟨⟨p0, p1, g0, g1, s0, s1, f0, f1, q0, q1, t1⟩, e2, h⟩ := h
  replace h := Option.bind_eq_some_iff.mp h
  obtain ⟨⟨b, t2⟩, e3, h⟩ := h
  replace h := Option.bind_eq_some_iff.mp h
  obtain ⟨⟨p0', p1', g0', g1', s0', s1', f0', f1', q0', q1', t3⟩, e4, h⟩ := h
  replace h := Option.bind_eq_some_iff.mp h
  obtain ⟨⟨grid, t4⟩, e5, h⟩ := h
  replace h := Option.bind_eq_some_iff.mp h
  obtain ⟨⟨plate, t5⟩, e6, h⟩ := h
  replace h := Option.bind_eq_some_iff.mp h
  obtain ⟨⟨F0, F1, F2, F3, Fe⟩, e7, h⟩ := h
  replace h := Option.bind_eq_some_iff.mp h
  obtain ⟨⟨G0, G1, G2, G3, Ge⟩, e8, h⟩ := h
  dsimp only at e3 e4 e5 e6 e7 e8 h
  by_cases z1 : Fe = 0
  case neg => rw [if_neg z1, cl_j0] at h; cases h
  rw [if_pos z1] at h
  by_cases z2 : Ge = 0
  case neg => rw [if_neg z2, cl_j0] at h; cases h
  rw [if_pos z2] at h
  replace h := Option.bind_eq_some_iff.mp h
  obtain ⟨ck, e9, h⟩ := h
  by_cases z3 : ck = 0
  case neg => rw [if_neg z3, cl_j0] at h; cases h
  rw [if_pos z3] at h
  replace h := Option.bind_eq_some_iff.mp h
  obtain ⟨ins, e10, h⟩ := h
  cases ins
  case false => rw [show (!false) = true from rfl, cl_j0] at h; cases h
  rw [show (!true) = false from rfl] at h
  subst z1 z2 z3
  replace h := cl_j0f h
  obtain ⟨k0, hk0, h⟩ := h
  have E1 := Aside0.mk e1
  have E2 := Aside0.mk e2
  have E3 := Aside0.mk e3
  have E4 := Aside0.mk e4
  have E5 := Aside0.mk e5
  have E6 := Aside0.mk e6
  have E7 := Aside0.mk e7
  have E8 := Aside0.mk e8
  have E9 := Aside0.mk e9
  have E10 := Aside0.mk e10
  have HH := Aside0.mk h
  have HR := Aside0.mk hr0
  clear e1 e2 e3 e4 e5 e6 e7 e8 e9 e10 h hk0 hr0
  go_enter Try.func11, Try.ntmps11
  go_upto_region 3 with (first | (go_at_call 25; (refine (thermionkit_LawOf.calls k g t0 p0 p1 g0 g1 s0 s1 f0 f1 q0 q1 t1 w w1 HI1.out HB1.out E2.out).mono ?_); rintro e w2 ⟨rfl, hI2, hB2, hK2⟩; (have HI2 := Aside0.mk hI2); (have HB2 := Aside0.mk hB2); clear hI2 hB2 hK2) | (go_at_call 18; (refine (thermionkit_NewDice.calls A0 c0 l0 t0 w w (Below.refl _ _) HR.out hc0 E1.out).mono ?_); rintro e w1 ⟨g, rfl, hI, hB, hb1⟩; (have HI1 := Aside0.mk hI); (have HB1 := Aside0.mk hB); clear hI hB hb1) | fail)
  generalize hW3 : w2.alloc (Obj.cells #[Value.int IntKind.i64 p0, Value.int IntKind.i64 p1, Value.int IntKind.i64 g0, Value.int IntKind.i64 g1, Value.int IntKind.i64 s0, Value.int IntKind.i64 s1, Value.int IntKind.i64 f0, Value.int IntKind.i64 f1, Value.int IntKind.i64 q0, Value.int IntKind.i64 q1] 42) = w3
  obtain ⟨b4, hb4⟩ : ∃ b4, b4 = w2.heap.size := ⟨_, rfl⟩
  rw [← hb4]
  have HI3 : Aside0 (IsS83 w w3 g t1) := ⟨by subst hW3; exact HI2.out.alloc _⟩
  have HB3 : Aside0 (Below w.heap.size w w3) := ⟨by subst hW3; exact below_alloc HB2.out _⟩
  have BL3 : Aside0 (w3.heap[b4]? = some (.cells #[.int .i64 p0, .int .i64 p1, .int .i64 g0, .int .i64 g1, .int .i64 s0, .int .i64 s1, .int .i64 f0, .int .i64 f1, .int .i64 q0, .int .i64 q1] 42 (0, 0))) := ⟨by subst hW3; rw [hb4]; exact blk_new w2 _⟩
  have hgb : g ≠ b4 := by have := HI2.out.lt; omega
  clear hW3 hb4 HI1 HB1 HI2 HB2
  go_wp2_with fail
  refine start_ (n := 7) (S := fun w' => w'.heap[b4]? = some (.cells #[.int .i64 p0, .int .i64 p1, .int .i64 g0, .int .i64 g1, .int .i64 s0, .int .i64 s1, .int .i64 f0, .int .i64 f1, .int .i64 q0, .int .i64 q1] 42 (0, 0))) (ds := []) #[false, false, false, false, false, false, false] (by kernel_rfl) rfl rfl BL3.out (fun hHeld => ?_)
  refine with_tabW thermionlaw02_CurveLines.tab3 thermionlaw02_CurveLines.bits3 (fun HT_ HW_ => ?_)
  have i0 : IsS83 w w3.drew g t1 := HI3.out.drew
  have d0 : Below w.heap.size w w3.drew := below_drew HB3.out
  generalize w3.drew = v0 at hHeld i0 d0 ⊢
  refine pure_ (i := 0) (N := some 22) (v := ?_) (a' := ?_) #[true, false, false, false, false, false, false] rfl rfl (any_of HT_.out (by kernel_rfl)) (fun _ _ _ h => h) (Or.inl ⟨by rfl, ?_⟩) ?_ ?_
  rotate_left
  · intro w'
    go_simp
    with_reducible rfl
  rotate_left
  · simp only [Act.put, List.setIfInBounds_toArray, List.set_cons_zero, List.set_cons_succ, i64_w, i32_w]
    rfl
  refine pure_ (i := 2) (N := some 24) (v := ?_) (a' := ?_) #[true, false, true, false, false, false, false] rfl rfl (any_of HT_.out (by kernel_rfl)) (fun _ _ _ h => h) (Or.inl ⟨by rfl, ?_⟩) ?_ ?_
  rotate_left
  · intro w'
    go_simp
    with_reducible rfl
  rotate_left
  · simp only [Act.put, List.setIfInBounds_toArray, List.set_cons_zero, List.set_cons_succ, i64_w, i32_w]
    rfl
  refine take_ (i := 1) (N := some 23) (v := ?_) (a' := ?_) #[true, true, true, false, false, false, false] rfl rfl (take_ofW HT_.out HW_.out (by kernel_rfl)) (fun _ _ _ h => h) (Or.inl ⟨by rfl, ?_⟩) hHeld ?_ ?_
  rotate_left
  · intro w' hS_
    have sx0 : World.cell? _ ⟨b4, 0, none⟩ = some (.int .i64 p0) := (blk_cell hS_ 0).trans rfl
    have sx1 : World.cell? _ ⟨b4, 1, none⟩ = some (.int .i64 p1) := (blk_cell hS_ 1).trans rfl
    have sx2 : World.cell? _ ⟨b4, 2, none⟩ = some (.int .i64 g0) := (blk_cell hS_ 2).trans rfl
    have sx3 : World.cell? _ ⟨b4, 3, none⟩ = some (.int .i64 g1) := (blk_cell hS_ 3).trans rfl
    have sx4 : World.cell? _ ⟨b4, 4, none⟩ = some (.int .i64 s0) := (blk_cell hS_ 4).trans rfl
    have sx5 : World.cell? _ ⟨b4, 5, none⟩ = some (.int .i64 s1) := (blk_cell hS_ 5).trans rfl
    have sx6 : World.cell? _ ⟨b4, 6, none⟩ = some (.int .i64 f0) := (blk_cell hS_ 6).trans rfl
    have sx7 : World.cell? _ ⟨b4, 7, none⟩ = some (.int .i64 f1) := (blk_cell hS_ 7).trans rfl
    have sx8 : World.cell? _ ⟨b4, 8, none⟩ = some (.int .i64 q0) := (blk_cell hS_ 8).trans rfl
    have sx9 : World.cell? _ ⟨b4, 9, none⟩ = some (.int .i64 q1) := (blk_cell hS_ 9).trans rfl
    go_simp
    with_reducible rfl
  rotate_left
  · simp only [Act.put, List.setIfInBounds_toArray, List.set_cons_zero, List.set_cons_succ, i64_w, i32_w]
    rfl
  refine join_ (σ := Nat) 1 #[true, true, true, true, true, true, false] (fun s_ => [(25, .bool b), (26, .agg #[.int .i64 p0', .int .i64 p1', .int .i64 g0', .int .i64 g1', .int .i64 s0', .int .i64 s1', .int .i64 f0', .int .i64 f1', .int .i64 q0', .int .i64 q1']), (5, .pointer (some ⟨s_, 0, none⟩))]) (fun s_ w' => w'.heap[b4]? = some (.cells #[.int .i64 p0, .int .i64 p1, .int .i64 g0, .int .i64 g1, .int .i64 s0, .int .i64 s1, .int .i64 f0, .int .i64 f1, .int .i64 q0, .int .i64 q1] 42 (0, 0)) ∧ IsS83 w w' g t3 ∧ Below w.heap.size w w' ∧ w'.heap[s_]? = some (.cells #[.int .i64 0, .int .i64 0, .int .i64 0, .int .i64 0, .int .i64 0, .int .i64 0, .int .i64 0, .int .i64 0, .int .i64 0, .int .i64 0] 42 (0, 0)) ∧ w.heap.size ≤ s_ ∧ s_ ≠ g ∧ s_ ≠ b4) ?_ ?_
  rotate_left
  · intro hJ
    refine two_ (i := 3) (j := 5) (Ni := some 25) (Nj := some 5) #[true, true, true, true, false, false, false] #[true, true, true, false, false, true, false] rfl rfl rfl rfl (two_of HT_.out (by kernel_rfl)) (by decide) (by decide) (fun K hK_ => ?_) (fun K hK_ => ?_)
    · skip
      refine goes_ Try.func50 (by kernel_rfl) rfl #[.pointer (some ⟨g, 0, none⟩), .int .i64 2] (by rfl) rfl rfl (by (try simp only [List.map_toArray, List.map_cons, List.map_nil]); first | done | rfl) ?_
      refine (thermionkit_Dice_One.calls g t1 2 b t2 w _ i0 d0 E3.out).mono ?_
      rintro e v1 ⟨rfl, I_v1, D_v1, hK⟩
      refine ⟨_, rfl, ?_⟩
      have S_v1 := KeepBut.blk hK hHeld (fun h => hgb h.symm) (by simp)
      refine hK_.out _ _ S_v1 (fun _ => ?_)
      clear hK_ K
      refine norm_ (a' := ?_) ?_ ?_
      rotate_left
      · show Act.put _ (some 25) _ = _
        simp only [Act.put, List.setIfInBounds_toArray, List.set_cons_zero, List.set_cons_succ, i64_w, i32_w]
        rfl
      refine two_ (i := 4) (j := 5) (Ni := some 26) (Nj := some 5) #[true, true, true, true, true, false, false] #[true, true, true, true, false, true, false] rfl rfl rfl rfl (two_of HT_.out (by kernel_rfl)) (by decide) (by decide) (fun K hK_ => ?_) (fun K hK_ => ?_)
      · skip
        refine goes_ Try.func28 (by kernel_rfl) rfl #[.pointer (some ⟨g, 0, none⟩), .agg #[.int .i64 p0, .int .i64 p1, .int .i64 g0, .int .i64 g1, .int .i64 s0, .int .i64 s1, .int .i64 f0, .int .i64 f1, .int .i64 q0, .int .i64 q1], .bool b] (by rfl) rfl rfl (by (try simp only [List.map_toArray, List.map_cons, List.map_nil]); first | done | rfl) ?_
        refine (thermionkit_WithinLaw.calls g t2 p0 p1 g0 g1 s0 s1 f0 f1 q0 q1 b p0' p1' g0' g1' s0' s1' f0' f1' q0' q1' t3 w _ I_v1 D_v1 E4.out).mono ?_
        rintro e v2 ⟨rfl, I_v2, D_v2, hK⟩
        refine ⟨_, rfl, ?_⟩
        have S_v2 := KeepBut.blk hK S_v1 (fun h => hgb h.symm) (by simp)
        refine hK_.out _ _ S_v2 (fun _ => ?_)
        clear hK_ K
        refine norm_ (a' := ?_) ?_ ?_
        rotate_left
        · show Act.put _ (some 26) _ = _
          simp only [Act.put, List.setIfInBounds_toArray, List.set_cons_zero, List.set_cons_succ, i64_w, i32_w]
          rfl
        refine one_ (i := 5) (N := some 5) #[true, true, true, true, true, true, false] rfl rfl (one_of HT_.out (by kernel_rfl)) (by decide) (fun K hK_ => ?_)
        refine box_step ?hg (N := 5) ?hd (cs := #[.int .i64 0, .int .i64 0, .int .i64 0, .int .i64 0, .int .i64 0, .int .i64 0, .int .i64 0, .int .i64 0, .int .i64 0, .int .i64 0]) (t := 42) ?hr ?_; (case hd => rfl); (case hg => rfl); (case hr => first | (go_simp; done) | (go_simp; rfl))
        intro b5 hg v3 X_v3 hb
        have gg : b5 ≠ g := by have := I_v2.lt; omega
        have gl : w.heap.size ≤ b5 := by have := D_v2.size; omega
        have gb : b5 ≠ b4 := by have := blk_lt S_v2; omega
        have S_v3 := blk_below S_v2 hb
        have I_v3 := I_v2.below hb
        have D_v3 := below_then D_v2 D_v2.size hb
        refine hK_.out _ _ S_v3 (fun _ => ?_)
        clear hK_ K
        refine norm_ (a' := ?_) ?_ ?_
        rotate_left
        · show Act.put _ (some 5) _ = _
          simp only [Act.put, List.setIfInBounds_toArray, List.set_cons_zero, List.set_cons_succ, i64_w, i32_w]
          rfl
        exact norm_ (by first | (simp only [putAll, Act.put, List.setIfInBounds_toArray, List.set_cons_zero, List.set_cons_succ]; done) | (simp only [putAll, Act.put, List.setIfInBounds_toArray, List.set_cons_zero, List.set_cons_succ]; rfl)) (hJ b5 _ ⟨S_v3, I_v3, D_v3, X_v3, gl, gg, gb⟩)
      · skip
        refine box_step ?hg (N := 5) ?hd (cs := #[.int .i64 0, .int .i64 0, .int .i64 0, .int .i64 0, .int .i64 0, .int .i64 0, .int .i64 0, .int .i64 0, .int .i64 0, .int .i64 0]) (t := 42) ?hr ?_; (case hd => rfl); (case hg => rfl); (case hr => first | (go_simp; done) | (go_simp; rfl))
        intro b5 hg v2 X_v2 hb
        have gg : b5 ≠ g := by have := I_v1.lt; omega
        have gl : w.heap.size ≤ b5 := by have := D_v1.size; omega
        have gb : b5 ≠ b4 := by have := blk_lt S_v1; omega
        have S_v2 := blk_below S_v1 hb
        have I_v2 := I_v1.below hb
        have D_v2 := below_then D_v1 D_v1.size hb
        refine hK_.out _ _ S_v2 (fun _ => ?_)
        clear hK_ K
        refine norm_ (a' := ?_) ?_ ?_
        rotate_left
        · show Act.put _ (some 5) _ = _
          simp only [Act.put, List.setIfInBounds_toArray, List.set_cons_zero, List.set_cons_succ, i64_w, i32_w]
          rfl
        refine one_ (i := 4) (N := some 26) #[true, true, true, true, true, true, false] rfl rfl (one_of HT_.out (by kernel_rfl)) (by decide) (fun K hK_ => ?_)
        refine goes_ Try.func28 (by kernel_rfl) rfl #[.pointer (some ⟨g, 0, none⟩), .agg #[.int .i64 p0, .int .i64 p1, .int .i64 g0, .int .i64 g1, .int .i64 s0, .int .i64 s1, .int .i64 f0, .int .i64 f1, .int .i64 q0, .int .i64 q1], .bool b] (by rfl) rfl rfl (by (try simp only [List.map_toArray, List.map_cons, List.map_nil]); first | done | rfl) ?_
        refine (thermionkit_WithinLaw.calls g t2 p0 p1 g0 g1 s0 s1 f0 f1 q0 q1 b p0' p1' g0' g1' s0' s1' f0' f1' q0' q1' t3 w _ I_v2 D_v2 E4.out).mono ?_
        rintro e v3 ⟨rfl, I_v3, D_v3, hK⟩
        refine ⟨_, rfl, ?_⟩
        have S_v3 := KeepBut.blk hK S_v2 (fun h => hgb h.symm) (by simp)
        have X_v3 := KeepBut.blk hK X_v2 gg (by simp)
        refine hK_.out _ _ S_v3 (fun _ => ?_)
        clear hK_ K
        refine norm_ (a' := ?_) ?_ ?_
        rotate_left
        · show Act.put _ (some 26) _ = _
          simp only [Act.put, List.setIfInBounds_toArray, List.set_cons_zero, List.set_cons_succ, i64_w, i32_w]
          rfl
        exact norm_ (by first | (simp only [putAll, Act.put, List.setIfInBounds_toArray, List.set_cons_zero, List.set_cons_succ]; done) | (simp only [putAll, Act.put, List.setIfInBounds_toArray, List.set_cons_zero, List.set_cons_succ]; rfl)) (hJ b5 _ ⟨S_v3, I_v3, D_v3, X_v3, gl, gg, gb⟩)
    · skip
      refine box_step ?hg (N := 5) ?hd (cs := #[.int .i64 0, .int .i64 0, .int .i64 0, .int .i64 0, .int .i64 0, .int .i64 0, .int .i64 0, .int .i64 0, .int .i64 0, .int .i64 0]) (t := 42) ?hr ?_; (case hd => rfl); (case hg => rfl); (case hr => first | (go_simp; done) | (go_simp; rfl))
      intro b5 hg v1 X_v1 hb
      have gg : b5 ≠ g := by have := i0.lt; omega
      have gl : w.heap.size ≤ b5 := by have := d0.size; omega
      have gb : b5 ≠ b4 := by have := blk_lt hHeld; omega
      have S_v1 := blk_below hHeld hb
      have I_v1 := i0.below hb
      have D_v1 := below_then d0 d0.size hb
      refine hK_.out _ _ S_v1 (fun _ => ?_)
      clear hK_ K
      refine norm_ (a' := ?_) ?_ ?_
      rotate_left
      · show Act.put _ (some 5) _ = _
        simp only [Act.put, List.setIfInBounds_toArray, List.set_cons_zero, List.set_cons_succ, i64_w, i32_w]
        rfl
      refine one_ (i := 3) (N := some 25) #[true, true, true, true, false, true, false] rfl rfl (one_of HT_.out (by kernel_rfl)) (by decide) (fun K hK_ => ?_)
      refine goes_ Try.func50 (by kernel_rfl) rfl #[.pointer (some ⟨g, 0, none⟩), .int .i64 2] (by rfl) rfl rfl (by (try simp only [List.map_toArray, List.map_cons, List.map_nil]); first | done | rfl) ?_
      refine (thermionkit_Dice_One.calls g t1 2 b t2 w _ I_v1 D_v1 E3.out).mono ?_
      rintro e v2 ⟨rfl, I_v2, D_v2, hK⟩
      refine ⟨_, rfl, ?_⟩
      have S_v2 := KeepBut.blk hK S_v1 (fun h => hgb h.symm) (by simp)
      have X_v2 := KeepBut.blk hK X_v1 gg (by simp)
      refine hK_.out _ _ S_v2 (fun _ => ?_)
      clear hK_ K
      refine norm_ (a' := ?_) ?_ ?_
      rotate_left
      · show Act.put _ (some 25) _ = _
        simp only [Act.put, List.setIfInBounds_toArray, List.set_cons_zero, List.set_cons_succ, i64_w, i32_w]
        rfl
      refine one_ (i := 4) (N := some 26) #[true, true, true, true, true, true, false] rfl rfl (one_of HT_.out (by kernel_rfl)) (by decide) (fun K hK_ => ?_)
      refine goes_ Try.func28 (by kernel_rfl) rfl #[.pointer (some ⟨g, 0, none⟩), .agg #[.int .i64 p0, .int .i64 p1, .int .i64 g0, .int .i64 g1, .int .i64 s0, .int .i64 s1, .int .i64 f0, .int .i64 f1, .int .i64 q0, .int .i64 q1], .bool b] (by rfl) rfl rfl (by (try simp only [List.map_toArray, List.map_cons, List.map_nil]); first | done | rfl) ?_
      refine (thermionkit_WithinLaw.calls g t2 p0 p1 g0 g1 s0 s1 f0 f1 q0 q1 b p0' p1' g0' g1' s0' s1' f0' f1' q0' q1' t3 w _ I_v2 D_v2 E4.out).mono ?_
      rintro e v3 ⟨rfl, I_v3, D_v3, hK⟩
      refine ⟨_, rfl, ?_⟩
      have S_v3 := KeepBut.blk hK S_v2 (fun h => hgb h.symm) (by simp)
      have X_v3 := KeepBut.blk hK X_v2 gg (by simp)
      refine hK_.out _ _ S_v3 (fun _ => ?_)
      clear hK_ K
      refine norm_ (a' := ?_) ?_ ?_
      rotate_left
      · show Act.put _ (some 26) _ = _
        simp only [Act.put, List.setIfInBounds_toArray, List.set_cons_zero, List.set_cons_succ, i64_w, i32_w]
        rfl
      exact norm_ (by first | (simp only [putAll, Act.put, List.setIfInBounds_toArray, List.set_cons_zero, List.set_cons_succ]; done) | (simp only [putAll, Act.put, List.setIfInBounds_toArray, List.set_cons_zero, List.set_cons_succ]; rfl)) (hJ b5 _ ⟨S_v3, I_v3, D_v3, X_v3, gl, gg, gb⟩)
  · skip
    rintro b5 v4 ⟨S4, I4, D4, X4, gl, gg, gb⟩
    replace S4 : v4.heap[b4]? = some (.cells #[.int .i64 p0, .int .i64 p1, .int .i64 g0, .int .i64 g1, .int .i64 s0, .int .i64 s1, .int .i64 f0, .int .i64 f1, .int .i64 q0, .int .i64 q1] 42 (0, 0)) := S4
    replace X4 : v4.heap[b5]? = some (.cells #[.int .i64 0, .int .i64 0, .int .i64 0, .int .i64 0, .int .i64 0, .int .i64 0, .int .i64 0, .int .i64 0, .int .i64 0, .int .i64 0] 42 (0, 0)) := X4
    replace gl : w.heap.size ≤ b5 := gl
    replace gg : b5 ≠ g := gg
    replace gb : b5 ≠ b4 := gb
    refine norm_ (a' := ?_) ?_ ?_
    rotate_left
    · simp only [putAll, Act.put, List.setIfInBounds_toArray, List.set_cons_zero, List.set_cons_succ]
      rfl
    have y0 : v4.cell? ⟨b5, 0, none⟩ = some (.int .i64 0) := (blk_cell X4 0).trans rfl
    have z0 := blk_frozen X4 0
    have y1 : v4.cell? ⟨b5, 1, none⟩ = some (.int .i64 0) := (blk_cell X4 1).trans rfl
    have z1 := blk_frozen X4 1
    have y2 : v4.cell? ⟨b5, 2, none⟩ = some (.int .i64 0) := (blk_cell X4 2).trans rfl
    have z2 := blk_frozen X4 2
    have y3 : v4.cell? ⟨b5, 3, none⟩ = some (.int .i64 0) := (blk_cell X4 3).trans rfl
    have z3 := blk_frozen X4 3
    have y4 : v4.cell? ⟨b5, 4, none⟩ = some (.int .i64 0) := (blk_cell X4 4).trans rfl
    have z4 := blk_frozen X4 4
    have y5 : v4.cell? ⟨b5, 5, none⟩ = some (.int .i64 0) := (blk_cell X4 5).trans rfl
    have z5 := blk_frozen X4 5
    have y6 : v4.cell? ⟨b5, 6, none⟩ = some (.int .i64 0) := (blk_cell X4 6).trans rfl
    have z6 := blk_frozen X4 6
    have y7 : v4.cell? ⟨b5, 7, none⟩ = some (.int .i64 0) := (blk_cell X4 7).trans rfl
    have z7 := blk_frozen X4 7
    have y8 : v4.cell? ⟨b5, 8, none⟩ = some (.int .i64 0) := (blk_cell X4 8).trans rfl
    have z8 := blk_frozen X4 8
    have y9 : v4.cell? ⟨b5, 9, none⟩ = some (.int .i64 0) := (blk_cell X4 9).trans rfl
    have z9 := blk_frozen X4 9
    refine one_ (i := 6) (N := none) #[true, true, true, true, true, true, true] rfl rfl (one_of HT_.out (by kernel_rfl)) (by decide) (fun K hK_ => ?_)
    refine skip_ (w1 := ?_) (by rfl) rfl ?_ ?_
    rotate_left
    · go_simp
      rfl
    have S5 : (World.setCell (World.setCell (World.setCell (World.setCell (World.setCell (World.setCell (World.setCell (World.setCell (World.setCell (World.setCell v4 ⟨b5, 0, none⟩ (.int .i64 p0')) ⟨b5, 1, none⟩ (.int .i64 p1')) ⟨b5, 2, none⟩ (.int .i64 g0')) ⟨b5, 3, none⟩ (.int .i64 g1')) ⟨b5, 4, none⟩ (.int .i64 s0')) ⟨b5, 5, none⟩ (.int .i64 s1')) ⟨b5, 6, none⟩ (.int .i64 f0')) ⟨b5, 7, none⟩ (.int .i64 f1')) ⟨b5, 8, none⟩ (.int .i64 q0')) ⟨b5, 9, none⟩ (.int .i64 q1')).heap[b4]? = some (.cells #[.int .i64 p0, .int .i64 p1, .int .i64 g0, .int .i64 g1, .int .i64 s0, .int .i64 s1, .int .i64 f0, .int .i64 f1, .int .i64 q0, .int .i64 q1] 42 (0, 0)) := (blk_far (blk_far (blk_far (blk_far (blk_far (blk_far (blk_far (blk_far (blk_far (blk_far S4 (fun h => gb h.symm) _) (fun h => gb h.symm) _) (fun h => gb h.symm) _) (fun h => gb h.symm) _) (fun h => gb h.symm) _) (fun h => gb h.symm) _) (fun h => gb h.symm) _) (fun h => gb h.symm) _) (fun h => gb h.symm) _) (fun h => gb h.symm) _)
    refine hK_.out _ _ S5 (fun _ => ?_)
    clear hK_ K
    refine done_ (done_of HT_.out (by kernel_rfl)) ?_
    have X5 : (World.setCell (World.setCell (World.setCell (World.setCell (World.setCell (World.setCell (World.setCell (World.setCell (World.setCell (World.setCell v4 ⟨b5, 0, none⟩ (.int .i64 p0')) ⟨b5, 1, none⟩ (.int .i64 p1')) ⟨b5, 2, none⟩ (.int .i64 g0')) ⟨b5, 3, none⟩ (.int .i64 g1')) ⟨b5, 4, none⟩ (.int .i64 s0')) ⟨b5, 5, none⟩ (.int .i64 s1')) ⟨b5, 6, none⟩ (.int .i64 f0')) ⟨b5, 7, none⟩ (.int .i64 f1')) ⟨b5, 8, none⟩ (.int .i64 q0')) ⟨b5, 9, none⟩ (.int .i64 q1')).heap[b5]? = some (.cells #[.int .i64 p0', .int .i64 p1', .int .i64 g0', .int .i64 g1', .int .i64 s0', .int .i64 s1', .int .i64 f0', .int .i64 f1', .int .i64 q0', .int .i64 q1'] 42 (0, 0)) := by refine blk_put (cs := #[.int .i64 p0', .int .i64 p1', .int .i64 g0', .int .i64 g1', .int .i64 s0', .int .i64 s1', .int .i64 f0', .int .i64 f1', .int .i64 q0', .int .i64 0]) ?_ 9 _ rfl; refine blk_put (cs := #[.int .i64 p0', .int .i64 p1', .int .i64 g0', .int .i64 g1', .int .i64 s0', .int .i64 s1', .int .i64 f0', .int .i64 f1', .int .i64 0, .int .i64 0]) ?_ 8 _ rfl; refine blk_put (cs := #[.int .i64 p0', .int .i64 p1', .int .i64 g0', .int .i64 g1', .int .i64 s0', .int .i64 s1', .int .i64 f0', .int .i64 0, .int .i64 0, .int .i64 0]) ?_ 7 _ rfl; refine blk_put (cs := #[.int .i64 p0', .int .i64 p1', .int .i64 g0', .int .i64 g1', .int .i64 s0', .int .i64 s1', .int .i64 0, .int .i64 0, .int .i64 0, .int .i64 0]) ?_ 6 _ rfl; refine blk_put (cs := #[.int .i64 p0', .int .i64 p1', .int .i64 g0', .int .i64 g1', .int .i64 s0', .int .i64 0, .int .i64 0, .int .i64 0, .int .i64 0, .int .i64 0]) ?_ 5 _ rfl; refine blk_put (cs := #[.int .i64 p0', .int .i64 p1', .int .i64 g0', .int .i64 g1', .int .i64 0, .int .i64 0, .int .i64 0, .int .i64 0, .int .i64 0, .int .i64 0]) ?_ 4 _ rfl; refine blk_put (cs := #[.int .i64 p0', .int .i64 p1', .int .i64 g0', .int .i64 0, .int .i64 0, .int .i64 0, .int .i64 0, .int .i64 0, .int .i64 0, .int .i64 0]) ?_ 3 _ rfl; refine blk_put (cs := #[.int .i64 p0', .int .i64 p1', .int .i64 0, .int .i64 0, .int .i64 0, .int .i64 0, .int .i64 0, .int .i64 0, .int .i64 0, .int .i64 0]) ?_ 2 _ rfl; refine blk_put (cs := #[.int .i64 p0', .int .i64 0, .int .i64 0, .int .i64 0, .int .i64 0, .int .i64 0, .int .i64 0, .int .i64 0, .int .i64 0, .int .i64 0]) ?_ 1 _ rfl; refine blk_put (cs := #[.int .i64 0, .int .i64 0, .int .i64 0, .int .i64 0, .int .i64 0, .int .i64 0, .int .i64 0, .int .i64 0, .int .i64 0, .int .i64 0]) ?_ 0 _ rfl; exact X4
    have I5 : IsS83 w (World.setCell (World.setCell (World.setCell (World.setCell (World.setCell (World.setCell (World.setCell (World.setCell (World.setCell (World.setCell v4 ⟨b5, 0, none⟩ (.int .i64 p0')) ⟨b5, 1, none⟩ (.int .i64 p1')) ⟨b5, 2, none⟩ (.int .i64 g0')) ⟨b5, 3, none⟩ (.int .i64 g1')) ⟨b5, 4, none⟩ (.int .i64 s0')) ⟨b5, 5, none⟩ (.int .i64 s1')) ⟨b5, 6, none⟩ (.int .i64 f0')) ⟨b5, 7, none⟩ (.int .i64 f1')) ⟨b5, 8, none⟩ (.int .i64 q0')) ⟨b5, 9, none⟩ (.int .i64 q1')) g t3 := (IsS83.far (IsS83.far (IsS83.far (IsS83.far (IsS83.far (IsS83.far (IsS83.far (IsS83.far (IsS83.far (IsS83.far I4 (fun h => gg h.symm) _) (fun h => gg h.symm) _) (fun h => gg h.symm) _) (fun h => gg h.symm) _) (fun h => gg h.symm) _) (fun h => gg h.symm) _) (fun h => gg h.symm) _) (fun h => gg h.symm) _) (fun h => gg h.symm) _) (fun h => gg h.symm) _)
    have D5 : Below w.heap.size w (World.setCell (World.setCell (World.setCell (World.setCell (World.setCell (World.setCell (World.setCell (World.setCell (World.setCell (World.setCell v4 ⟨b5, 0, none⟩ (.int .i64 p0')) ⟨b5, 1, none⟩ (.int .i64 p1')) ⟨b5, 2, none⟩ (.int .i64 g0')) ⟨b5, 3, none⟩ (.int .i64 g1')) ⟨b5, 4, none⟩ (.int .i64 s0')) ⟨b5, 5, none⟩ (.int .i64 s1')) ⟨b5, 6, none⟩ (.int .i64 f0')) ⟨b5, 7, none⟩ (.int .i64 f1')) ⟨b5, 8, none⟩ (.int .i64 q0')) ⟨b5, 9, none⟩ (.int .i64 q1')) := (below_set (below_set (below_set (below_set (below_set (below_set (below_set (below_set (below_set (below_set D4 gl) gl) gl) gl) gl) gl) gl) gl) gl) gl)
    have S6 := Aside0.mk S5
    have X6 := Aside0.mk X5
    have I6 := Aside0.mk I5
    have D6 := Aside0.mk D5
    clear y0 z0 y1 z1 y2 z2 y3 z3 y4 z4 y5 z5 y6 z6 y7 z7 y8 z8 y9 z9 S4 I4 D4 X4 S5 I5 D5 X5 HT_ HW_ HI3 HB3 BL3
    generalize (World.setCell (World.setCell (World.setCell (World.setCell (World.setCell (World.setCell (World.setCell (World.setCell (World.setCell (World.setCell v4 ⟨b5, 0, none⟩ (.int .i64 p0')) ⟨b5, 1, none⟩ (.int .i64 p1')) ⟨b5, 2, none⟩ (.int .i64 g0')) ⟨b5, 3, none⟩ (.int .i64 g1')) ⟨b5, 4, none⟩ (.int .i64 s0')) ⟨b5, 5, none⟩ (.int .i64 s1')) ⟨b5, 6, none⟩ (.int .i64 f0')) ⟨b5, 7, none⟩ (.int .i64 f1')) ⟨b5, 8, none⟩ (.int .i64 q0')) ⟨b5, 9, none⟩ (.int .i64 q1')) = w5 at S6 X6 I6 D6 ⊢
    go_upto_region 5 with (first | (go_at_call 51; (refine (thermionkit_Lines.calls g t4 0 400000 5 plate t5 w w6 HI6.out HB6.out E6.out).mono ?_); rintro e w7 ⟨v7, rfl, ho7, hI7, hB7, hK7⟩; (obtain ⟨A7, c7, hv7⟩ := Kd.R_slice ho7); subst hv7; (have HO7 := Aside0.mk ho7); (have HK7 := Aside0.mk hK7); (have HB7 := Aside0.mk hB7); clear ho7 hI7 hB7 hK7) | (go_at_call 51; (refine (thermionkit_Lines.calls g t3 (-9000) 9000 5 grid t4 w w5 I6.out D6.out E5.out).mono ?_); rintro e w6 ⟨v6, rfl, ho6, hI6, hB6, hK6⟩; (obtain ⟨A6, c6, hv6⟩ := Kd.R_slice ho6); subst hv6; (have HO6 := Aside0.mk ho6); (have HI6 := Aside0.mk hI6); (have HB6 := Aside0.mk hB6); (have HK6 := Aside0.mk hK6); clear ho6 hI6 hB6 hK6) | fail)
    have hg5 := I6.out.lt
    have hg6 := HI6.out.lt
    have CG : Aside0 (Kd.C (Kd.int .i64) w7 A6 grid.length grid ∧ grid.length ≤ c6) := ⟨by
      have h_ := Kd.R_keep (Kd.R_bound HO6.out) HK7.out (fun k hk => by have := hk.2.1; omega)
      exact ⟨(Kd.R_reads' h_).2.2, (Kd.R_reads' h_).2.1⟩⟩
    have CP : Aside0 (Kd.C (Kd.int .i64) w7 A7 plate.length plate ∧ plate.length ≤ c7) := ⟨⟨(Kd.R_reads' HO7.out).2.2, (Kd.R_reads' HO7.out).2.1⟩⟩
    have BL7 := Aside0.mk (KeepBut.blk HK7.out (KeepBut.blk HK6.out S6.out (fun h => hgb h.symm) (by simp)) (fun h => hgb h.symm) (by simp))
    have BM7 := Aside0.mk (KeepBut.blk HK7.out (KeepBut.blk HK6.out X6.out gg (by simp)) gg (by simp))
    have x0 : w7.cell? ⟨b4, 0, none⟩ = some (.int .i64 p0) := (blk_cell BL7.out 0).trans rfl
    have x1 : w7.cell? ⟨b4, 1, none⟩ = some (.int .i64 p1) := (blk_cell BL7.out 1).trans rfl
    have x2 : w7.cell? ⟨b4, 2, none⟩ = some (.int .i64 g0) := (blk_cell BL7.out 2).trans rfl
    have x3 : w7.cell? ⟨b4, 3, none⟩ = some (.int .i64 g1) := (blk_cell BL7.out 3).trans rfl
    have x4 : w7.cell? ⟨b4, 4, none⟩ = some (.int .i64 s0) := (blk_cell BL7.out 4).trans rfl
    have x5 : w7.cell? ⟨b4, 5, none⟩ = some (.int .i64 s1) := (blk_cell BL7.out 5).trans rfl
    have x6 : w7.cell? ⟨b4, 6, none⟩ = some (.int .i64 f0) := (blk_cell BL7.out 6).trans rfl
    have x7 : w7.cell? ⟨b4, 7, none⟩ = some (.int .i64 f1) := (blk_cell BL7.out 7).trans rfl
    have x8 : w7.cell? ⟨b4, 8, none⟩ = some (.int .i64 q0) := (blk_cell BL7.out 8).trans rfl
    have x9 : w7.cell? ⟨b4, 9, none⟩ = some (.int .i64 q1) := (blk_cell BL7.out 9).trans rfl
    clear hg5 hg6 HO6 HO7 HK6 HK7 HI6 HB6 S6 X6 I6 D6 E1 E2 E3 E4 E5 E6 HR
    go_upto_region 6 with (first | (go_at_call 52; (refine (curve_Of.calls k p0 p1 g0 g1 s0 s1 f0 f1 q0 q1 A6 c6 grid A7 c7 plate F0 F1 F2 F3 0 w7 CG.out.1 CG.out.2 CP.out.1 CP.out.2 E7.out).mono ?_); rintro e w8 ⟨u0, u1, u2, u3, rfl, ho0, ho1, ho2, ho3, hb⟩; (obtain ⟨AF0, cF0, he0⟩ := Kd.R_slice ho0); subst he0; (obtain ⟨AF1, cF1, he1⟩ := Kd.R_slice ho1); subst he1; (obtain ⟨AF2, cF2, he2⟩ := Kd.N_slice ho2); subst he2; (obtain ⟨AF3, cF3, he3⟩ := Kd.N_slice ho3); subst he3; (have HF := Aside0.mk (show (Kd.C (Kd.int .i64) w8 AF0 F0.length F0 ∧ F0.length ≤ cF0) ∧ (Kd.C (Kd.int .i64) w8 AF1 F1.length F1 ∧ F1.length ≤ cF1) ∧ (Kd.C (Kd.slice 3 (Kd.int .i64)) w8 AF2 F2.length F2 ∧ F2.length ≤ cF2) ∧ (Kd.C (Kd.slice 3 (Kd.int .i64)) w8 AF3 F3.length F3 ∧ F3.length ≤ cF3) from ⟨⟨(Kd.R_reads' ho0).2.2, (Kd.R_reads' ho0).2.1⟩, ⟨(Kd.R_reads' ho1).2.2, (Kd.R_reads' ho1).2.1⟩, ⟨(Kd.N_reads' ho2).2.2, (Kd.N_reads' ho2).2.1⟩, ⟨(Kd.N_reads' ho3).2.2, (Kd.N_reads' ho3).2.1⟩⟩)); (have HBF := Aside0.mk hb); clear ho0 ho1 ho2 ho3 hb) | fail)
    generalize hW : w8.alloc (Obj.cells #[Value.slice AF0 F0.length cF0, Value.slice AF1 F1.length cF1, Value.slice AF2 F2.length cF2, Value.slice AF3 F3.length cF3] 25) = w9
    obtain ⟨b8, hb⟩ : ∃ b, b = w8.heap.size := ⟨_, rfl⟩
    rw [← hb]
    have hw9 : Below w8.heap.size w8 w9 := by subst hW; exact below_alloc (Below.refl _ _) _
    have BF : Aside0 (w9.heap[b8]? = some (.cells #[.slice AF0 F0.length cF0, .slice AF1 F1.length cF1, .slice AF2 F2.length cF2, .slice AF3 F3.length cF3] 25 (0, 0))) := ⟨by subst hW; rw [hb]; exact blk_new w8 _⟩
    clear hW hb
    have h79 := below_then HBF.out HBF.out.size hw9
    have BM9 := Aside0.mk (blk_below BM7.out h79)
    clear x0 x1 x2 x3 x4 x5 x6 x7 x8 x9
    have x0 : w9.cell? ⟨b5, 0, none⟩ = some (.int .i64 p0') := (blk_cell BM9.out 0).trans rfl
    have x1 : w9.cell? ⟨b5, 1, none⟩ = some (.int .i64 p1') := (blk_cell BM9.out 1).trans rfl
    have x2 : w9.cell? ⟨b5, 2, none⟩ = some (.int .i64 g0') := (blk_cell BM9.out 2).trans rfl
    have x3 : w9.cell? ⟨b5, 3, none⟩ = some (.int .i64 g1') := (blk_cell BM9.out 3).trans rfl
    have x4 : w9.cell? ⟨b5, 4, none⟩ = some (.int .i64 s0') := (blk_cell BM9.out 4).trans rfl
    have x5 : w9.cell? ⟨b5, 5, none⟩ = some (.int .i64 s1') := (blk_cell BM9.out 5).trans rfl
    have x6 : w9.cell? ⟨b5, 6, none⟩ = some (.int .i64 f0') := (blk_cell BM9.out 6).trans rfl
    have x7 : w9.cell? ⟨b5, 7, none⟩ = some (.int .i64 f1') := (blk_cell BM9.out 7).trans rfl
    have x8 : w9.cell? ⟨b5, 8, none⟩ = some (.int .i64 q0') := (blk_cell BM9.out 8).trans rfl
    have x9 : w9.cell? ⟨b5, 9, none⟩ = some (.int .i64 q1') := (blk_cell BM9.out 9).trans rfl
    have H79 := Aside0.mk h79
    have H89 := Aside0.mk hw9
    clear h79 hw9
    go_upto_region 7 with (first | (go_at_call 52; (refine (curve_Of.calls k p0' p1' g0' g1' s0' s1' f0' f1' q0' q1' A6 c6 grid A7 c7 plate G0 G1 G2 G3 0 w9 (Kd.C_below CG.out.1 H79.out) CG.out.2 (Kd.C_below CP.out.1 H79.out) CP.out.2 E8.out).mono ?_); rintro e w10 ⟨u0, u1, u2, u3, rfl, ho0, ho1, ho2, ho3, hb⟩; (obtain ⟨AG0, cG0, he0⟩ := Kd.R_slice ho0); subst he0; (obtain ⟨AG1, cG1, he1⟩ := Kd.R_slice ho1); subst he1; (obtain ⟨AG2, cG2, he2⟩ := Kd.N_slice ho2); subst he2; (obtain ⟨AG3, cG3, he3⟩ := Kd.N_slice ho3); subst he3; (have HG := Aside0.mk (show (Kd.C (Kd.int .i64) w10 AG0 G0.length G0 ∧ G0.length ≤ cG0) ∧ (Kd.C (Kd.int .i64) w10 AG1 G1.length G1 ∧ G1.length ≤ cG1) ∧ (Kd.C (Kd.slice 3 (Kd.int .i64)) w10 AG2 G2.length G2 ∧ G2.length ≤ cG2) ∧ (Kd.C (Kd.slice 3 (Kd.int .i64)) w10 AG3 G3.length G3 ∧ G3.length ≤ cG3) from ⟨⟨(Kd.R_reads' ho0).2.2, (Kd.R_reads' ho0).2.1⟩, ⟨(Kd.R_reads' ho1).2.2, (Kd.R_reads' ho1).2.1⟩, ⟨(Kd.N_reads' ho2).2.2, (Kd.N_reads' ho2).2.1⟩, ⟨(Kd.N_reads' ho3).2.2, (Kd.N_reads' ho3).2.1⟩⟩)); (have HBG := Aside0.mk hb); clear ho0 ho1 ho2 ho3 hb) | fail)
    generalize hW : w10.alloc (Obj.cells #[Value.slice AG0 G0.length cG0, Value.slice AG1 G1.length cG1, Value.slice AG2 G2.length cG2, Value.slice AG3 G3.length cG3] 25) = w11
    obtain ⟨b10, hb⟩ : ∃ b, b = w10.heap.size := ⟨_, rfl⟩
    rw [← hb]
    have hw11 : Below w10.heap.size w10 w11 := by subst hW; exact below_alloc (Below.refl _ _) _
    have BG : Aside0 (w11.heap[b10]? = some (.cells #[.slice AG0 G0.length cG0, .slice AG1 G1.length cG1, .slice AG2 G2.length cG2, .slice AG3 G3.length cG3] 25 (0, 0))) := ⟨by subst hW; rw [hb]; exact blk_new w10 _⟩
    clear hW hb
    clear x0 x1 x2 x3 x4 x5 x6 x7 x8 x9
    have h911 := below_then HBG.out HBG.out.size hw11
    have h811 := below_then H89.out H89.out.size h911
    have h711 := below_then H79.out H79.out.size h911
    have HBw : Aside0 (Below w.heap.size w w11) := ⟨below_then HB7.out HB7.out.size h711⟩
    have CG1 := Aside0.mk (Kd.C_below CG.out.1 h711)
    have CP1 := Aside0.mk (Kd.C_below CP.out.1 h711)
    have BF11 := Aside0.mk (blk_below BF.out h911)
    have BL11 := Aside0.mk (blk_below BL7.out h711)
    obtain ⟨hf0, hf1, hf2, hf3⟩ := HF.out
    obtain ⟨hg0, hg1, hg2, hg3⟩ := HG.out
    have HCk := Aside0.mk (fun W (hb : Below w11.heap.size w11 W) => curve_Check.calls AF0 cF0 F0 AF1 cF1 F1 AF2 cF2 F2 AF3 cF3 F3 0 W (Kd.C_below (Kd.C_below hf0.1 h811) hb) hf0.2 (Kd.C_below (Kd.C_below hf1.1 h811) hb) hf1.2 (Kd.C_below (Kd.C_below hf2.1 h811) hb) hf2.2 (Kd.C_below (Kd.C_below hf3.1 h811) hb) hf3.2 E9.out)
    have HIn := Aside0.mk (fun W (hb : Below w11.heap.size w11 W) => curve_Inside.calls AF0 cF0 F0 AF1 cF1 F1 AF2 cF2 F2 AF3 cF3 F3 AG0 cG0 G0 AG1 cG1 G1 AG2 cG2 G2 AG3 cG3 G3 true W (Kd.C_below (Kd.C_below hf0.1 h811) hb) hf0.2 (Kd.C_below (Kd.C_below hf1.1 h811) hb) hf1.2 (Kd.C_below (Kd.C_below hf2.1 h811) hb) hf2.2 (Kd.C_below (Kd.C_below hf3.1 h811) hb) hf3.2 (Kd.C_below (Kd.C_below hg0.1 hw11) hb) hg0.2 (Kd.C_below (Kd.C_below hg1.1 hw11) hb) hg1.2 (Kd.C_below (Kd.C_below hg2.1 hw11) hb) hg2.2 (Kd.C_below (Kd.C_below hg3.1 hw11) hb) hg3.2 E10.out)
    have HAt := Aside0.mk (fun W (hb : Below w11.heap.size w11 W) kk a1 a2 y1 y2 y3 hh => curve_At.calls kk AF0 cF0 F0 AF1 cF1 F1 AF2 cF2 F2 AF3 cF3 F3 a1 a2 y1 y2 y3 W (Kd.C_below (Kd.C_below hf0.1 h811) hb) hf0.2 (Kd.C_below (Kd.C_below hf1.1 h811) hb) hf1.2 (Kd.C_below (Kd.C_below hf2.1 h811) hb) hf2.2 (Kd.C_below (Kd.C_below hf3.1 h811) hb) hf3.2 hh)
    have HCu := Aside0.mk (fun W (_ : Below w11.heap.size w11 W) kk a1 a2 y1 y2 y3 hh => curve_Current.calls kk p0 p1 g0 g1 s0 s1 f0 f1 q0 q1 a1 a2 y1 y2 y3 W hh)
    have fx0 : w11.cell? ⟨b8, 0, none⟩ = some (.slice AF0 F0.length cF0) := (blk_cell BF11.out 0).trans rfl
    have gx0 : w11.cell? ⟨b10, 0, none⟩ = some (.slice AG0 G0.length cG0) := (blk_cell BG.out 0).trans rfl
    have fx1 : w11.cell? ⟨b8, 1, none⟩ = some (.slice AF1 F1.length cF1) := (blk_cell BF11.out 1).trans rfl
    have gx1 : w11.cell? ⟨b10, 1, none⟩ = some (.slice AG1 G1.length cG1) := (blk_cell BG.out 1).trans rfl
    have fx2 : w11.cell? ⟨b8, 2, none⟩ = some (.slice AF2 F2.length cF2) := (blk_cell BF11.out 2).trans rfl
    have gx2 : w11.cell? ⟨b10, 2, none⟩ = some (.slice AG2 G2.length cG2) := (blk_cell BG.out 2).trans rfl
    have fx3 : w11.cell? ⟨b8, 3, none⟩ = some (.slice AF3 F3.length cF3) := (blk_cell BF11.out 3).trans rfl
    have gx3 : w11.cell? ⟨b10, 3, none⟩ = some (.slice AG3 G3.length cG3) := (blk_cell BG.out 3).trans rfl
    have lx0 : w11.cell? ⟨b4, 0, none⟩ = some (.int .i64 p0) := (blk_cell BL11.out 0).trans rfl
    have lx1 : w11.cell? ⟨b4, 1, none⟩ = some (.int .i64 p1) := (blk_cell BL11.out 1).trans rfl
    have lx2 : w11.cell? ⟨b4, 2, none⟩ = some (.int .i64 g0) := (blk_cell BL11.out 2).trans rfl
    have lx3 : w11.cell? ⟨b4, 3, none⟩ = some (.int .i64 g1) := (blk_cell BL11.out 3).trans rfl
    have lx4 : w11.cell? ⟨b4, 4, none⟩ = some (.int .i64 s0) := (blk_cell BL11.out 4).trans rfl
    have lx5 : w11.cell? ⟨b4, 5, none⟩ = some (.int .i64 s1) := (blk_cell BL11.out 5).trans rfl
    have lx6 : w11.cell? ⟨b4, 6, none⟩ = some (.int .i64 f0) := (blk_cell BL11.out 6).trans rfl
    have lx7 : w11.cell? ⟨b4, 7, none⟩ = some (.int .i64 f1) := (blk_cell BL11.out 7).trans rfl
    have lx8 : w11.cell? ⟨b4, 8, none⟩ = some (.int .i64 q0) := (blk_cell BL11.out 8).trans rfl
    have lx9 : w11.cell? ⟨b4, 9, none⟩ = some (.int .i64 q1) := (blk_cell BL11.out 9).trans rfl
    have mg : grid.length ≤ 9223372036854775807 := CG1.out.2.1
    have mp : plate.length ≤ 9223372036854775807 := CP1.out.2.1
    clear hf0 hf1 hf2 hf3 hg0 hg1 hg2 hg3 h711 h811 h911 hw11 HF HG HBF HBG BF BG BF11 BL11 BL7 BM7 BM9 H79 H89 CG CP HB7 E7 E8 E9 E10
    go_wp2_with (first | (go_at_call 44; (refine (HIn.out _ HQ12.out).mono ?_); rintro e w13 ⟨rfl, hb⟩; (have HQ13 := Aside0.mk (below_then HQ12.out HQ12.out.size hb)); clear hb) | (go_at_call 37; (refine (HCk.out w11 (Below.refl _ _)).mono ?_); rintro e w12 ⟨rfl, hb⟩; (have fz0 := pw_cell_below hb fx0); (have gz0 := pw_cell_below hb gx0); (have fz1 := pw_cell_below hb fx1); (have gz1 := pw_cell_below hb gx1); (have fz2 := pw_cell_below hb fx2); (have gz2 := pw_cell_below hb gx2); (have fz3 := pw_cell_below hb fx3); (have gz3 := pw_cell_below hb gx3); (have HQ12 := Aside0.mk hb); clear hb) | fail)
    clear fz0 fz1 fz2 fz3 gz0 gz1 gz2 gz3 gx0 gx1 gx2 gx3 HIn HCk HQ12
    go_loopw [12] (fun ix wr => ∃ (i kq : Nat), i ≤ grid.length ∧ ix = .int .i64 i ∧ Aside0 (thermionlaw02_CurveLines.l0 kq grid plate (i : Int) p0 p1 g0 g1 s0 s1 f0 f1 q0 q1 F0 F1 F2 F3 = some r) ∧ Aside0 (Below w11.heap.size w11 wr)) (fun ix _ => grid.length - (intOf ix).toNat)
    case atStart => exact ⟨0, k0, Nat.zero_le _, rfl, HH, HQ13⟩
    case round =>
      obtain ⟨i, kq, hi, rfl, HA, HQ⟩ := hrel
      have hA := HA.out
      clear HA HH
      cases kq with
      | zero => cases hA
      | succ kq =>
        simp only [thermionlaw02_CurveLines.l0] at hA
        by_cases hlt : i < grid.length
        · rw [if_pos (by omega)] at hA
          have HA2 := Aside0.mk hA
          clear hA
          have hi0 : (0 : Int) ≤ i := by omega
          have hi1 : (i : Int) < grid.length := by omega
          have hwi : IntKind.i64.wrap ((i : Int) + 1) = i + 1 := IntWalk.i64_in _ (by omega)
          obtain ⟨ag, hag, hcell⟩ := Kd.at_int CG1.out (i : Int) hi0 hi1
          subst hag
          have hcg : w11.cell? (ag.add i) = some (.int .i64 (grid.getD i 0)) := hcell
          clear hcell
          obtain ⟨gv, hgv⟩ : ∃ gv, gv = grid.getD i 0 := ⟨_, rfl⟩
          rw [← hgv] at hcg
          have HGV := Aside0.mk hgv
          clear hgv
          go_wp2_with fail
          go_loopw [13] (fun ix wr => ∃ (j kq : Nat), j ≤ plate.length ∧ ix = .int .i64 j ∧ Aside0 (thermionlaw02_CurveLines.l1 kq grid plate (i : Int) (j : Int) p0 p1 g0 g1 s0 s1 f0 f1 q0 q1 F0 F1 F2 F3 = some r) ∧ Aside0 (Below w11.heap.size w11 wr)) (fun ix _ => plate.length - (intOf ix).toNat)
          case atStart => exact ⟨0, kq, Nat.zero_le _, rfl, HA2, HQ⟩
          case round =>
            clear HA2 HQ
            obtain ⟨j, kq, hj, rfl, HA, HQ⟩ := hrel
            have hA := HA.out
            clear HA
            cases kq with
            | zero => cases hA
            | succ kq =>
              simp only [thermionlaw02_CurveLines.l1] at hA
              by_cases hlj : j < plate.length
              · rw [if_pos (by omega), if_pos (by omega), if_pos (by omega), if_pos (by omega)] at hA
                replace hA := Option.bind_eq_some_iff.mp hA
                obtain ⟨⟨c1, c2, ce⟩, ec, hA⟩ := hA
                replace hA := Option.bind_eq_some_iff.mp hA
                obtain ⟨⟨d1, d2, de⟩, ea, hA⟩ := hA
                dsimp only at hA
                by_cases y1 : ce = 0
                case neg => rw [if_neg y1] at hA; cases hA
                rw [if_pos y1] at hA
                by_cases y2 : de = 0
                case neg => rw [if_neg y2] at hA; cases hA
                rw [if_pos y2] at hA
                by_cases y3 : (!(c1 == d1) || !(c2 == d2)) = true
                case pos => rw [if_pos y3] at hA; cases hA
                rw [if_neg y3] at hA
                obtain ⟨hx1, hx2⟩ : c1 = d1 ∧ c2 = d2 := by simpa using y3
                clear y3
                subst y1 y2 hx1 hx2
                rw [show wrap64 ((j : Int) + 1) = ((j + 1 : Nat) : Int) from by unfold wrap64; omega] at hA
                obtain ⟨ap, hap, hcell⟩ := Kd.at_int CP1.out (j : Int) (by omega) (by omega)
                subst hap
                have hcp : w11.cell? (ap.add j) = some (.int .i64 (plate.getD j 0)) := hcell
                clear hcell
                rw [show rd grid (i : Int) = grid.getD i 0 from rfl, ← HGV.out, show rd plate (j : Int) = plate.getD j 0 from rfl] at ec ea
                obtain ⟨pv, hpv⟩ : ∃ pv, pv = plate.getD j 0 := ⟨_, rfl⟩
                rw [← hpv] at hcp ec ea
                have EC := Aside0.mk ec
                have EA := Aside0.mk ea
                have HA3 := Aside0.mk hA
                clear hpv ec ea hA
                have hj0 : (0 : Int) ≤ j := by omega
                have hj1 : (j : Int) < plate.length := by omega
                have hwj : IntKind.i64.wrap ((j : Int) + 1) = j + 1 := IntWalk.i64_in _ (by omega)
                go_wp2_with fail
                refine start_ (n := 16) (S := fun w' => Below w11.heap.size w11 w') (ds := []) #[false, false, false, false, false, false, false, false, false, false, false, false, false, false, false, false] (by kernel_rfl) rfl rfl (below_drew HQ.out) (fun hHeld => ?_)
                refine with_tabW thermionlaw02_CurveLines.tab15 thermionlaw02_CurveLines.bits15 (fun HT_ HW_ => ?_)
                generalize wr.drew = v0 at hHeld ⊢
                refine pure_ (i := 1) (N := some 76) (v := ?_) (a' := ?_) #[false, true, false, false, false, false, false, false, false, false, false, false, false, false, false, false] rfl rfl (any_of HT_.out (by kernel_rfl)) (fun _ _ _ h => h) (Or.inl ⟨by rfl, ?_⟩) ?_ ?_
                rotate_left
                · intro w'
                  go_simp
                  with_reducible rfl
                rotate_left
                · simp only [Act.put, List.setIfInBounds_toArray, List.set_cons_zero, List.set_cons_succ, i64_w, i32_w]
                  rfl
                refine pure_ (i := 2) (N := some 77) (v := ?_) (a' := ?_) #[false, true, true, false, false, false, false, false, false, false, false, false, false, false, false, false] rfl rfl (any_of HT_.out (by kernel_rfl)) (fun _ _ _ h => h) (Or.inl ⟨by rfl, ?_⟩) ?_ ?_
                rotate_left
                · intro w'
                  go_simp
                  with_reducible rfl
                rotate_left
                · simp only [Act.put, List.setIfInBounds_toArray, List.set_cons_zero, List.set_cons_succ, i64_w, i32_w]
                  rfl
                refine pure_ (i := 3) (N := some 78) (v := ?_) (a' := ?_) #[false, true, true, true, false, false, false, false, false, false, false, false, false, false, false, false] rfl rfl (any_of HT_.out (by kernel_rfl)) (fun _ _ _ h => h) (Or.inl ⟨by rfl, ?_⟩) ?_ ?_
                rotate_left
                · intro w'
                  go_simp
                  with_reducible rfl
                rotate_left
                · simp only [Act.put, List.setIfInBounds_toArray, List.set_cons_zero, List.set_cons_succ, i64_w, i32_w]
                  rfl
                refine pure_ (i := 5) (N := some 80) (v := ?_) (a' := ?_) #[false, true, true, true, false, true, false, false, false, false, false, false, false, false, false, false] rfl rfl (any_of HT_.out (by kernel_rfl)) (fun _ _ _ h => h) (Or.inl ⟨by rfl, ?_⟩) ?_ ?_
                rotate_left
                · intro w'
                  go_simp
                  with_reducible rfl
                rotate_left
                · simp only [Act.put, List.setIfInBounds_toArray, List.set_cons_zero, List.set_cons_succ, i64_w, i32_w]
                  rfl
                refine pure_ (i := 6) (N := some 81) (v := ?_) (a' := ?_) #[false, true, true, true, false, true, true, false, false, false, false, false, false, false, false, false] rfl rfl (any_of HT_.out (by kernel_rfl)) (fun _ _ _ h => h) (Or.inl ⟨by rfl, ?_⟩) ?_ ?_
                rotate_left
                · intro w'
                  go_simp
                  with_reducible rfl
                rotate_left
                · simp only [Act.put, List.setIfInBounds_toArray, List.set_cons_zero, List.set_cons_succ, i64_w, i32_w]
                  rfl
                refine pure_ (i := 7) (N := some 82) (v := ?_) (a' := ?_) #[false, true, true, true, false, true, true, true, false, false, false, false, false, false, false, false] rfl rfl (any_of HT_.out (by kernel_rfl)) (fun _ _ _ h => h) (Or.inl ⟨by rfl, ?_⟩) ?_ ?_
                rotate_left
                · intro w'
                  go_simp
                  with_reducible rfl
                rotate_left
                · simp only [Act.put, List.setIfInBounds_toArray, List.set_cons_zero, List.set_cons_succ, i64_w, i32_w]
                  rfl
                refine take_ (i := 0) (N := some 75) (v := ?_) (a' := ?_) #[true, true, true, true, false, true, true, true, false, false, false, false, false, false, false, false] rfl rfl (take_ofW HT_.out HW_.out (by kernel_rfl)) (fun _ _ _ h => h) (Or.inl ⟨by rfl, ?_⟩) hHeld ?_ ?_
                rotate_left
                · intro w' hS_
                  have sx0 := pw_cell_below hS_ lx0
                  have sx1 := pw_cell_below hS_ lx1
                  have sx2 := pw_cell_below hS_ lx2
                  have sx3 := pw_cell_below hS_ lx3
                  have sx4 := pw_cell_below hS_ lx4
                  have sx5 := pw_cell_below hS_ lx5
                  have sx6 := pw_cell_below hS_ lx6
                  have sx7 := pw_cell_below hS_ lx7
                  have sx8 := pw_cell_below hS_ lx8
                  have sx9 := pw_cell_below hS_ lx9
                  go_simp
                  with_reducible rfl
                rotate_left
                · simp only [Act.put, List.setIfInBounds_toArray, List.set_cons_zero, List.set_cons_succ, i64_w, i32_w]
                  rfl
                refine take_ (i := 4) (N := some 79) (v := ?_) (a' := ?_) #[true, true, true, true, true, true, true, true, false, false, false, false, false, false, false, false] rfl rfl (take_ofW HT_.out HW_.out (by kernel_rfl)) (fun _ _ _ h => h) (Or.inl ⟨by rfl, ?_⟩) hHeld ?_ ?_
                rotate_left
                · intro w' hS_
                  have sx0 := pw_cell_below hS_ hcg
                  go_simp
                  with_reducible rfl
                rotate_left
                · simp only [Act.put, List.setIfInBounds_toArray, List.set_cons_zero, List.set_cons_succ, i64_w, i32_w]
                  rfl
                refine take_ (i := 8) (N := some 83) (v := ?_) (a' := ?_) #[true, true, true, true, true, true, true, true, true, false, false, false, false, false, false, false] rfl rfl (take_ofW HT_.out HW_.out (by kernel_rfl)) (fun _ _ _ h => h) (Or.inl ⟨by rfl, ?_⟩) hHeld ?_ ?_
                rotate_left
                · intro w' hS_
                  have sx0 := pw_cell_below hS_ hcp
                  go_simp
                  with_reducible rfl
                rotate_left
                · simp only [Act.put, List.setIfInBounds_toArray, List.set_cons_zero, List.set_cons_succ, i64_w, i32_w]
                  rfl
                refine join_ (σ := Nat) 2 #[true, true, true, true, true, true, true, true, true, true, true, true, true, true, false, false] (fun s_ => [(84, .tuple #[.agg #[.int .i64 c1, .int .i64 c2], .int .i64 0]), (74, .tuple #[.agg #[.int .i64 c1, .int .i64 c2], .int .i64 0]), (85, .agg #[.int .i64 c1, .int .i64 c2]), (86, .int .i64 0), (14, .pointer (some ⟨s_, 0, none⟩))]) (fun s_ w' => Below w11.heap.size w11 w' ∧ w'.heap[s_]? = some (.cells #[.int .i64 0, .int .i64 0] 35 (0, 0)) ∧ w11.heap.size ≤ s_) ?_ ?_
                rotate_left
                · intro hJ
                  refine two_ (i := 9) (j := 13) (Ni := some 84) (Nj := some 14) #[true, true, true, true, true, true, true, true, true, true, false, false, false, false, false, false] #[true, true, true, true, true, true, true, true, true, false, false, false, false, true, false, false] rfl rfl rfl rfl (two_of HT_.out (by kernel_rfl)) (by decide) (by decide) (fun K hK_ => ?_) (fun K hK_ => ?_)
                  · skip
                    refine goes_ Try.func27 (by kernel_rfl) rfl #[.agg #[.int .i64 p0, .int .i64 p1, .int .i64 g0, .int .i64 g1, .int .i64 s0, .int .i64 s1, .int .i64 f0, .int .i64 f1, .int .i64 q0, .int .i64 q1], .int .i64 gv, .int .i64 pv] (by rfl) rfl rfl (by (try simp only [List.map_toArray, List.map_cons, List.map_nil]); first | done | rfl) ?_
                    refine (HCu.out _ hHeld kq gv pv c1 c2 0 EC.out).mono ?_
                    rintro e v1 ⟨rfl, hb⟩
                    refine ⟨_, rfl, ?_⟩
                    have Sv1 := below_then hHeld hHeld.size hb
                    refine hK_.out _ _ Sv1 (fun _ => ?_)
                    clear hK_ K
                    refine norm_ (a' := ?_) ?_ ?_
                    rotate_left
                    · show Act.put _ (some 84) _ = _
                      simp only [Act.put, List.setIfInBounds_toArray, List.set_cons_zero, List.set_cons_succ, i64_w, i32_w]
                      rfl
                    refine pure_ (i := 10) (N := some 74) (v := ?_) (a' := ?_) #[true, true, true, true, true, true, true, true, true, true, true, false, false, false, false, false] rfl rfl (any_of HT_.out (by kernel_rfl)) (fun _ _ _ h => h) (Or.inl ⟨by rfl, ?_⟩) ?_ ?_
                    rotate_left
                    · intro w'
                      go_simp
                      with_reducible rfl
                    rotate_left
                    · simp only [Act.put, List.setIfInBounds_toArray, List.set_cons_zero, List.set_cons_succ, i64_w, i32_w]
                      rfl
                    refine pure_ (i := 11) (N := some 85) (v := ?_) (a' := ?_) #[true, true, true, true, true, true, true, true, true, true, true, true, false, false, false, false] rfl rfl (any_of HT_.out (by kernel_rfl)) (fun _ _ _ h => h) (Or.inl ⟨by rfl, ?_⟩) ?_ ?_
                    rotate_left
                    · intro w'
                      go_simp
                      with_reducible rfl
                    rotate_left
                    · simp only [Act.put, List.setIfInBounds_toArray, List.set_cons_zero, List.set_cons_succ, i64_w, i32_w]
                      rfl
                    refine pure_ (i := 12) (N := some 86) (v := ?_) (a' := ?_) #[true, true, true, true, true, true, true, true, true, true, true, true, true, false, false, false] rfl rfl (any_of HT_.out (by kernel_rfl)) (fun _ _ _ h => h) (Or.inl ⟨by rfl, ?_⟩) ?_ ?_
                    rotate_left
                    · intro w'
                      go_simp
                      with_reducible rfl
                    rotate_left
                    · simp only [Act.put, List.setIfInBounds_toArray, List.set_cons_zero, List.set_cons_succ, i64_w, i32_w]
                      rfl
                    refine one_ (i := 13) (N := some 14) #[true, true, true, true, true, true, true, true, true, true, true, true, true, true, false, false] rfl rfl (one_of HT_.out (by kernel_rfl)) (by decide) (fun K hK_ => ?_)
                    refine box_step ?hg (N := 14) ?hd (cs := #[.int .i64 0, .int .i64 0]) (t := 35) ?hr ?_; (case hd => rfl); (case hg => rfl); (case hr => first | (go_simp; done) | (go_simp; rfl))
                    intro bb hg v2 Xv2 hb
                    have gl : w11.heap.size ≤ bb := by have := Sv1.size; omega
                    have Sv2 := below_then Sv1 Sv1.size hb
                    refine hK_.out _ _ Sv2 (fun _ => ?_)
                    clear hK_ K
                    refine norm_ (a' := ?_) ?_ ?_
                    rotate_left
                    · show Act.put _ (some 14) _ = _
                      simp only [Act.put, List.setIfInBounds_toArray, List.set_cons_zero, List.set_cons_succ, i64_w, i32_w]
                      rfl
                    exact norm_ (by first | (simp only [putAll, Act.put, List.setIfInBounds_toArray, List.set_cons_zero, List.set_cons_succ]; done) | (simp only [putAll, Act.put, List.setIfInBounds_toArray, List.set_cons_zero, List.set_cons_succ]; rfl)) (hJ bb _ ⟨Sv2, Xv2, gl⟩)
                  · skip
                    refine box_step ?hg (N := 14) ?hd (cs := #[.int .i64 0, .int .i64 0]) (t := 35) ?hr ?_; (case hd => rfl); (case hg => rfl); (case hr => first | (go_simp; done) | (go_simp; rfl))
                    intro bb hg v1 Xv1 hb
                    have gl : w11.heap.size ≤ bb := by have := hHeld.size; omega
                    have Sv1 := below_then hHeld hHeld.size hb
                    refine hK_.out _ _ Sv1 (fun _ => ?_)
                    clear hK_ K
                    refine norm_ (a' := ?_) ?_ ?_
                    rotate_left
                    · show Act.put _ (some 14) _ = _
                      simp only [Act.put, List.setIfInBounds_toArray, List.set_cons_zero, List.set_cons_succ, i64_w, i32_w]
                      rfl
                    refine one_ (i := 9) (N := some 84) #[true, true, true, true, true, true, true, true, true, true, false, false, false, true, false, false] rfl rfl (one_of HT_.out (by kernel_rfl)) (by decide) (fun K hK_ => ?_)
                    refine goes_ Try.func27 (by kernel_rfl) rfl #[.agg #[.int .i64 p0, .int .i64 p1, .int .i64 g0, .int .i64 g1, .int .i64 s0, .int .i64 s1, .int .i64 f0, .int .i64 f1, .int .i64 q0, .int .i64 q1], .int .i64 gv, .int .i64 pv] (by rfl) rfl rfl (by (try simp only [List.map_toArray, List.map_cons, List.map_nil]); first | done | rfl) ?_
                    refine (HCu.out _ Sv1 kq gv pv c1 c2 0 EC.out).mono ?_
                    rintro e v2 ⟨rfl, hb⟩
                    refine ⟨_, rfl, ?_⟩
                    have Sv2 := below_then Sv1 Sv1.size hb
                    have Xv2 := blk_below Xv1 hb
                    refine hK_.out _ _ Sv2 (fun _ => ?_)
                    clear hK_ K
                    refine norm_ (a' := ?_) ?_ ?_
                    rotate_left
                    · show Act.put _ (some 84) _ = _
                      simp only [Act.put, List.setIfInBounds_toArray, List.set_cons_zero, List.set_cons_succ, i64_w, i32_w]
                      rfl
                    refine pure_ (i := 10) (N := some 74) (v := ?_) (a' := ?_) #[true, true, true, true, true, true, true, true, true, true, true, false, false, true, false, false] rfl rfl (any_of HT_.out (by kernel_rfl)) (fun _ _ _ h => h) (Or.inl ⟨by rfl, ?_⟩) ?_ ?_
                    rotate_left
                    · intro w'
                      go_simp
                      with_reducible rfl
                    rotate_left
                    · simp only [Act.put, List.setIfInBounds_toArray, List.set_cons_zero, List.set_cons_succ, i64_w, i32_w]
                      rfl
                    refine pure_ (i := 11) (N := some 85) (v := ?_) (a' := ?_) #[true, true, true, true, true, true, true, true, true, true, true, true, false, true, false, false] rfl rfl (any_of HT_.out (by kernel_rfl)) (fun _ _ _ h => h) (Or.inl ⟨by rfl, ?_⟩) ?_ ?_
                    rotate_left
                    · intro w'
                      go_simp
                      with_reducible rfl
                    rotate_left
                    · simp only [Act.put, List.setIfInBounds_toArray, List.set_cons_zero, List.set_cons_succ, i64_w, i32_w]
                      rfl
                    refine pure_ (i := 12) (N := some 86) (v := ?_) (a' := ?_) #[true, true, true, true, true, true, true, true, true, true, true, true, true, true, false, false] rfl rfl (any_of HT_.out (by kernel_rfl)) (fun _ _ _ h => h) (Or.inl ⟨by rfl, ?_⟩) ?_ ?_
                    rotate_left
                    · intro w'
                      go_simp
                      with_reducible rfl
                    rotate_left
                    · simp only [Act.put, List.setIfInBounds_toArray, List.set_cons_zero, List.set_cons_succ, i64_w, i32_w]
                      rfl
                    exact norm_ (by first | (simp only [putAll, Act.put, List.setIfInBounds_toArray, List.set_cons_zero, List.set_cons_succ]; done) | (simp only [putAll, Act.put, List.setIfInBounds_toArray, List.set_cons_zero, List.set_cons_succ]; rfl)) (hJ bb _ ⟨Sv2, Xv2, gl⟩)
                · skip
                  rintro bb v4 ⟨S4, X4, gl⟩
                  replace X4 : v4.heap[bb]? = some (.cells #[.int .i64 0, .int .i64 0] 35 (0, 0)) := X4
                  replace gl : w11.heap.size ≤ bb := gl
                  refine norm_ (a' := ?_) ?_ ?_
                  rotate_left
                  · simp only [putAll, Act.put, List.setIfInBounds_toArray, List.set_cons_zero, List.set_cons_succ]
                    rfl
                  have y0 : v4.cell? ⟨bb, 0, none⟩ = some (.int .i64 0) := (blk_cell X4 0).trans rfl
                  have z0 := blk_frozen X4 0
                  have y1 : v4.cell? ⟨bb, 1, none⟩ = some (.int .i64 0) := (blk_cell X4 1).trans rfl
                  have z1 := blk_frozen X4 1
                  refine one_ (i := 14) (N := none) #[true, true, true, true, true, true, true, true, true, true, true, true, true, true, true, false] rfl rfl (one_of HT_.out (by kernel_rfl)) (by decide) (fun K hK_ => ?_)
                  refine skip_ (w1 := ?_) (by rfl) rfl ?_ ?_
                  rotate_left
                  · go_simp
                    rfl
                  refine hK_.out _ _ (below_set (below_set S4 gl) gl) (fun _ => ?_)
                  clear hK_ K
                  refine pure_ (i := 15) (N := some 15) (v := ?_) (a' := ?_) #[true, true, true, true, true, true, true, true, true, true, true, true, true, true, true, true] rfl rfl (any_of HT_.out (by kernel_rfl)) (fun _ _ _ h => h) (Or.inl ⟨by rfl, ?_⟩) ?_ ?_
                  rotate_left
                  · intro w'
                    go_simp
                    with_reducible rfl
                  rotate_left
                  · simp only [Act.put, List.setIfInBounds_toArray, List.set_cons_zero, List.set_cons_succ, i64_w, i32_w]
                    rfl
                  refine done_ (done_of HT_.out (by kernel_rfl)) ?_
                  have X5 : Aside0 ((World.setCell (World.setCell v4 ⟨bb, 0, none⟩ (.int .i64 c1)) ⟨bb, 1, none⟩ (.int .i64 c2)).heap[bb]? = some (.cells #[.int .i64 c1, .int .i64 c2] 35 (0, 0))) := ⟨by refine blk_put (cs := #[.int .i64 c1, .int .i64 0]) ?_ 1 _ rfl; refine blk_put (cs := #[.int .i64 0, .int .i64 0]) ?_ 0 _ rfl; exact X4⟩
                  have D5 : Aside0 (Below w11.heap.size w11 (World.setCell (World.setCell v4 ⟨bb, 0, none⟩ (.int .i64 c1)) ⟨bb, 1, none⟩ (.int .i64 c2))) := ⟨below_set (below_set S4 gl) gl⟩
                  clear y0 y1 z0 z1 S4 X4 HT_ HW_ hHeld
                  generalize (World.setCell (World.setCell v4 ⟨bb, 0, none⟩ (.int .i64 c1)) ⟨bb, 1, none⟩ (.int .i64 c2)) = wa at X5 D5 ⊢
                  have Xb14 := X5
                  have Db14 := D5
                  clear X5 D5
                  try clear gl
                  generalize bb = b14 at Xb14 ⊢
                  go_wp2_with fail
                  have hcga := pw_cell_below Db14.out hcg
                  have hcpa := pw_cell_below Db14.out hcp
                  have fy0 := pw_cell_below Db14.out fx0
                  have fy1 := pw_cell_below Db14.out fx1
                  have fy2 := pw_cell_below Db14.out fx2
                  have fy3 := pw_cell_below Db14.out fx3
                  refine start_ (n := 16) (S := fun w' => Below wa.heap.size wa w') (ds := []) #[false, false, false, false, false, false, false, false, false, false, false, false, false, false, false, false] (by kernel_rfl) rfl rfl (below_drew1 (Below.refl _ _)) (fun hHeld => ?_)
                  refine with_tabW thermionlaw02_CurveLines.tab16 thermionlaw02_CurveLines.bits16 (fun HT_ HW_ => ?_)
                  generalize wa.drew = v0 at hHeld ⊢
                  refine pure_ (i := 1) (N := some 89) (v := ?_) (a' := ?_) #[false, true, false, false, false, false, false, false, false, false, false, false, false, false, false, false] rfl rfl (any_of HT_.out (by kernel_rfl)) (fun _ _ _ h => h) (Or.inl ⟨by rfl, ?_⟩) ?_ ?_
                  rotate_left
                  · intro w'
                    go_simp
                    with_reducible rfl
                  rotate_left
                  · simp only [Act.put, List.setIfInBounds_toArray, List.set_cons_zero, List.set_cons_succ, i64_w, i32_w]
                    rfl
                  refine pure_ (i := 2) (N := some 90) (v := ?_) (a' := ?_) #[false, true, true, false, false, false, false, false, false, false, false, false, false, false, false, false] rfl rfl (any_of HT_.out (by kernel_rfl)) (fun _ _ _ h => h) (Or.inl ⟨by rfl, ?_⟩) ?_ ?_
                  rotate_left
                  · intro w'
                    go_simp
                    with_reducible rfl
                  rotate_left
                  · simp only [Act.put, List.setIfInBounds_toArray, List.set_cons_zero, List.set_cons_succ, i64_w, i32_w]
                    rfl
                  refine pure_ (i := 3) (N := some 91) (v := ?_) (a' := ?_) #[false, true, true, true, false, false, false, false, false, false, false, false, false, false, false, false] rfl rfl (any_of HT_.out (by kernel_rfl)) (fun _ _ _ h => h) (Or.inl ⟨by rfl, ?_⟩) ?_ ?_
                  rotate_left
                  · intro w'
                    go_simp
                    with_reducible rfl
                  rotate_left
                  · simp only [Act.put, List.setIfInBounds_toArray, List.set_cons_zero, List.set_cons_succ, i64_w, i32_w]
                    rfl
                  refine pure_ (i := 5) (N := some 93) (v := ?_) (a' := ?_) #[false, true, true, true, false, true, false, false, false, false, false, false, false, false, false, false] rfl rfl (any_of HT_.out (by kernel_rfl)) (fun _ _ _ h => h) (Or.inl ⟨by rfl, ?_⟩) ?_ ?_
                  rotate_left
                  · intro w'
                    go_simp
                    with_reducible rfl
                  rotate_left
                  · simp only [Act.put, List.setIfInBounds_toArray, List.set_cons_zero, List.set_cons_succ, i64_w, i32_w]
                    rfl
                  refine pure_ (i := 6) (N := some 94) (v := ?_) (a' := ?_) #[false, true, true, true, false, true, true, false, false, false, false, false, false, false, false, false] rfl rfl (any_of HT_.out (by kernel_rfl)) (fun _ _ _ h => h) (Or.inl ⟨by rfl, ?_⟩) ?_ ?_
                  rotate_left
                  · intro w'
                    go_simp
                    with_reducible rfl
                  rotate_left
                  · simp only [Act.put, List.setIfInBounds_toArray, List.set_cons_zero, List.set_cons_succ, i64_w, i32_w]
                    rfl
                  refine pure_ (i := 7) (N := some 95) (v := ?_) (a' := ?_) #[false, true, true, true, false, true, true, true, false, false, false, false, false, false, false, false] rfl rfl (any_of HT_.out (by kernel_rfl)) (fun _ _ _ h => h) (Or.inl ⟨by rfl, ?_⟩) ?_ ?_
                  rotate_left
                  · intro w'
                    go_simp
                    with_reducible rfl
                  rotate_left
                  · simp only [Act.put, List.setIfInBounds_toArray, List.set_cons_zero, List.set_cons_succ, i64_w, i32_w]
                    rfl
                  refine take_ (i := 0) (N := some 88) (v := ?_) (a' := ?_) #[true, true, true, true, false, true, true, true, false, false, false, false, false, false, false, false] rfl rfl (take_ofW HT_.out HW_.out (by kernel_rfl)) (fun _ _ _ h => h) (Or.inl ⟨by rfl, ?_⟩) hHeld ?_ ?_
                  rotate_left
                  · intro w' hS_
                    have sx0 := pw_cell_below hS_ fy0
                    have sx1 := pw_cell_below hS_ fy1
                    have sx2 := pw_cell_below hS_ fy2
                    have sx3 := pw_cell_below hS_ fy3
                    go_simp
                    with_reducible rfl
                  rotate_left
                  · simp only [Act.put, List.setIfInBounds_toArray, List.set_cons_zero, List.set_cons_succ, i64_w, i32_w]
                    rfl
                  refine take_ (i := 4) (N := some 92) (v := ?_) (a' := ?_) #[true, true, true, true, true, true, true, true, false, false, false, false, false, false, false, false] rfl rfl (take_ofW HT_.out HW_.out (by kernel_rfl)) (fun _ _ _ h => h) (Or.inl ⟨by rfl, ?_⟩) hHeld ?_ ?_
                  rotate_left
                  · intro w' hS_
                    have sx0 := pw_cell_below hS_ hcga
                    go_simp
                    with_reducible rfl
                  rotate_left
                  · simp only [Act.put, List.setIfInBounds_toArray, List.set_cons_zero, List.set_cons_succ, i64_w, i32_w]
                    rfl
                  refine take_ (i := 8) (N := some 96) (v := ?_) (a' := ?_) #[true, true, true, true, true, true, true, true, true, false, false, false, false, false, false, false] rfl rfl (take_ofW HT_.out HW_.out (by kernel_rfl)) (fun _ _ _ h => h) (Or.inl ⟨by rfl, ?_⟩) hHeld ?_ ?_
                  rotate_left
                  · intro w' hS_
                    have sx0 := pw_cell_below hS_ hcpa
                    go_simp
                    with_reducible rfl
                  rotate_left
                  · simp only [Act.put, List.setIfInBounds_toArray, List.set_cons_zero, List.set_cons_succ, i64_w, i32_w]
                    rfl
                  refine join_ (σ := Nat) 2 #[true, true, true, true, true, true, true, true, true, true, true, true, true, true, false, false] (fun s_ => [(97, .tuple #[.agg #[.int .i64 c1, .int .i64 c2], .int .i64 0]), (87, .tuple #[.agg #[.int .i64 c1, .int .i64 c2], .int .i64 0]), (98, .agg #[.int .i64 c1, .int .i64 c2]), (99, .int .i64 0), (16, .pointer (some ⟨s_, 0, none⟩))]) (fun s_ w' => Below wa.heap.size wa w' ∧ w'.heap[s_]? = some (.cells #[.int .i64 0, .int .i64 0] 35 (0, 0)) ∧ wa.heap.size ≤ s_) ?_ ?_
                  rotate_left
                  · intro hJ
                    refine two_ (i := 9) (j := 13) (Ni := some 97) (Nj := some 16) #[true, true, true, true, true, true, true, true, true, true, false, false, false, false, false, false] #[true, true, true, true, true, true, true, true, true, false, false, false, false, true, false, false] rfl rfl rfl rfl (two_of HT_.out (by kernel_rfl)) (by decide) (by decide) (fun K hK_ => ?_) (fun K hK_ => ?_)
                    · skip
                      refine goes_ Try.func22 (by kernel_rfl) rfl #[.agg #[.slice AF0 F0.length cF0, .slice AF1 F1.length cF1, .slice AF2 F2.length cF2, .slice AF3 F3.length cF3], .int .i64 gv, .int .i64 pv] (by rfl) rfl rfl (by (try simp only [List.map_toArray, List.map_cons, List.map_nil]); first | done | rfl) ?_
                      refine (HAt.out _ (below_then Db14.out Db14.out.size hHeld) kq gv pv c1 c2 0 EA.out).mono ?_
                      rintro e v1 ⟨rfl, hb⟩
                      refine ⟨_, rfl, ?_⟩
                      have Sv1 := below_then hHeld hHeld.size hb
                      refine hK_.out _ _ Sv1 (fun _ => ?_)
                      clear hK_ K
                      refine norm_ (a' := ?_) ?_ ?_
                      rotate_left
                      · show Act.put _ (some 97) _ = _
                        simp only [Act.put, List.setIfInBounds_toArray, List.set_cons_zero, List.set_cons_succ, i64_w, i32_w]
                        rfl
                      refine pure_ (i := 10) (N := some 87) (v := ?_) (a' := ?_) #[true, true, true, true, true, true, true, true, true, true, true, false, false, false, false, false] rfl rfl (any_of HT_.out (by kernel_rfl)) (fun _ _ _ h => h) (Or.inl ⟨by rfl, ?_⟩) ?_ ?_
                      rotate_left
                      · intro w'
                        go_simp
                        with_reducible rfl
                      rotate_left
                      · simp only [Act.put, List.setIfInBounds_toArray, List.set_cons_zero, List.set_cons_succ, i64_w, i32_w]
                        rfl
                      refine pure_ (i := 11) (N := some 98) (v := ?_) (a' := ?_) #[true, true, true, true, true, true, true, true, true, true, true, true, false, false, false, false] rfl rfl (any_of HT_.out (by kernel_rfl)) (fun _ _ _ h => h) (Or.inl ⟨by rfl, ?_⟩) ?_ ?_
                      rotate_left
                      · intro w'
                        go_simp
                        with_reducible rfl
                      rotate_left
                      · simp only [Act.put, List.setIfInBounds_toArray, List.set_cons_zero, List.set_cons_succ, i64_w, i32_w]
                        rfl
                      refine pure_ (i := 12) (N := some 99) (v := ?_) (a' := ?_) #[true, true, true, true, true, true, true, true, true, true, true, true, true, false, false, false] rfl rfl (any_of HT_.out (by kernel_rfl)) (fun _ _ _ h => h) (Or.inl ⟨by rfl, ?_⟩) ?_ ?_
                      rotate_left
                      · intro w'
                        go_simp
                        with_reducible rfl
                      rotate_left
                      · simp only [Act.put, List.setIfInBounds_toArray, List.set_cons_zero, List.set_cons_succ, i64_w, i32_w]
                        rfl
                      refine one_ (i := 13) (N := some 16) #[true, true, true, true, true, true, true, true, true, true, true, true, true, true, false, false] rfl rfl (one_of HT_.out (by kernel_rfl)) (by decide) (fun K hK_ => ?_)
                      refine box_step ?hg (N := 16) ?hd (cs := #[.int .i64 0, .int .i64 0]) (t := 35) ?hr ?_; (case hd => rfl); (case hg => rfl); (case hr => first | (go_simp; done) | (go_simp; rfl))
                      intro bb hg v2 Xv2 hb
                      have gl : wa.heap.size ≤ bb := by have := Sv1.size; omega
                      have Sv2 := below_then Sv1 Sv1.size hb
                      refine hK_.out _ _ Sv2 (fun _ => ?_)
                      clear hK_ K
                      refine norm_ (a' := ?_) ?_ ?_
                      rotate_left
                      · show Act.put _ (some 16) _ = _
                        simp only [Act.put, List.setIfInBounds_toArray, List.set_cons_zero, List.set_cons_succ, i64_w, i32_w]
                        rfl
                      exact norm_ (by first | (simp only [putAll, Act.put, List.setIfInBounds_toArray, List.set_cons_zero, List.set_cons_succ]; done) | (simp only [putAll, Act.put, List.setIfInBounds_toArray, List.set_cons_zero, List.set_cons_succ]; rfl)) (hJ bb _ ⟨Sv2, Xv2, gl⟩)
                    · skip
                      refine box_step ?hg (N := 16) ?hd (cs := #[.int .i64 0, .int .i64 0]) (t := 35) ?hr ?_; (case hd => rfl); (case hg => rfl); (case hr => first | (go_simp; done) | (go_simp; rfl))
                      intro bb hg v1 Xv1 hb
                      have gl : wa.heap.size ≤ bb := by have := hHeld.size; omega
                      have Sv1 := below_then hHeld hHeld.size hb
                      refine hK_.out _ _ Sv1 (fun _ => ?_)
                      clear hK_ K
                      refine norm_ (a' := ?_) ?_ ?_
                      rotate_left
                      · show Act.put _ (some 16) _ = _
                        simp only [Act.put, List.setIfInBounds_toArray, List.set_cons_zero, List.set_cons_succ, i64_w, i32_w]
                        rfl
                      refine one_ (i := 9) (N := some 97) #[true, true, true, true, true, true, true, true, true, true, false, false, false, true, false, false] rfl rfl (one_of HT_.out (by kernel_rfl)) (by decide) (fun K hK_ => ?_)
                      refine goes_ Try.func22 (by kernel_rfl) rfl #[.agg #[.slice AF0 F0.length cF0, .slice AF1 F1.length cF1, .slice AF2 F2.length cF2, .slice AF3 F3.length cF3], .int .i64 gv, .int .i64 pv] (by rfl) rfl rfl (by (try simp only [List.map_toArray, List.map_cons, List.map_nil]); first | done | rfl) ?_
                      refine (HAt.out _ (below_then Db14.out Db14.out.size Sv1) kq gv pv c1 c2 0 EA.out).mono ?_
                      rintro e v2 ⟨rfl, hb⟩
                      refine ⟨_, rfl, ?_⟩
                      have Sv2 := below_then Sv1 Sv1.size hb
                      have Xv2 := blk_below Xv1 hb
                      refine hK_.out _ _ Sv2 (fun _ => ?_)
                      clear hK_ K
                      refine norm_ (a' := ?_) ?_ ?_
                      rotate_left
                      · show Act.put _ (some 97) _ = _
                        simp only [Act.put, List.setIfInBounds_toArray, List.set_cons_zero, List.set_cons_succ, i64_w, i32_w]
                        rfl
                      refine pure_ (i := 10) (N := some 87) (v := ?_) (a' := ?_) #[true, true, true, true, true, true, true, true, true, true, true, false, false, true, false, false] rfl rfl (any_of HT_.out (by kernel_rfl)) (fun _ _ _ h => h) (Or.inl ⟨by rfl, ?_⟩) ?_ ?_
                      rotate_left
                      · intro w'
                        go_simp
                        with_reducible rfl
                      rotate_left
                      · simp only [Act.put, List.setIfInBounds_toArray, List.set_cons_zero, List.set_cons_succ, i64_w, i32_w]
                        rfl
                      refine pure_ (i := 11) (N := some 98) (v := ?_) (a' := ?_) #[true, true, true, true, true, true, true, true, true, true, true, true, false, true, false, false] rfl rfl (any_of HT_.out (by kernel_rfl)) (fun _ _ _ h => h) (Or.inl ⟨by rfl, ?_⟩) ?_ ?_
                      rotate_left
                      · intro w'
                        go_simp
                        with_reducible rfl
                      rotate_left
                      · simp only [Act.put, List.setIfInBounds_toArray, List.set_cons_zero, List.set_cons_succ, i64_w, i32_w]
                        rfl
                      refine pure_ (i := 12) (N := some 99) (v := ?_) (a' := ?_) #[true, true, true, true, true, true, true, true, true, true, true, true, true, true, false, false] rfl rfl (any_of HT_.out (by kernel_rfl)) (fun _ _ _ h => h) (Or.inl ⟨by rfl, ?_⟩) ?_ ?_
                      rotate_left
                      · intro w'
                        go_simp
                        with_reducible rfl
                      rotate_left
                      · simp only [Act.put, List.setIfInBounds_toArray, List.set_cons_zero, List.set_cons_succ, i64_w, i32_w]
                        rfl
                      exact norm_ (by first | (simp only [putAll, Act.put, List.setIfInBounds_toArray, List.set_cons_zero, List.set_cons_succ]; done) | (simp only [putAll, Act.put, List.setIfInBounds_toArray, List.set_cons_zero, List.set_cons_succ]; rfl)) (hJ bb _ ⟨Sv2, Xv2, gl⟩)
                  · skip
                    rintro bb v4 ⟨S4, X4, gl⟩
                    replace X4 : v4.heap[bb]? = some (.cells #[.int .i64 0, .int .i64 0] 35 (0, 0)) := X4
                    replace gl : wa.heap.size ≤ bb := gl
                    refine norm_ (a' := ?_) ?_ ?_
                    rotate_left
                    · simp only [putAll, Act.put, List.setIfInBounds_toArray, List.set_cons_zero, List.set_cons_succ]
                      rfl
                    have y0 : v4.cell? ⟨bb, 0, none⟩ = some (.int .i64 0) := (blk_cell X4 0).trans rfl
                    have z0 := blk_frozen X4 0
                    have y1 : v4.cell? ⟨bb, 1, none⟩ = some (.int .i64 0) := (blk_cell X4 1).trans rfl
                    have z1 := blk_frozen X4 1
                    refine one_ (i := 14) (N := none) #[true, true, true, true, true, true, true, true, true, true, true, true, true, true, true, false] rfl rfl (one_of HT_.out (by kernel_rfl)) (by decide) (fun K hK_ => ?_)
                    refine skip_ (w1 := ?_) (by rfl) rfl ?_ ?_
                    rotate_left
                    · go_simp
                      rfl
                    refine hK_.out _ _ (below_set (below_set S4 gl) gl) (fun _ => ?_)
                    clear hK_ K
                    refine pure_ (i := 15) (N := some 17) (v := ?_) (a' := ?_) #[true, true, true, true, true, true, true, true, true, true, true, true, true, true, true, true] rfl rfl (any_of HT_.out (by kernel_rfl)) (fun _ _ _ h => h) (Or.inl ⟨by rfl, ?_⟩) ?_ ?_
                    rotate_left
                    · intro w'
                      go_simp
                      with_reducible rfl
                    rotate_left
                    · simp only [Act.put, List.setIfInBounds_toArray, List.set_cons_zero, List.set_cons_succ, i64_w, i32_w]
                      rfl
                    refine done_ (done_of HT_.out (by kernel_rfl)) ?_
                    have X5 : Aside0 ((World.setCell (World.setCell v4 ⟨bb, 0, none⟩ (.int .i64 c1)) ⟨bb, 1, none⟩ (.int .i64 c2)).heap[bb]? = some (.cells #[.int .i64 c1, .int .i64 c2] 35 (0, 0))) := ⟨by refine blk_put (cs := #[.int .i64 c1, .int .i64 0]) ?_ 1 _ rfl; refine blk_put (cs := #[.int .i64 0, .int .i64 0]) ?_ 0 _ rfl; exact X4⟩
                    have D5 : Aside0 (Below wa.heap.size wa (World.setCell (World.setCell v4 ⟨bb, 0, none⟩ (.int .i64 c1)) ⟨bb, 1, none⟩ (.int .i64 c2))) := ⟨below_set (below_set S4 gl) gl⟩
                    clear y0 y1 z0 z1 S4 X4 HT_ HW_ hHeld
                    generalize (World.setCell (World.setCell v4 ⟨bb, 0, none⟩ (.int .i64 c1)) ⟨bb, 1, none⟩ (.int .i64 c2)) = wb at X5 D5 ⊢
                    have Xb16 := X5
                    have Db16 := D5
                    clear X5 D5
                    try clear gl
                    generalize bb = b16 at Xb16 ⊢
                    have X14 := blk_below Xb14.out Db16.out
                    have q0_ : wb.cell? ⟨b14, 0, none⟩ = some (.int .i64 c1) := (blk_cell X14 0).trans rfl
                    have q1_ : wb.cell? ⟨b14, 1, none⟩ = some (.int .i64 c2) := (blk_cell X14 1).trans rfl
                    have q2_ : wb.cell? ⟨b16, 0, none⟩ = some (.int .i64 c1) := (blk_cell Xb16.out 0).trans rfl
                    have q3_ : wb.cell? ⟨b16, 1, none⟩ = some (.int .i64 c2) := (blk_cell Xb16.out 1).trans rfl
                    have HQ2 := Aside0.mk (below_then Db14.out Db14.out.size Db16.out)
                    clear X14 hcga hcpa fy0 fy1 fy2 fy3
                    go_wp2_with fail
                    go_roundw
                    case rel => exact ⟨j + 1, kq, by omega, by go_num, HA3, HQ2⟩
                    case measure => simp [intOf]; omega
              · obtain rfl : j = plate.length := by omega
                rw [if_neg (by omega), show wrap64 ((i : Int) + 1) = ((i + 1 : Nat) : Int) from by unfold wrap64; omega] at hA
                have HA4 := Aside0.mk hA
                clear hA
                go_wp2_with fail
                go_roundw
                case rel => exact ⟨i + 1, kq, by omega, by go_num, HA4, HQ⟩
                case measure => simp [intOf]; omega
        · obtain rfl : i = grid.length := by omega
          rw [if_neg (by omega)] at hA
          replace hA := Option.bind_eq_some_iff.mp hA
          obtain ⟨t, ew, hA⟩ := hA
          obtain rfl := Option.some.inj hA
          have EW := Aside0.mk ew
          clear ew hA
          go_wp2_with (first | (go_at_call 17; (refine (thermionlaw02_awake.calls kq t wr EW.out).mono ?_); rintro e w14 ⟨rfl, hb⟩; (have HB14 := Aside0.mk hb); clear hb) | fail)
          go_ret
          exact ⟨rfl, below_then (below_then HBw.out HBw.out.size HQ.out) (below_then HBw.out HBw.out.size HQ.out).size HB14.out⟩
/-- THE ONE PURE STATEMENT of thermionlaw02_CurveLines: yours. -/
def thermionlaw02_CurveLines.Pure : Prop := ∀ (l0 : List Int), l0.length ≤ maxLen → l0.length * 8 ≤ 140737488351232 → (∀ x ∈ l0, (Lit.int .i64 x).wf = true) → ∃ k, thermionlaw02_CurveLines.f k l0 = some true
theorem thermionlaw02_CurveLines.walk (P : thermionlaw02_CurveLines.Pure) (a0 : Option Addr) (len0 cap0 : Nat) (z0 : List Int) (w : World) (w0 : (a0 = none ∧ len0 = 0 ∧ cap0 = 0 ∧ z0 = []) ∨ ∃ x, a0 = some x ∧ len0 ≤ cap0 ∧ cap0 ≤ maxLen ∧ z0.length = cap0 ∧ (∀ i, i < z0.length → w.cell? (x.add i) = some (.int .i64 (z0.getD i 0))) ∧ ∀ n ∈ z0, (Lit.int .i64 n).wf = true) (y0 : len0 * 8 ≤ 140737488351232) :
    Calls Try.prog 11 #[.slice a0 len0 cap0] w fun e w' => e = .returned (.bool true) ∧ Below w.heap.size w w' := by
  obtain ⟨l0, rfl, hr0, hm0, hw0, hc0⟩ := ReadsInt.ofRowC w0
  obtain ⟨k, h⟩ := P l0 hm0 y0 hw0
  refine (thermionlaw02_CurveLines.calls k _ _ l0 true w (Kd.C_of_reads (d := (0 : Int)) (h1 := fun _ => rfl) hr0) hc0 h).mono ?_
  rintro e w' ⟨rfl, hd⟩
  exact ⟨rfl, hd⟩

end Go.Proofs.Ytbomgfbfnkfamaa.PAll
end
section
set_option linter.unusedVariables false
namespace Go.Proofs.Ytbomgfbfnkfamaa.Mp
open Go.RowKit Go.Proofs.YtbomgfbfnkfamaaW.PrintWords

theorem wrap64_id {x : Int} (h0 : -9223372036854775808 ≤ x) (h1 : x ≤ 9223372036854775807) : wrap64 x = x := by
  unfold wrap64; omega

/-- r is the root of x, rounded down. -/
def IsRoot (r x : Int) : Prop := 0 ≤ r ∧ r * r ≤ x ∧ x < (r + 1) * (r + 1)

theorem sq_lt {a b : Int} (h0 : 0 ≤ a) (h : a < b) : a * a < b * b := by
  have h1 : a * a ≤ a * b := Int.mul_le_mul_of_nonneg_left (by omega) h0
  have h2 : a * b < b * b := Int.mul_lt_mul_of_pos_right h (by omega)
  omega
theorem sq_le {a b : Int} (h0 : 0 ≤ a) (h : a ≤ b) : a * a ≤ b * b := by
  have h1 : a * a ≤ a * b := Int.mul_le_mul_of_nonneg_left h h0
  have h2 : a * b ≤ b * b := Int.mul_le_mul_of_nonneg_right h (by omega)
  omega
theorem lt_of_sq {a b : Int} (h0 : 0 ≤ b) (h : a * a < b * b) : a < b := by
  by_cases h1 : a < b
  · exact h1
  · have := sq_le h0 (Int.not_lt.1 h1); omega
theorem root_unique {r s x : Int} (hr : IsRoot r x) (hs : IsRoot s x) : r = s := by
  obtain ⟨r0, r1, r2⟩ := hr
  obtain ⟨s0, s1, s2⟩ := hs
  have a : r < s + 1 := lt_of_sq (by omega) (by omega)
  have b : s < r + 1 := lt_of_sq (by omega) (by omega)
  omega
theorem root_mono {r s x y : Int} (hr : IsRoot r x) (hs : IsRoot s y) (h : x ≤ y) : r ≤ s := by
  obtain ⟨r0, r1, r2⟩ := hr
  obtain ⟨s0, s1, s2⟩ := hs
  have a : r < s + 1 := lt_of_sq (by omega) (by omega)
  omega

/-- A step of Newton's from above. -/
theorem newton_above {x r : Int} (hr : 0 < r) (hx : 0 ≤ x) : x < ((r + x / r) / 2 + 1) * ((r + x / r) / 2 + 1) := by
  have hq : x < (x / r + 1) * r := Int.lt_ediv_add_one_mul_self x hr
  generalize x / r = q at *
  have hn : r + q ≤ 2 * ((r + q) / 2) + 1 := by omega
  generalize (r + q) / 2 = n at *
  have h1 : (q + 1) * r ≤ (2 * n + 2 - r) * r := Int.mul_le_mul_of_nonneg_right (by omega) (by omega)
  have h2 : 0 ≤ (n + 1 - r) * (n + 1 - r) := by
    rcases Int.le_total 0 (n + 1 - r) with h | h
    · exact Int.mul_nonneg h h
    · exact Int.mul_nonneg_of_nonpos_of_nonpos h h
  have h3 : (n + 1) * (n + 1) - (2 * n + 2 - r) * r = (n + 1 - r) * (n + 1 - r) := by grind
  omega
theorem newton_ends {x r : Int} (hr : 0 < r) (h : r ≤ (r + x / r) / 2) : r * r ≤ x := by
  have h1 : r ≤ x / r := by omega
  have h2 : r * r ≤ (x / r) * r := Int.mul_le_mul_of_nonneg_right h1 (by omega)
  have h3 : (x / r) * r ≤ x := Int.ediv_mul_le x (by omega)
  omega
/-- Rounded up. -/
def up (n d : Int) : Int := -((-n) / d)
theorem up_ge (n : Int) {d : Int} (hd : 0 < d) : n ≤ up n d * d := by
  have := Int.ediv_mul_le (-n) (Int.ne_of_gt hd)
  unfold up
  rw [Int.neg_mul]; omega
theorem up_lt (n : Int) {d : Int} (hd : 0 < d) : (up n d - 1) * d < n := by
  have := Int.lt_ediv_add_one_mul_self (-n) hd
  unfold up
  have h : (-((-n) / d) - 1) * d = -(((-n) / d + 1) * d) := by rw [← Int.neg_mul]; congr 1; omega
  rw [h]; omega
theorem down_le_up (n : Int) {d : Int} (hd : 0 < d) : n / d ≤ up n d := by
  have h1 := Int.ediv_mul_le n (Int.ne_of_gt hd)
  have h2 := up_ge n hd
  exact Int.le_of_mul_le_mul_right (by omega) hd
theorem le_down {a n d : Int} (hd : 0 < d) : a ≤ n / d ↔ a * d ≤ n := Int.le_ediv_iff_mul_le hd
theorem up_le {a n d : Int} (hd : 0 < d) : up n d ≤ a ↔ n ≤ a * d := by
  unfold up
  have : -a ≤ (-n) / d ↔ (-a) * d ≤ -n := Int.le_ediv_iff_mul_le hd
  rw [Int.neg_mul] at this
  omega
theorem down_mono {a b d : Int} (hd : 0 < d) (h : a ≤ b) : a / d ≤ b / d := Int.ediv_le_ediv hd h
theorem up_mono {a b d : Int} (hd : 0 < d) (h : a ≤ b) : up a d ≤ up b d := by
  unfold up
  have := Int.ediv_le_ediv hd (show -b ≤ -a by omega)
  omega
theorem down_frac {a b c d : Int} (hb : 0 < b) (hd : 0 < d) (h : a * d ≤ c * b) : a / b ≤ c / d := by
  rw [le_down hd]
  have h1 := Int.ediv_mul_le a (Int.ne_of_gt hb)
  have h2 : (a / b * d) * b ≤ c * b := by
    have h3 : (a / b * b) * d ≤ a * d := Int.mul_le_mul_of_nonneg_right h1 (by omega)
    have h4 : (a / b * d) * b = (a / b * b) * d := by rw [Int.mul_assoc, Int.mul_comm d b, ← Int.mul_assoc]
    omega
  exact Int.le_of_mul_le_mul_right h2 hb
theorem up_frac {a b c d : Int} (hb : 0 < b) (hd : 0 < d) (h : a * d ≤ c * b) : up a b ≤ up c d := by
  have := down_frac (a := -c) (b := d) (c := -a) (d := b) hd hb (by rw [Int.neg_mul, Int.neg_mul]; omega)
  unfold up
  omega
/-- Go's division of a number by one above 0, put right downwards. -/
theorem tdiv_floor {n d : Int} (hd : 0 < d) : n / d = if (n.tdiv d) * d > n then n.tdiv d - 1 else n.tdiv d := by
  have h1 := Int.mul_tdiv_add_tmod n d
  have h2 := Int.tmod_lt_of_pos n hd
  have h3 : -d < n.tmod d := by
    have := Int.tmod_lt_of_pos (-n) hd
    rw [Int.neg_tmod] at this; omega
  generalize n.tdiv d = q at *
  generalize n.tmod d = r at *
  rw [Int.mul_comm] at h1
  have key : ∀ p, p * d ≤ n → n < (p + 1) * d → n / d = p := fun p ha hb => by
    have c1 : p ≤ n / d := (le_down hd).2 ha
    have c2 : n / d < p + 1 := Int.ediv_lt_of_lt_mul hd hb
    omega
  split
  · apply key
    · rw [Int.sub_mul]; omega
    · rw [Int.sub_add_cancel]; omega
  · apply key
    · omega
    · rw [Int.add_mul]; omega
theorem tdiv_bounds {n d : Int} (hd : 0 < d) {m : Int} (h0 : -m ≤ n) (h1 : n ≤ m) : -m ≤ n.tdiv d ∧ n.tdiv d ≤ m := by
  by_cases h : 0 ≤ n
  · rw [Int.tdiv_eq_ediv_of_nonneg h]
    have a := Int.ediv_nonneg h (Int.le_of_lt hd)
    have b := Int.ediv_le_self d h
    omega
  · have e : n.tdiv d = -((-n).tdiv d) := by rw [Int.neg_tdiv]; omega
    rw [e, Int.tdiv_eq_ediv_of_nonneg (by omega)]
    have a := Int.ediv_nonneg (show 0 ≤ -n by omega) (Int.le_of_lt hd)
    have b := Int.ediv_le_self (a := -n) d (by omega)
    omega
theorem tdiv_mul_bounds {n d : Int} (hd : 0 < d) {m : Int} (h0 : -m ≤ n) (h1 : n ≤ m) : -m ≤ n.tdiv d * d ∧ n.tdiv d * d ≤ m := by
  by_cases h : 0 ≤ n
  · rw [Int.tdiv_eq_ediv_of_nonneg h]
    have a := Int.mul_nonneg (Int.ediv_nonneg h (Int.le_of_lt hd)) (Int.le_of_lt hd)
    have b := Int.ediv_mul_le n (Int.ne_of_gt hd)
    omega
  · have e : n.tdiv d = -((-n).tdiv d) := by rw [Int.neg_tdiv]; omega
    rw [e, Int.tdiv_eq_ediv_of_nonneg (by omega), Int.neg_mul]
    have a := Int.mul_nonneg (Int.ediv_nonneg (show 0 ≤ -n by omega) (Int.le_of_lt hd)) (Int.le_of_lt hd)
    have b := Int.ediv_mul_le (-n) (Int.ne_of_gt hd)
    omega
end Go.Proofs.Ytbomgfbfnkfamaa.Mp
end
section
set_option linter.unusedVariables false
namespace Go.Proofs.Ytbomgfbfnkfamaa.Mp
open Go.RowKit Go.Proofs.YtbomgfbfnkfamaaW.PrintWords Go.Proofs.YtbomgfbfnkfamaaW.PrintMore

/-- The k-th number of a list. -/
abbrev nth (l : List Int) (k : Nat) : Int := l.getD k 0
/-- Ascending. -/
def Asc (l : List Int) : Prop := ∀ i j, i < j → j < l.length → nth l i < nth l j
theorem asc_of_next {l : List Int} (h : ∀ k, 0 < k → k < l.length → nth l (k - 1) < nth l k) : Asc l := by
  intro i j hij hj
  induction j with
  | zero => omega
  | succ j ih =>
    have h1 := h (j + 1) (by omega) hj
    rw [Nat.add_sub_cancel] at h1
    rcases Nat.lt_or_ge i j with c | c
    · have := ih c (by omega); omega
    · obtain rfl : i = j := by omega
      exact h1
theorem Asc.lt_iff {l : List Int} (h : Asc l) {i j : Nat} (hi : i < l.length) (hj : j < l.length) : nth l i < nth l j ↔ i < j := by
  constructor
  · intro c
    rcases Nat.lt_trichotomy i j with a | a | a
    · exact a
    · subst a; omega
    · have := h j i a hi; omega
  · intro c; exact h i j c hj
theorem Asc.le_iff {l : List Int} (h : Asc l) {i j : Nat} (hi : i < l.length) (hj : j < l.length) : nth l i ≤ nth l j ↔ i ≤ j := by
  have := h.lt_iff hj hi; omega
/-- v lies behind the line at, by up of so many parts. -/
inductive Spot (l : List Int) (v : Int) : Int → Int → Int → Prop
  | low : v ≤ nth l 0 → Spot l v 0 0 1
  | on (i : Nat) : i < l.length → nth l i = v → Spot l v i 0 1
  | high : nth l (l.length - 1) ≤ v → Spot l v (l.length - 1 : Nat) 0 1
  | mid (i : Nat) : i + 1 < l.length → nth l i < v → v < nth l (i + 1) → Spot l v i (v - nth l i) (nth l (i + 1) - nth l i)
theorem Spot.unique {l : List Int} {v a u o a' u' o' : Int} (ha : Asc l) (h0 : 0 < l.length) (h : Spot l v a u o) (h' : Spot l v a' u' o') : a = a' ∧ u = u' ∧ o = o' := by
  have L : ∀ i j : Nat, i < l.length → j < l.length → nth l i ≤ nth l j → i ≤ j := fun i j hi hj => (ha.le_iff hi hj).1
  have S : ∀ i j : Nat, i < l.length → j < l.length → nth l i < nth l j → i < j := fun i j hi hj => (ha.lt_iff hi hj).1
  cases h with
  | low h =>
    cases h' with
    | low h' => exact ⟨rfl, rfl, rfl⟩
    | on i hi hv => have := L i 0 hi h0 (by omega); exact ⟨by omega, rfl, rfl⟩
    | high h' => have := L (l.length - 1) 0 (by omega) h0 (by omega); exact ⟨by omega, rfl, rfl⟩
    | mid i hi h1 h2 => have := S i 0 (by omega) h0 (by omega); omega
  | on i hi hv =>
    cases h' with
    | low h' => have := L i 0 hi h0 (by omega); exact ⟨by omega, rfl, rfl⟩
    | on j hj hv' => have := L i j hi hj (by omega); have := L j i hj hi (by omega); exact ⟨by omega, rfl, rfl⟩
    | high h' => have := L (l.length - 1) i (by omega) hi (by omega); exact ⟨by omega, rfl, rfl⟩
    | mid j hj h1 h2 => have := S j i (by omega) hi (by omega); have := S i (j + 1) hi hj (by omega); omega
  | high h =>
    cases h' with
    | low h' => have := L (l.length - 1) 0 (by omega) h0 (by omega); exact ⟨by omega, rfl, rfl⟩
    | on j hj hv' => have := L (l.length - 1) j (by omega) hj (by omega); exact ⟨by omega, rfl, rfl⟩
    | high h' => exact ⟨rfl, rfl, rfl⟩
    | mid j hj h1 h2 => have := S (l.length - 1) (j + 1) (by omega) hj (by omega); omega
  | mid i hi h1 h2 =>
    cases h' with
    | low h' => have := S i 0 (by omega) h0 (by omega); omega
    | on j hj hv' => have := S i j (by omega) hj (by omega); have := S j (i + 1) hj hi (by omega); omega
    | high h' => have := S (l.length - 1) (i + 1) (by omega) hi (by omega); omega
    | mid j hj h3 h4 =>
      have := S i (j + 1) (by omega) hj (by omega)
      have := S j (i + 1) (by omega) hi (by omega)
      obtain rfl : i = j := by omega
      exact ⟨rfl, rfl, rfl⟩
/-- What a place is bounded by. -/
theorem Spot.bounds {l : List Int} {v a u o lo hi : Int} (ha : Asc l) (h0 : 0 < l.length) (hb : ∀ i, i < l.length → lo ≤ nth l i ∧ nth l i ≤ hi) (h : Spot l v a u o) :
    0 ≤ a ∧ a < l.length ∧ (0 < u → a + 1 < l.length) ∧ 0 ≤ u ∧ u < o ∧ (o ≤ hi - lo ∨ o = 1) := by
  cases h with
  | low h => exact ⟨by omega, by omega, by omega, by omega, by omega, by omega⟩
  | on i hi hv => exact ⟨by omega, by omega, by omega, by omega, by omega, by omega⟩
  | high h => exact ⟨by omega, by omega, by omega, by omega, by omega, by omega⟩
  | mid i hi h1 h2 =>
    have b1 := hb i (by omega)
    have b2 := hb (i + 1) hi
    exact ⟨by omega, by omega, by omega, by omega, by omega, by omega⟩
end Go.Proofs.Ytbomgfbfnkfamaa.Mp
end
section
set_option linter.unusedVariables false
namespace Go.Proofs.Ytbomgfbfnkfamaa.Mp
open Go.RowKit Go.Proofs.YtbomgfbfnkfamaaW.PrintWords Go.Proofs.YtbomgfbfnkfamaaW.PrintMore Go.Proofs.Ytbomgfbfnkfamaa.PAll

theorem next_f (s : Int) : ∃ v s', thermionkit_Dice_next.f s = some (v, s') ∧ 0 ≤ v ∧ v ≤ 18446744073709551615 := by
  unfold thermionkit_Dice_next.f
  exact ⟨_, _, rfl, bounds_u64 (wf_bits _ _ _ _)⟩
theorem upto_f (s : Int) {n : Int} (h0 : 1 ≤ n) (h1 : n ≤ 9223372036854775807) : ∃ v s', thermionkit_Dice_Upto.f s n = some (v, s') ∧ 0 ≤ v ∧ v < n := by
  obtain ⟨v, s', e, a, b⟩ := next_f s
  unfold thermionkit_Dice_Upto.f
  rw [e]
  simp only [Option.bind_some]
  have hu : IntKind.u64.wrap n = n := by rw [IntKind.wrap_u64]; omega
  rw [if_neg (by omega), hu, if_neg (by omega)]
  have c := Int.tmod_lt_of_pos v (show 0 < n by omega)
  have d := Int.tmod_nonneg n a
  exact ⟨_, _, rfl, by rw [wrap64_id (by omega) (by omega)]; exact ⟨d, c⟩⟩
theorem between_f (s : Int) {lo hi : Int} (h : lo ≤ hi) (h0 : -4000000000000000000 ≤ lo) (h1 : hi ≤ 4000000000000000000) : ∃ v s', thermionkit_Dice_Between.f s lo hi = some (v, s') ∧ lo ≤ v ∧ v ≤ hi := by
  unfold thermionkit_Dice_Between.f
  rw [wrap64_id (x := hi - lo) (by omega) (by omega), wrap64_id (x := hi - lo + 1) (by omega) (by omega)]
  obtain ⟨v, s', e, a, b⟩ := upto_f s (n := hi - lo + 1) (by omega) (by omega)
  rw [e]
  exact ⟨_, _, rfl, by simp only []; rw [wrap64_id (by omega) (by omega)]; omega⟩
theorem one_f (s : Int) {n : Int} (h0 : 1 ≤ n) (h1 : n ≤ 9223372036854775807) : ∃ b s', thermionkit_Dice_One.f s n = some (b, s') := by
  obtain ⟨v, s', e, _⟩ := upto_f s h0 h1
  unfold thermionkit_Dice_One.f
  rw [e]
  exact ⟨_, _, rfl⟩
theorem range_f (s : Int) {lo hi : Int} (h : lo ≤ hi) (h0 : -4000000000000000000 ≤ lo) (h1 : hi ≤ 4000000000000000000) : ∃ a b s', thermionkit_Dice_Range.f s lo hi = some (a, b, s') ∧ lo ≤ a ∧ a ≤ b ∧ b ≤ hi := by
  obtain ⟨a, s1, e1, a1, a2⟩ := between_f s h h0 h1
  obtain ⟨b, s2, e2, b1, b2⟩ := between_f s1 h h0 h1
  unfold thermionkit_Dice_Range.f
  rw [e1]
  simp only [Option.bind_some]
  rw [e2]
  refine ⟨_, _, _, rfl, ?_, ?_, ?_⟩ <;> simp only [mn, mx] <;> (try split) <;> (try split) <;> omega
theorem newDice_f (l : List Int) : ∃ s, thermionkit_NewDice.f l = some s := by
  have key : ∀ (l : List Int) (s : Int), ∃ r, diceFold l s = some r := by
    intro l
    induction l with
    | nil => exact fun s => ⟨s, rfl⟩
    | cons x t ih =>
      intro s
      obtain ⟨v, s', e, _⟩ := next_f (Go.bits .xor .u64 s (IntKind.u64.wrap x))
      obtain ⟨r, hr⟩ := ih s'
      exact ⟨r, by rw [diceFold, e]; exact hr⟩
  exact key l _
end Go.Proofs.Ytbomgfbfnkfamaa.Mp
end
section
set_option linter.unusedVariables false
namespace Go.Proofs.Ytbomgfbfnkfamaa.Mp
open Go.RowKit Go.Proofs.YtbomgfbfnkfamaaW.PrintWords Go.Proofs.YtbomgfbfnkfamaaW.PrintMore Go.Proofs.Ytbomgfbfnkfamaa.PAll

theorem lposN_spec (l : List Int) (n : Int) : ∀ d k, k + d = l.length → (∀ j, j < k → nth l j < n) →
    lposN l n d k ≤ l.length ∧ (∀ j, j < lposN l n d k → nth l j < n) ∧ (lposN l n d k < l.length → n ≤ nth l (lposN l n d k)) := by
  intro d
  induction d with
  | zero => intro k h hk; rw [lposN]; exact ⟨by omega, hk, by omega⟩
  | succ d ih =>
    intro k h hk
    rw [lposN]
    split
    · rename_i hlt
      refine ih (k + 1) (by omega) (fun j hj => ?_)
      rcases Nat.lt_or_ge j k with c | c
      · exact hk j c
      · obtain rfl : j = k := by omega
        exact hlt
    · rename_i hge
      exact ⟨by omega, hk, fun _ => by unfold nth; omega⟩
theorem nth_ins (l : List Int) (n : Int) {P : Nat} (hP : P ≤ l.length) (i : Nat) :
    nth ((l.take P ++ [n]) ++ l.drop P) i = if i < P then nth l i else if i = P then n else nth l (i - 1) := by
  have hl : (l.take P).length = P := by rw [List.length_take]; omega
  unfold nth
  rw [List.getD_eq_getElem?_getD, List.getD_eq_getElem?_getD, List.getD_eq_getElem?_getD]
  by_cases h1 : i < P
  · rw [if_pos h1, List.append_assoc, List.getElem?_append_left (by omega), List.getElem?_take_of_lt h1]
  · rw [if_neg h1]
    by_cases h2 : i = P
    · rw [if_pos h2, List.getElem?_append_left (by simp; omega), List.getElem?_append_right (by omega), hl, h2]
      simp
    · rw [if_neg h2, List.getElem?_append_right (by simp; omega), List.getElem?_drop]
      congr 2
      simp only [List.length_append, hl, List.length_cons, List.length_nil]
      omega
/-- What a list of lines is. -/
structure LinesOk (lo hi : Int) (l : List Int) : Prop where
  asc : Asc l
  bnd : ∀ i, i < l.length → lo ≤ nth l i ∧ nth l i ≤ hi
theorem linesPut_ok {lo hi n : Int} {l : List Int} (h : LinesOk lo hi l) (h0 : lo ≤ n) (h1 : n ≤ hi) : LinesOk lo hi (linesPut l n) ∧ (linesPut l n).length ≤ l.length + 1 ∧ 0 < (linesPut l n).length := by
  obtain ⟨hP, hlt, hge⟩ := lposN_spec l n l.length 0 (by omega) (fun j hj => by omega)
  refine ⟨?_, linesPut_len l n, ?_⟩
  · unfold linesPut
    generalize lposN l n l.length 0 = P at *
    split
    · rename_i hc
      have hlen : ((l.take P ++ [n]) ++ l.drop P).length = l.length + 1 := by
        simp only [List.length_append, List.length_take, List.length_drop, List.length_cons, List.length_nil]; omega
      constructor
      · apply asc_of_next
        intro k hk hkl
        rw [hlen] at hkl
        rw [nth_ins l n hP, nth_ins l n hP]
        by_cases c1 : k < P
        · rw [if_pos (by omega), if_pos c1]; exact h.asc _ _ (by omega) (by omega)
        · rw [if_neg c1]
          by_cases c2 : k = P
          · rw [if_pos (by omega), if_pos c2]; exact hlt _ (by omega)
          · rw [if_neg c2]
            by_cases c3 : k = P + 1
            · subst c3
              rw [if_neg (by omega), if_pos (by omega)]
              have := hge (by omega)
              rcases hc with hc | hc
              · omega
              · rw [Nat.add_sub_cancel]; unfold nth at *; omega
            · rw [if_neg (by omega), if_neg (by omega)]; exact h.asc _ _ (by omega) (by omega)
      · intro i hi
        rw [hlen] at hi
        rw [nth_ins l n hP]
        split
        · exact h.bnd i (by omega)
        · split
          · exact ⟨h0, h1⟩
          · exact h.bnd (i - 1) (by omega)
    · exact h
  · unfold linesPut
    split
    · simp only [List.length_append, List.length_cons, List.length_nil]; omega
    · rename_i hc
      rcases Nat.eq_zero_or_pos l.length with c | c
      · exact absurd (Or.inl (by omega)) hc
      · exact c
theorem linesGo_ok {lo hi : Int} (h : lo ≤ hi) (h0 : -4000000000000000000 ≤ lo) (h1 : hi ≤ 4000000000000000000) (d : Nat) : ∀ (l : List Int) (s : Int), LinesOk lo hi l →
    ∃ l' s', linesGo lo hi d l s = some (l', s') ∧ LinesOk lo hi l' ∧ l'.length ≤ l.length + d ∧ (0 < l.length ∨ 0 < d → 0 < l'.length) := by
  induction d with
  | zero => intro l s hl; exact ⟨l, s, rfl, hl, by omega, by omega⟩
  | succ d ih =>
    intro l s hl
    obtain ⟨v, s1, e1, v1, v2⟩ := between_f s h h0 h1
    obtain ⟨ho, hln, hpos⟩ := linesPut_ok hl v1 v2
    obtain ⟨l', s', e, ho', hl', hp'⟩ := ih (linesPut l v) s1 ho
    exact ⟨l', s', by rw [linesGo, e1, Option.bind_some]; exact e, ho', by omega, fun _ => hp' (Or.inl hpos)⟩
theorem lines_f (s : Int) {lo hi most : Int} (h : lo ≤ hi) (h0 : -4000000000000000000 ≤ lo) (h1 : hi ≤ 4000000000000000000) (hm : 1 ≤ most) (hm1 : most < 1000) :
    ∃ l s', thermionkit_Lines.f s lo hi most = some (l, s') ∧ LinesOk lo hi l ∧ 1 ≤ l.length ∧ (l.length : Int) ≤ most := by
  obtain ⟨b, s1, e1, b1, b2⟩ := between_f s hm (by omega) (by omega)
  obtain ⟨l, s', e, ho, hl, hp⟩ := linesGo_ok h h0 h1 b.toNat [] s1 ⟨fun i j _ hj => by simp at hj, fun i hi => by simp at hi⟩
  refine ⟨l, s', ?_, ho, hp (Or.inr (by omega)), by simp only [List.length_nil] at hl; omega⟩
  unfold thermionkit_Lines.f
  rw [e1, Option.bind_some]
  dsimp only
  rw [if_pos (by omega)]
  exact e
end Go.Proofs.Ytbomgfbfnkfamaa.Mp
end
section
namespace Go.Proofs.Ytbomgfbfnkfamaa.PAll
open Go.RowKit Go.Proofs.YtbomgfbfnkfamaaW.PrintWords Go.Proofs.YtbomgfbfnkfamaaW.PrintLast Go.Proofs.YtbomgfbfnkfamaaW.PrintMore
attribute [local go_sem] max2_int min2_int max_two min_two max_three min_three max_four min_four   -- for this text's walks alone
set_option linter.unusedVariables false
set_option linter.unusedSimpArgs false

/-! ### thermionkit_Mod: function 26 -/
def thermionkit_Mod.f (a0 : Int) (a1 : Int) : Option (Int) := if a1 < 1 then (some 0) else (if a1 = 0 then (none) else (if (Int.tmod a0 a1) < 0 then (some (wrap64 ((Int.tmod a0 a1) + a1))) else (some (Int.tmod a0 a1))))
set_option maxHeartbeats 8000000 in
set_option maxRecDepth 100000 in
theorem thermionkit_Mod.calls (a0 : Int) (a1 : Int) (r : Int) (w : World) (h : thermionkit_Mod.f a0 a1 = some r) :
    Calls Try.prog 26 #[.int .i64 a0, .int .i64 a1] w fun e w' => e = .returned (.int .i64 r) ∧ Drawn0 w w' := by
  have H : (if a1 < 1 then (some 0) else (if a1 = 0 then (none) else (if (Int.tmod a0 a1) < 0 then (some (wrap64 ((Int.tmod a0 a1) + a1))) else (some (Int.tmod a0 a1))))) = some r := h
  clear h
  by_cases c3 : a1 < 1
  · rw [if_pos c3] at H
    have c3b0 : decide (a1 < 1) = true := decide_eq_true c3
    clear c3
    obtain rfl := Option.some.inj H
    go_enter Try.func26, Try.ntmps26
    go_wp2
    go_ret
    exact ⟨by first | rfl | (simp; done) | (simp [*]; done), by repeat (first | exact Drawn0.refl _ | apply Drawn0.step)⟩
  · rw [if_neg c3] at H
    have c3b0 : decide (a1 < 1) = false := decide_eq_false c3
    clear c3
    by_cases c4 : a1 = 0
    · rw [if_pos c4] at H
      exact absurd H (by simp)
    · rw [if_neg c4] at H
      have c4b0 : (a1 == 0) = false := beq_eq_false_iff_ne.mpr c4
      have c4b1 : (a1 != 0) = true := bne_iff_ne.mpr c4
      by_cases c5 : (Int.tmod a0 a1) < 0
      · rw [if_pos c5] at H
        have c5b0 : decide ((Int.tmod a0 a1) < 0) = true := decide_eq_true c5
        clear c5
        obtain rfl := Option.some.inj H
        go_enter Try.func26, Try.ntmps26
        go_wp2
        go_ret
        exact ⟨by first | rfl | (simp; done) | (simp [*]; done), by repeat (first | exact Drawn0.refl _ | apply Drawn0.step)⟩
      · rw [if_neg c5] at H
        have c5b0 : decide ((Int.tmod a0 a1) < 0) = false := decide_eq_false c5
        clear c5
        obtain rfl := Option.some.inj H
        go_enter Try.func26, Try.ntmps26
        go_wp2
        go_ret
        exact ⟨by first | rfl | (simp; done) | (simp [*]; done), by repeat (first | exact Drawn0.refl _ | apply Drawn0.step)⟩

end Go.Proofs.Ytbomgfbfnkfamaa.PAll
end
