/- What the functions of the claim compute, and that it is as the claim says: part 2 of 5. -/
import Derived.Test.YtbomgfbfnkfamaaCWithin0
section
namespace Go.Proofs.Ytbomgfbfnkfamaa.PAll
open Go.RowKit Go.Proofs.YtbomgfbfnkfamaaW.PrintWords Go.Proofs.YtbomgfbfnkfamaaW.PrintLast Go.Proofs.YtbomgfbfnkfamaaW.PrintMore
attribute [local go_sem] max2_int min2_int max_two min_two max_three min_three max_four min_four   -- for this text's walks alone
set_option linter.unusedVariables false
set_option linter.unusedSimpArgs false

/-! ### cmp_Less_int: function 140 -/
def cmp_Less_int.f (a0 : Int) (a1 : Int) : Option (Bool) := (cmp_isNaN_int.f a0).bind fun t101 => (if t101 = true then ((cmp_isNaN_int.f a1).bind fun t102 => (if t102 = true then (some (decide (a0 < a1))) else (some true))) else (some (decide (a0 < a1))))
set_option maxHeartbeats 8000000 in
set_option maxRecDepth 100000 in
theorem cmp_Less_int.calls (a0 : Int) (a1 : Int) (r : Bool) (w : World) (h : cmp_Less_int.f a0 a1 = some r) :
    Calls Try.prog 140 #[.int .i64 a0, .int .i64 a1] w fun e w' => e = .returned (.bool r) ∧ Drawn0 w w' := by
  have H : ((cmp_isNaN_int.f a0).bind fun t101 => (if t101 = true then ((cmp_isNaN_int.f a1).bind fun t102 => (if t102 = true then (some (decide (a0 < a1))) else (some true))) else (some (decide (a0 < a1))))) = some r := h
  clear h
  replace H := Option.bind_eq_some_iff.mp H
  obtain ⟨t101, A30, H⟩ := H
  replace H : (if t101 = true then ((cmp_isNaN_int.f a1).bind fun t102 => (if t102 = true then (some (decide (a0 < a1))) else (some true))) else (some (decide (a0 < a1)))) = some r := H
  have A3 := Aside0.mk A30
  clear A30
  by_cases c4 : t101 = true
  · subst c4
    have H1 : ((cmp_isNaN_int.f a1).bind fun t102 => (if t102 = true then (some (decide (a0 < a1))) else (some true))) = some r := by rw [if_pos rfl] at H; exact H
    clear H
    have H := H1
    clear H1
    replace H := Option.bind_eq_some_iff.mp H
    obtain ⟨t102, A50, H⟩ := H
    replace H : (if t102 = true then (some (decide (a0 < a1))) else (some true)) = some r := H
    have A5 := Aside0.mk A50
    clear A50
    by_cases c6 : t102 = true
    · subst c6
      have H1 : (some (decide (a0 < a1))) = some r := by rw [if_pos rfl] at H; exact H
      clear H
      have H := H1
      clear H1
      obtain rfl := Option.some.inj H
      go_enter Try.func140, Try.ntmps140
      go_wp2_with (first | ((with_reducible refine gate_callee (f := 146) rfl ?_); refine goesL_ (some 6) rfl rfl Try.func146 (by kernel_rfl) rfl #[.int .i64 a0] rfl (by (try simp only [List.map_toArray, List.map_cons, List.map_nil]); first | done | rfl | (simp only [List.length_drop, List.length_take]; rfl)) ?_; (with_reducible refine (cmp_isNaN_int.calls a0 true _ A3.out).mono ?_); rintro e w' ⟨rfl, ⟨nd, rfl⟩⟩; refine ⟨_, rfl, ?_⟩) | (go_at_call 146; (with_reducible refine (cmp_isNaN_int.calls a1 true _ A5.out).mono ?_); rintro e w' ⟨rfl, ⟨nd, rfl⟩⟩))
      go_ret
      exact ⟨by first | rfl | (simp; done) | (simp [*]; done), by repeat (first | exact Drawn0.refl _ | apply Drawn0.step)⟩
    · replace c6 := Bool.eq_false_iff.mpr c6
      subst c6
      have H1 : (some true) = some r := by rw [if_neg (show ¬ (false = true) by decide)] at H; exact H
      clear H
      have H := H1
      clear H1
      obtain rfl := Option.some.inj H
      go_enter Try.func140, Try.ntmps140
      go_wp2_with (first | ((with_reducible refine gate_callee (f := 146) rfl ?_); refine goesL_ (some 6) rfl rfl Try.func146 (by kernel_rfl) rfl #[.int .i64 a0] rfl (by (try simp only [List.map_toArray, List.map_cons, List.map_nil]); first | done | rfl | (simp only [List.length_drop, List.length_take]; rfl)) ?_; (with_reducible refine (cmp_isNaN_int.calls a0 true _ A3.out).mono ?_); rintro e w' ⟨rfl, ⟨nd, rfl⟩⟩; refine ⟨_, rfl, ?_⟩) | (go_at_call 146; (with_reducible refine (cmp_isNaN_int.calls a1 false _ A5.out).mono ?_); rintro e w' ⟨rfl, ⟨nd, rfl⟩⟩))
      go_ret
      exact ⟨by first | rfl | (simp; done) | (simp [*]; done), by repeat (first | exact Drawn0.refl _ | apply Drawn0.step)⟩
  · replace c4 := Bool.eq_false_iff.mpr c4
    subst c4
    have H1 : (some (decide (a0 < a1))) = some r := by rw [if_neg (show ¬ (false = true) by decide)] at H; exact H
    clear H
    have H := H1
    clear H1
    obtain rfl := Option.some.inj H
    go_enter Try.func140, Try.ntmps140
    go_wp2_with (first | ((with_reducible refine gate_callee (f := 146) rfl ?_); refine goesL_ (some 6) rfl rfl Try.func146 (by kernel_rfl) rfl #[.int .i64 a0] rfl (by (try simp only [List.map_toArray, List.map_cons, List.map_nil]); first | done | rfl | (simp only [List.length_drop, List.length_take]; rfl)) ?_; (with_reducible refine (cmp_isNaN_int.calls a0 false _ A3.out).mono ?_); rintro e w' ⟨rfl, ⟨nd, rfl⟩⟩; refine ⟨_, rfl, ?_⟩))
    go_ret
    exact ⟨by first | rfl | (simp; done) | (simp [*]; done), by repeat (first | exact Drawn0.refl _ | apply Drawn0.step)⟩

end Go.Proofs.Ytbomgfbfnkfamaa.PAll
end
section
namespace Go.Proofs.Ytbomgfbfnkfamaa.PAll
open Go.RowKit Go.Proofs.YtbomgfbfnkfamaaW.PrintWords Go.Proofs.YtbomgfbfnkfamaaW.PrintLast Go.Proofs.YtbomgfbfnkfamaaW.PrintMore
attribute [local go_sem] max2_int min2_int max_two min_two max_three min_three max_four min_four   -- for this text's walks alone
set_option linter.unusedVariables false
set_option linter.unusedSimpArgs false

/-! ### slices_isNaN_int: function 141 -/
def slices_isNaN_int.f (a0 : Int) : Option (Bool) := some (a0 != a0)
set_option maxHeartbeats 8000000 in
set_option maxRecDepth 100000 in
theorem slices_isNaN_int.calls (a0 : Int) (r : Bool) (w : World) (h : slices_isNaN_int.f a0 = some r) :
    Calls Try.prog 141 #[.int .i64 a0] w fun e w' => e = .returned (.bool r) ∧ Drawn0 w w' := by
  have H : (some (a0 != a0)) = some r := h
  clear h
  obtain rfl := Option.some.inj H
  go_enter Try.func141, Try.ntmps141
  go_wp2
  go_ret
  exact ⟨by first | rfl | (simp; done) | (simp [*]; done), by repeat (first | exact Drawn0.refl _ | apply Drawn0.step)⟩

end Go.Proofs.Ytbomgfbfnkfamaa.PAll
end
section
namespace Go.Proofs.Ytbomgfbfnkfamaa.PAll
open Go.RowKit Go.Proofs.YtbomgfbfnkfamaaW.PrintWords Go.Proofs.YtbomgfbfnkfamaaW.PrintLast Go.Proofs.YtbomgfbfnkfamaaW.PrintMore
attribute [local go_sem] max2_int min2_int max_two min_two max_three min_three max_four min_four   -- for this text's walks alone
set_option linter.unusedVariables false
set_option linter.unusedSimpArgs false

/-! ### slices_BinarySearch_int_int: function 115 -/
def slices_BinarySearch_int_int.l0 : Nat → List Int → Int → Int → Int → Int → Option (Int × Bool)
  | 0, _, _, _, _, _ => none
  | k + 1, x0, x1, x6, x7, x8 => if x7 < x8 then (if 0 ≤ (wrap64 ((IntKind.u64.wrap (wrap64 (x7 + x8))) / 2)) then (if (wrap64 ((IntKind.u64.wrap (wrap64 (x7 + x8))) / 2)) < (x0.length : Int) then ((cmp_Less_int.f (rd x0 (wrap64 ((IntKind.u64.wrap (wrap64 (x7 + x8))) / 2))) x1).bind fun t102 => (if t102 = true then (slices_BinarySearch_int_int.l0 k x0 x1 x6 (wrap64 ((wrap64 ((IntKind.u64.wrap (wrap64 (x7 + x8))) / 2)) + 1)) x8) else (slices_BinarySearch_int_int.l0 k x0 x1 x6 x7 (wrap64 ((IntKind.u64.wrap (wrap64 (x7 + x8))) / 2))))) else (none)) else (none)) else (if x7 < x6 then (if 0 ≤ x7 then (if x7 < (x0.length : Int) then (if (rd x0 x7) = x1 then (some (x7, true)) else ((slices_isNaN_int.f (rd x0 x7)).bind fun t105 => (if t105 = true then ((slices_isNaN_int.f x1).bind fun t106 => (some (x7, t106))) else (some (x7, false))))) else (none)) else (none)) else (some (x7, false)))
def slices_BinarySearch_int_int.f (k : Nat) (l0 : List Int) (a1 : Int) : Option (Int × Bool) := slices_BinarySearch_int_int.l0 k l0 a1 (l0.length : Int) 0 (l0.length : Int)
theorem slices_BinarySearch_int_int.mono_l : ∀ k, (∀ y0 y1 y2 y3 y4, LeO (slices_BinarySearch_int_int.l0 k y0 y1 y2 y3 y4) (slices_BinarySearch_int_int.l0 (k + 1) y0 y1 y2 y3 y4))
  | 0 => fun _ _ _ _ _ r h => by simp [slices_BinarySearch_int_int.l0] at h
  | k + 1 => by
    have ih0 := slices_BinarySearch_int_int.mono_l k
    · intro y0 y1 y2 y3 y4
      unfold slices_BinarySearch_int_int.l0
      repeat' first
      | (with_reducible exact ih0 _ _ _ _ _)
      | (with_reducible exact LeO.refl _)
      | (with_reducible exact LeO.none _)
      | (with_reducible refine LeO.ite ?_ ?_)
      | (with_reducible refine LeO.bind ?_ (fun _ => ?_))
      | exact ih0 _ _ _ _ _
      | exact LeO.none _
      | refine LeO.ite ?_ ?_
      | refine LeO.bind ?_ (fun _ => ?_)
theorem slices_BinarySearch_int_int.mono : ∀ a0 a1 k, LeO (slices_BinarySearch_int_int.f k a0 a1) (slices_BinarySearch_int_int.f (k + 1) a0 a1) := by
  intro a0 a1 k
  have ih0 := slices_BinarySearch_int_int.mono_l k
  unfold slices_BinarySearch_int_int.f
  repeat' first
      | (with_reducible exact ih0 _ _ _ _ _)
      | (with_reducible exact LeO.refl _)
      | (with_reducible exact LeO.none _)
      | (with_reducible refine LeO.ite ?_ ?_)
      | (with_reducible refine LeO.bind ?_ (fun _ => ?_))
      | exact ih0 _ _ _ _ _
      | exact LeO.none _
      | refine LeO.ite ?_ ?_
      | refine LeO.bind ?_ (fun _ => ?_)
set_option maxHeartbeats 8000000 in
set_option maxRecDepth 100000 in
theorem slices_BinarySearch_int_int.calls (k : Nat) (A0 : Option Addr) (c0 : Nat) (l0 : List Int) (a1 : Int) (r1 : Int) (r2 : Bool) (w : World) (hr0 : Kd.C (Kd.int .i64) w A0 l0.length l0) (hc0 : l0.length ≤ c0) (h : slices_BinarySearch_int_int.f k l0 a1 = some (r1, r2)) :
    Calls Try.prog 115 #[.slice A0 l0.length c0, .int .i64 a1] w fun e w' => e = .returned (.tuple #[.int .i64 r1, .bool r2]) ∧ Drawn0 w w' := by
  have HR0 := Aside0.mk hr0
  have HC0 := Aside0.mk hc0
  clear hr0 hc0
  have H : (slices_BinarySearch_int_int.l0 k l0 a1 (l0.length : Int) 0 (l0.length : Int)) = some (r1, r2) := h
  clear h
  have H' := Aside0.mk H
  clear H
  go_enter Try.func115, Try.ntmps115
  go_wp2
  go_loopg [7, 8] k (fun kq v7 v8 w' => ∃ (x7_1 : Int) (x8_1 : Int), v7 = .int .i64 x7_1 ∧ v8 = .int .i64 x8_1 ∧ Aside0 (slices_BinarySearch_int_int.l0 kq l0 a1 (l0.length : Int) x7_1 x8_1 = some (r1, r2)) ∧ Aside0 (kq ≤ k) ∧ Drawn0 w w')
  case atStart => exact ⟨(0), ((l0.length : Int)), (by first | rfl | (simp; done) | (simp [*]; done)), (by first | rfl | (simp; done) | (simp [*]; done)), H', ⟨Nat.le_refl _⟩, by repeat (first | exact Drawn0.refl _ | apply Drawn0.step)⟩
  case round =>
    clear H'
    try clear c1
    try clear p2
    obtain ⟨x7_1, x8_1, rfl, rfl, HA, HK1, ⟨m1, rfl⟩⟩ := hrel
    cases gk with
    | zero => exact absurd HA.out (by simp [slices_BinarySearch_int_int.l0])
    | succ k1 =>
      have H := HA.out
      clear HA
      simp only [slices_BinarySearch_int_int.l0] at H
      by_cases c3 : x7_1 < x8_1
      · rw [if_pos c3] at H
        have c3b0 : decide (x7_1 < x8_1) = true := decide_eq_true c3
        clear c3
        obtain ⟨ji4, hji4⟩ : ∃ j_ : Int, (wrap64 ((IntKind.u64.wrap (wrap64 (x7_1 + x8_1))) / 2)) = j_ := ⟨_, rfl⟩
        replace H : (if 0 ≤ (ji4) then (if (ji4) < (l0.length : Int) then ((cmp_Less_int.f (rd l0 (ji4)) a1).bind fun t102 => (if t102 = true then (slices_BinarySearch_int_int.l0 k1 l0 a1 (l0.length : Int) (wrap64 ((ji4) + 1)) x8_1) else (slices_BinarySearch_int_int.l0 k1 l0 a1 (l0.length : Int) x7_1 ji4))) else (none)) else (none)) = some (r1, r2) := by first | (rw [hji4] at H; exact H) | (simp only [hji4] at H ⊢; exact H)
        have hji4w : (IntKind.i64.wrap ((IntKind.u64.wrap (wrap64 (x7_1 + x8_1))) / 2)) = ji4 := (i64_w _).trans hji4
        by_cases c5 : 0 ≤ (ji4)
        · rw [if_pos c5] at H
          have c5b0 : decide (0 ≤ (ji4)) = true := decide_eq_true c5
          clear c5
          by_cases c6 : (ji4) < (l0.length : Int)
          · rw [if_pos c6] at H
            have c6b0 : decide ((ji4) < (l0.length : Int)) = true := decide_eq_true c6
            clear c6
            replace H := Option.bind_eq_some_iff.mp H
            obtain ⟨t102, A70, H⟩ := H
            replace H : (if t102 = true then (slices_BinarySearch_int_int.l0 k1 l0 a1 (l0.length : Int) (wrap64 ((ji4) + 1)) x8_1) else (slices_BinarySearch_int_int.l0 k1 l0 a1 (l0.length : Int) x7_1 ji4)) = some (r1, r2) := H
            have A7 := Aside0.mk A70
            clear A70
            by_cases c8 : t102 = true
            · subst c8
              have H1 : (slices_BinarySearch_int_int.l0 k1 l0 a1 (l0.length : Int) (wrap64 ((ji4) + 1)) x8_1) = some (r1, r2) := by rw [if_pos rfl] at H; exact H
              clear H
              have H := H1
              clear H1
              have H' := Aside0.mk H
              clear H
              have p101 : 0 ≤ ((ji4) : Int) := of_decide_eq_true (by first | (with_reducible assumption) | assumption)
              have q101 : (ji4) < (l0.length : Int) := of_decide_eq_true (by first | (with_reducible assumption) | assumption)
              obtain ⟨ad101, e101, hx101_0⟩ := Kd.at_int HR0.out (ji4) p101 q101
              cases e101
              replace p101 := eq_true p101
              replace q101 := eq_true q101
              go_wp2_with (first | ((with_reducible refine gate_callee (f := 140) rfl ?_); refine goesL_ (some 27) rfl rfl Try.func140 (by kernel_rfl) rfl #[.int .i64 (rd l0 (ji4)), .int .i64 a1] rfl (by (try simp only [List.map_toArray, List.map_cons, List.map_nil]); first | done | (simp only [hji4]; rfl) | rfl | (simp only [List.length_drop, List.length_take]; rfl)) ?_; (with_reducible refine (cmp_Less_int.calls (rd l0 (ji4)) a1 true _ A7.out).mono ?_); rintro e w' ⟨rfl, ⟨nd, rfl⟩⟩; refine ⟨_, rfl, ?_⟩))
              go_roundg k1
              case measure => have := HK1.out; omega
              case rel => exact ⟨(wrap64 ((ji4) + 1)), (x8_1), (by first | rfl | (simp; done) | (simp only [← hji4] <;> (first | rfl | simp)) | (simp [*]; done)), (by first | rfl | (simp; done) | (simp [*]; done)), H', ⟨by have := HK1.out; omega⟩, by repeat (first | exact Drawn0.refl _ | apply Drawn0.step)⟩
            · replace c8 := Bool.eq_false_iff.mpr c8
              subst c8
              have H1 : (slices_BinarySearch_int_int.l0 k1 l0 a1 (l0.length : Int) x7_1 ji4) = some (r1, r2) := by rw [if_neg (show ¬ (false = true) by decide)] at H; exact H
              clear H
              have H := H1
              clear H1
              have H' := Aside0.mk H
              clear H
              have p101 : 0 ≤ ((ji4) : Int) := of_decide_eq_true (by first | (with_reducible assumption) | assumption)
              have q101 : (ji4) < (l0.length : Int) := of_decide_eq_true (by first | (with_reducible assumption) | assumption)
              obtain ⟨ad101, e101, hx101_0⟩ := Kd.at_int HR0.out (ji4) p101 q101
              cases e101
              replace p101 := eq_true p101
              replace q101 := eq_true q101
              go_wp2_with (first | ((with_reducible refine gate_callee (f := 140) rfl ?_); refine goesL_ (some 27) rfl rfl Try.func140 (by kernel_rfl) rfl #[.int .i64 (rd l0 (ji4)), .int .i64 a1] rfl (by (try simp only [List.map_toArray, List.map_cons, List.map_nil]); first | done | (simp only [hji4]; rfl) | rfl | (simp only [List.length_drop, List.length_take]; rfl)) ?_; (with_reducible refine (cmp_Less_int.calls (rd l0 (ji4)) a1 false _ A7.out).mono ?_); rintro e w' ⟨rfl, ⟨nd, rfl⟩⟩; refine ⟨_, rfl, ?_⟩))
              go_roundg k1
              case measure => have := HK1.out; omega
              case rel => exact ⟨(x7_1), (ji4), (by first | rfl | (simp; done) | (simp [*]; done)), (by first | rfl | (simp; done) | (simp only [← hji4] <;> (first | rfl | simp)) | (simp [*]; done)), H', ⟨by have := HK1.out; omega⟩, by repeat (first | exact Drawn0.refl _ | apply Drawn0.step)⟩
          · rw [if_neg c6] at H
            exact absurd H (by simp)
        · rw [if_neg c5] at H
          exact absurd H (by simp)
      · rw [if_neg c3] at H
        have c3b0 : decide (x7_1 < x8_1) = false := decide_eq_false c3
        clear c3
        by_cases c9 : x7_1 < (l0.length : Int)
        · rw [if_pos c9] at H
          have c9b0 : decide (x7_1 < (l0.length : Int)) = true := decide_eq_true c9
          clear c9
          by_cases c10 : 0 ≤ x7_1
          · rw [if_pos c10] at H
            have c10b0 : decide (0 ≤ x7_1) = true := decide_eq_true c10
            clear c10
            by_cases c11 : x7_1 < (l0.length : Int)
            · rw [if_pos c11] at H
              have c11b0 : decide (x7_1 < (l0.length : Int)) = true := decide_eq_true c11
              clear c11
              by_cases c12 : (rd l0 x7_1) = a1
              · rw [if_pos c12] at H
                have c12b0 : ((rd l0 x7_1) == a1) = true := beq_iff_eq.mpr c12
                have c12b1 : ((rd l0 x7_1) != a1) = false := bne_eq_false_iff_eq.mpr c12
                clear c12
                simp only [Option.some.injEq, Prod.mk.injEq] at H
                obtain ⟨rfl, rfl⟩ := H
                have p103 : 0 ≤ (x7_1 : Int) := of_decide_eq_true (by first | (with_reducible assumption) | assumption)
                have q103 : x7_1 < (l0.length : Int) := of_decide_eq_true (by first | (with_reducible assumption) | assumption)
                obtain ⟨ad103, e103, hx103_0⟩ := Kd.at_int HR0.out x7_1 p103 q103
                cases e103
                replace p103 := eq_true p103
                replace q103 := eq_true q103
                go_wp2
                go_ret2
                exact ⟨by first | rfl | (simp; done) | (simp [*]; done), by repeat (first | exact Drawn0.refl _ | apply Drawn0.step)⟩
              · rw [if_neg c12] at H
                have c12b0 : ((rd l0 x7_1) == a1) = false := beq_eq_false_iff_ne.mpr c12
                have c12b1 : ((rd l0 x7_1) != a1) = true := bne_iff_ne.mpr c12
                replace H := Option.bind_eq_some_iff.mp H
                obtain ⟨t105, A130, H⟩ := H
                replace H : (if t105 = true then ((slices_isNaN_int.f a1).bind fun t106 => (some (x7_1, t106))) else (some (x7_1, false))) = some (r1, r2) := H
                have A13 := Aside0.mk A130
                clear A130
                by_cases c14 : t105 = true
                · subst c14
                  have H1 : ((slices_isNaN_int.f a1).bind fun t106 => (some (x7_1, t106))) = some (r1, r2) := by rw [if_pos rfl] at H; exact H
                  clear H
                  have H := H1
                  clear H1
                  replace H := Option.bind_eq_some_iff.mp H
                  obtain ⟨t106, A150, H⟩ := H
                  replace H : (some (x7_1, t106)) = some (r1, r2) := H
                  have A15 := Aside0.mk A150
                  clear A150
                  simp only [Option.some.injEq, Prod.mk.injEq] at H
                  obtain ⟨rfl, rfl⟩ := H
                  have p103 : 0 ≤ (x7_1 : Int) := of_decide_eq_true (by first | (with_reducible assumption) | assumption)
                  have q103 : x7_1 < (l0.length : Int) := of_decide_eq_true (by first | (with_reducible assumption) | assumption)
                  obtain ⟨ad103, e103, hx103_0⟩ := Kd.at_int HR0.out x7_1 p103 q103
                  cases e103
                  replace p103 := eq_true p103
                  replace q103 := eq_true q103
                  have p104 : 0 ≤ (x7_1 : Int) := of_decide_eq_true (by first | (with_reducible assumption) | assumption)
                  have q104 : x7_1 < (l0.length : Int) := of_decide_eq_true (by first | (with_reducible assumption) | assumption)
                  obtain ⟨ad104, e104, hx104_0⟩ := Kd.at_int HR0.out x7_1 p104 q104
                  obtain rfl : ad103 = ad104 := (by injection e104)
                  replace p104 := eq_true p104
                  replace q104 := eq_true q104
                  go_wp2_with (first | (go_at_call 141; (with_reducible refine (slices_isNaN_int.calls (rd l0 x7_1) true _ A13.out).mono ?_); rintro e w' ⟨rfl, ⟨nd, rfl⟩⟩) | (go_at_call 141; (with_reducible refine (slices_isNaN_int.calls a1 t106 _ A15.out).mono ?_); rintro e w' ⟨rfl, ⟨nd, rfl⟩⟩))
                  go_ret2
                  exact ⟨by first | rfl | (simp; done) | (simp [*]; done), by repeat (first | exact Drawn0.refl _ | apply Drawn0.step)⟩
                · replace c14 := Bool.eq_false_iff.mpr c14
                  subst c14
                  have H1 : (some (x7_1, false)) = some (r1, r2) := by rw [if_neg (show ¬ (false = true) by decide)] at H; exact H
                  clear H
                  have H := H1
                  clear H1
                  simp only [Option.some.injEq, Prod.mk.injEq] at H
                  obtain ⟨rfl, rfl⟩ := H
                  have p103 : 0 ≤ (x7_1 : Int) := of_decide_eq_true (by first | (with_reducible assumption) | assumption)
                  have q103 : x7_1 < (l0.length : Int) := of_decide_eq_true (by first | (with_reducible assumption) | assumption)
                  obtain ⟨ad103, e103, hx103_0⟩ := Kd.at_int HR0.out x7_1 p103 q103
                  cases e103
                  replace p103 := eq_true p103
                  replace q103 := eq_true q103
                  have p104 : 0 ≤ (x7_1 : Int) := of_decide_eq_true (by first | (with_reducible assumption) | assumption)
                  have q104 : x7_1 < (l0.length : Int) := of_decide_eq_true (by first | (with_reducible assumption) | assumption)
                  obtain ⟨ad104, e104, hx104_0⟩ := Kd.at_int HR0.out x7_1 p104 q104
                  obtain rfl : ad103 = ad104 := (by injection e104)
                  replace p104 := eq_true p104
                  replace q104 := eq_true q104
                  go_wp2_with (first | (go_at_call 141; (with_reducible refine (slices_isNaN_int.calls (rd l0 x7_1) false _ A13.out).mono ?_); rintro e w' ⟨rfl, ⟨nd, rfl⟩⟩))
                  go_ret2
                  exact ⟨by first | rfl | (simp; done) | (simp [*]; done), by repeat (first | exact Drawn0.refl _ | apply Drawn0.step)⟩
            · rw [if_neg c11] at H
              exact absurd H (by simp)
          · rw [if_neg c10] at H
            exact absurd H (by simp)
        · rw [if_neg c9] at H
          have c9b0 : decide (x7_1 < (l0.length : Int)) = false := decide_eq_false c9
          clear c9
          simp only [Option.some.injEq, Prod.mk.injEq] at H
          obtain ⟨rfl, rfl⟩ := H
          go_wp2
          go_ret2
          exact ⟨by first | rfl | (simp; done) | (simp [*]; done), by repeat (first | exact Drawn0.refl _ | apply Drawn0.step)⟩

end Go.Proofs.Ytbomgfbfnkfamaa.PAll
end
section
namespace Go.Proofs.Ytbomgfbfnkfamaa.PAll
open Go.RowKit Go.Proofs.YtbomgfbfnkfamaaW.PrintWords Go.Proofs.YtbomgfbfnkfamaaW.PrintLast Go.Proofs.YtbomgfbfnkfamaaW.PrintMore
attribute [local go_sem] max2_int min2_int max_two min_two max_three min_three max_four min_four   -- for this text's walks alone
set_option linter.unusedVariables false
set_option linter.unusedSimpArgs false

/-! ### curve_where: function 68 -/
def curve_where.f (k : Nat) (l0 : List Int) (a1 : Int) : Option (Int × Int × Int) := (slices_BinarySearch_int_int.f k l0 a1).bind fun bt102 => (if bt102.2 = true then (some (bt102.1, 0, 1)) else (if bt102.1 = 0 then (some (0, 0, 1)) else (if bt102.1 = (l0.length : Int) then (some (wrap64 (bt102.1 - 1), 0, 1)) else (if 0 ≤ (wrap64 (bt102.1 - 1)) then (if (wrap64 (bt102.1 - 1)) < (l0.length : Int) then (if 0 ≤ bt102.1 then (if bt102.1 < (l0.length : Int) then (some (wrap64 (bt102.1 - 1), wrap64 (a1 - (rd l0 (wrap64 (bt102.1 - 1)))), wrap64 ((rd l0 bt102.1) - (rd l0 (wrap64 (bt102.1 - 1)))))) else (none)) else (none)) else (none)) else (none)))))
theorem curve_where.mono : ∀ a0 a1 k, LeO (curve_where.f k a0 a1) (curve_where.f (k + 1) a0 a1) := by
  intro a0 a1 k
  unfold curve_where.f
  repeat' first
      | (with_reducible exact slices_BinarySearch_int_int.mono _ _ _)
      | (with_reducible exact LeO.refl _)
      | (with_reducible exact LeO.none _)
      | (with_reducible refine LeO.ite ?_ ?_)
      | (with_reducible refine LeO.bind ?_ (fun _ => ?_))
      | exact slices_BinarySearch_int_int.mono _ _ _
      | exact LeO.none _
      | refine LeO.ite ?_ ?_
      | refine LeO.bind ?_ (fun _ => ?_)
def curve_where.T8 : Bool × List (List Nat × List Nat) := (true, [([], []), ([0], [0]), ([], []), ([], []), ([], []), ([4], [4]), ([3, 5], [3, 5]), ([6], [6]), ([2, 7], [2, 7]), ([], []), ([], []), ([9, 10], [9, 10]), ([11], [11]), ([], []), ([], []), ([14], [14]), ([13, 15], [13, 15]), ([16], [16]), ([12, 17], [12, 17]), ([1, 8, 18], [1, 8, 18]), ([19, 0, 1, 2, 3, 4, 5, 6, 7, 8, 9, 10, 11, 12, 13, 14, 15, 16, 17, 18, 19], [19])])
def curve_where.B8 : List Nat := [0, 1, 0, 0, 0, 16, 56, 120, 252, 0, 0, 1536, 3584, 0, 0, 16384, 57344, 122880, 261632, 524287, 1048575]
theorem curve_where.tab8 : rtab .any (opsOf Try.f68 8) = curve_where.T8 := by kernel_rfl
theorem curve_where.bits8 : waitsOk curve_where.T8.2 curve_where.B8 = true := by kernel_rfl
set_option maxHeartbeats 8000000 in
set_option maxRecDepth 100000 in
theorem curve_where.calls (k : Nat) (A0 : Option Addr) (c0 : Nat) (l0 : List Int) (a1 : Int) (r1 : Int) (r2 : Int) (r3 : Int) (w : World) (hr0 : Kd.C (Kd.int .i64) w A0 l0.length l0) (hc0 : l0.length ≤ c0) (h : curve_where.f k l0 a1 = some (r1, r2, r3)) :
    Calls Try.prog 68 #[.slice A0 l0.length c0, .int .i64 a1] w fun e w' => e = .returned (.agg #[.int .i64 r1, .int .i64 r2, .int .i64 r3]) ∧ Below w.heap.size w w' := by
  have hu86 := Try.underlying86
  have HR0 := Aside0.mk hr0
  have HC0 := Aside0.mk hc0
  clear hr0 hc0
  have HB := Aside0.mk (Below.refl w.heap.size w)
  have H : ((slices_BinarySearch_int_int.f k l0 a1).bind fun bt102 => (if bt102.2 = true then (some (bt102.1, 0, 1)) else (if bt102.1 = 0 then (some (0, 0, 1)) else (if bt102.1 = (l0.length : Int) then (some (wrap64 (bt102.1 - 1), 0, 1)) else (if 0 ≤ (wrap64 (bt102.1 - 1)) then (if (wrap64 (bt102.1 - 1)) < (l0.length : Int) then (if 0 ≤ bt102.1 then (if bt102.1 < (l0.length : Int) then (some (wrap64 (bt102.1 - 1), wrap64 (a1 - (rd l0 (wrap64 (bt102.1 - 1)))), wrap64 ((rd l0 bt102.1) - (rd l0 (wrap64 (bt102.1 - 1)))))) else (none)) else (none)) else (none)) else (none)))))) = some (r1, r2, r3) := h
  clear h
  replace H := Option.bind_eq_some_iff.mp H
  obtain ⟨⟨t102, t103⟩, A30, H⟩ := H
  replace H : (if t103 = true then (some (t102, 0, 1)) else (if t102 = 0 then (some (0, 0, 1)) else (if t102 = (l0.length : Int) then (some (wrap64 (t102 - 1), 0, 1)) else (if 0 ≤ (wrap64 (t102 - 1)) then (if (wrap64 (t102 - 1)) < (l0.length : Int) then (if 0 ≤ t102 then (if t102 < (l0.length : Int) then (some (wrap64 (t102 - 1), wrap64 (a1 - (rd l0 (wrap64 (t102 - 1)))), wrap64 ((rd l0 t102) - (rd l0 (wrap64 (t102 - 1)))))) else (none)) else (none)) else (none)) else (none))))) = some (r1, r2, r3) := H
  have A3 := Aside0.mk A30
  clear A30
  by_cases c4 : t103 = true
  · subst c4
    have H1 : (some (t102, 0, 1)) = some (r1, r2, r3) := by rw [if_pos rfl] at H; exact H
    clear H
    have H := H1
    clear H1
    simp only [Option.some.injEq, Prod.mk.injEq] at H
    obtain ⟨rfl, rfl, rfl⟩ := H
    go_enter Try.func68, Try.ntmps68
    go_wp2_with (first | ((with_reducible refine gate_dst (N := 4) rfl ?_); refine box_event ?hg (N := 4) ?hd (cs := #[.int .i64 0, .int .i64 0, .int .i64 0]) (t := 86) ?hr ?_; (case hd => rfl); (case hg => rfl); (case hr => first | (go_simp; done) | (go_simp; rfl)); intro gb101 hg w5 hbox hb; have n0_ := Aside0.mk (below_step (by repeat (first | (with_reducible first | exact HB.out | apply qA | apply qN | apply qD) | exact HB.out)) hb); have n1_ := Aside0.mk (hbox); have n2_ := Aside0.mk ((by rw [hg]; exact (below_size (by repeat (first | (with_reducible first | exact HB.out | apply qA | apply qN | apply qD) | exact HB.out))) : w.heap.size ≤ gb101)); have n3_ := Aside0.mk ((by rw [hg]; exact (below_size (by repeat (first | (with_reducible first | exact HB.out | apply qA | apply qN | apply qD) | exact HB.out))) : w.heap.size ≤ gb101)); clear HB; have HB := n0_; have BK101 := n1_; have GW101 := n2_; have GE101 := n3_; clear n0_ n1_ n2_ n3_; clear hb hbox hg) | ((with_reducible refine gate_callee (f := 115) rfl ?_); refine goesL_ (some 10) rfl rfl Try.func115 (by kernel_rfl) rfl #[.slice A0 l0.length c0, .int .i64 a1] rfl (by (try simp only [List.map_toArray, List.map_cons, List.map_nil]); first | done | rfl | (simp only [List.length_drop, List.length_take]; rfl)) ?_; (with_reducible refine (slices_BinarySearch_int_int.calls k _ _ l0 a1 t102 true _ ?side1 ?side2 A3.out).mono ?_); (case side1 => repeat (first | exact (Kd.C_below HR0.out HB.out) | (with_reducible refine Kd.C_alloc ?_ _) | (with_reducible refine Kd.C_drewN ?_ _) | (with_reducible refine Kd.C_drew ?_))); (case side2 => exact HC0.out); rintro e w' ⟨rfl, ⟨nd, rfl⟩⟩; refine ⟨_, rfl, ?_⟩; (try (rw [drewN_self w5]; generalize hq_ : World.drewN w5 _ = w5; have n0_ : Aside0 (w5.heap[gb101]? = some (.cells #[.int .i64 0, .int .i64 0, .int .i64 0] 86 (0, 0))) := ⟨by rw [← hq_]; exact (by (with_reducible repeat (first | refine qn ?_ _ | refine qd ?_ | refine qa ?_ _)); exact BK101.out)⟩; have n1_ : Aside0 (Below w.heap.size w w5) := ⟨by rw [← hq_]; exact (by repeat (first | (with_reducible first | exact HB.out | apply qA | apply qN | apply qD | refine below_set ?_ GE101.out) | exact HB.out))⟩; clear BK101 HB hq_; have BK101 := n0_; have HB := n1_; clear n0_ n1_)); have hcz6_0 : w5.cell? ⟨gb101, 0, none⟩ = some (.int .i64 0) := (blk_cell BK101.out 0).trans rfl; have hcz6_1 : w5.cell? ⟨gb101, 1, none⟩ = some (.int .i64 0) := (blk_cell BK101.out 1).trans rfl; have hcz6_2 : w5.cell? ⟨gb101, 2, none⟩ = some (.int .i64 0) := (blk_cell BK101.out 2).trans rfl; have hfz6_0 := blk_frozen BK101.out 0; have hfz6_1 := blk_frozen BK101.out 1; have hfz6_2 := blk_frozen BK101.out 2))
    refine bodyPost_ret (results_cell_row rfl _ _ gb101 86 #[.int .i64 t102, .int .i64 0, .int .i64 1] (0, 0) _ rfl (by (with_reducible repeat (first | refine qn ?_ _ | refine qd ?_ | refine qa ?_ _)); refine blk_put (cs := #[.int .i64 t102, .int .i64 0, .int .i64 0]) ?_ 2 _ rfl; (with_reducible repeat (first | refine qn ?_ _ | refine qd ?_ | refine qa ?_ _)); refine blk_put (cs := #[.int .i64 t102, .int .i64 0, .int .i64 0]) ?_ 1 _ rfl; (with_reducible repeat (first | refine qn ?_ _ | refine qd ?_ | refine qa ?_ _)); refine blk_put (cs := #[.int .i64 0, .int .i64 0, .int .i64 0]) ?_ 0 _ rfl; (with_reducible repeat (first | refine qn ?_ _ | refine qd ?_ | refine qa ?_ _)); exact BK101.out) Try.underlying86 rfl (by kernel_rfl)) rfl ?_
    exact ⟨by first | rfl | (simp [errW_none, errW_some] <;> rfl) | (simp [*, errW_none, errW_some] <;> rfl), by repeat (first | (with_reducible first | exact HB.out | apply qA | apply qN | apply qD | refine below_set ?_ GE101.out) | exact HB.out)⟩
  · replace c4 := Bool.eq_false_iff.mpr c4
    subst c4
    have H1 : (if t102 = 0 then (some (0, 0, 1)) else (if t102 = (l0.length : Int) then (some (wrap64 (t102 - 1), 0, 1)) else (if 0 ≤ (wrap64 (t102 - 1)) then (if (wrap64 (t102 - 1)) < (l0.length : Int) then (if 0 ≤ t102 then (if t102 < (l0.length : Int) then (some (wrap64 (t102 - 1), wrap64 (a1 - (rd l0 (wrap64 (t102 - 1)))), wrap64 ((rd l0 t102) - (rd l0 (wrap64 (t102 - 1)))))) else (none)) else (none)) else (none)) else (none)))) = some (r1, r2, r3) := by rw [if_neg (show ¬ (false = true) by decide)] at H; exact H
    clear H
    have H := H1
    clear H1
    by_cases c7 : t102 = 0
    · rw [if_pos c7] at H
      have c7b0 : (t102 == 0) = true := beq_iff_eq.mpr c7
      have c7b1 : (t102 != 0) = false := bne_eq_false_iff_eq.mpr c7
      clear c7
      simp only [Option.some.injEq, Prod.mk.injEq] at H
      obtain ⟨rfl, rfl, rfl⟩ := H
      go_enter Try.func68, Try.ntmps68
      go_wp2_with (first | ((with_reducible refine gate_dst (N := 4) rfl ?_); refine box_event ?hg (N := 4) ?hd (cs := #[.int .i64 0, .int .i64 0, .int .i64 0]) (t := 86) ?hr ?_; (case hd => rfl); (case hg => rfl); (case hr => first | (go_simp; done) | (go_simp; rfl)); intro gb101 hg w8 hbox hb; have n0_ := Aside0.mk (below_step (by repeat (first | (with_reducible first | exact HB.out | apply qA | apply qN | apply qD) | exact HB.out)) hb); have n1_ := Aside0.mk (hbox); have n2_ := Aside0.mk ((by rw [hg]; exact (below_size (by repeat (first | (with_reducible first | exact HB.out | apply qA | apply qN | apply qD) | exact HB.out))) : w.heap.size ≤ gb101)); have n3_ := Aside0.mk ((by rw [hg]; exact (below_size (by repeat (first | (with_reducible first | exact HB.out | apply qA | apply qN | apply qD) | exact HB.out))) : w.heap.size ≤ gb101)); clear HB; have HB := n0_; have BK101 := n1_; have GW101 := n2_; have GE101 := n3_; clear n0_ n1_ n2_ n3_; clear hb hbox hg) | ((with_reducible refine gate_callee (f := 115) rfl ?_); refine goesL_ (some 10) rfl rfl Try.func115 (by kernel_rfl) rfl #[.slice A0 l0.length c0, .int .i64 a1] rfl (by (try simp only [List.map_toArray, List.map_cons, List.map_nil]); first | done | rfl | (simp only [List.length_drop, List.length_take]; rfl)) ?_; (with_reducible refine (slices_BinarySearch_int_int.calls k _ _ l0 a1 t102 false _ ?side1 ?side2 A3.out).mono ?_); (case side1 => repeat (first | exact (Kd.C_below HR0.out HB.out) | (with_reducible refine Kd.C_alloc ?_ _) | (with_reducible refine Kd.C_drewN ?_ _) | (with_reducible refine Kd.C_drew ?_))); (case side2 => exact HC0.out); rintro e w' ⟨rfl, ⟨nd, rfl⟩⟩; refine ⟨_, rfl, ?_⟩; (try (rw [drewN_self w8]; generalize hq_ : World.drewN w8 _ = w8; have n0_ : Aside0 (w8.heap[gb101]? = some (.cells #[.int .i64 0, .int .i64 0, .int .i64 0] 86 (0, 0))) := ⟨by rw [← hq_]; exact (by (with_reducible repeat (first | refine qn ?_ _ | refine qd ?_ | refine qa ?_ _)); exact BK101.out)⟩; have n1_ : Aside0 (Below w.heap.size w w8) := ⟨by rw [← hq_]; exact (by repeat (first | (with_reducible first | exact HB.out | apply qA | apply qN | apply qD | refine below_set ?_ GE101.out) | exact HB.out))⟩; clear BK101 HB hq_; have BK101 := n0_; have HB := n1_; clear n0_ n1_)); have hcz9_0 : w8.cell? ⟨gb101, 0, none⟩ = some (.int .i64 0) := (blk_cell BK101.out 0).trans rfl; have hcz9_1 : w8.cell? ⟨gb101, 1, none⟩ = some (.int .i64 0) := (blk_cell BK101.out 1).trans rfl; have hcz9_2 : w8.cell? ⟨gb101, 2, none⟩ = some (.int .i64 0) := (blk_cell BK101.out 2).trans rfl; have hfz9_0 := blk_frozen BK101.out 0; have hfz9_1 := blk_frozen BK101.out 1; have hfz9_2 := blk_frozen BK101.out 2))
      refine bodyPost_ret (results_cell_row rfl _ _ gb101 86 #[.int .i64 0, .int .i64 0, .int .i64 1] (0, 0) _ rfl (by (with_reducible repeat (first | refine qn ?_ _ | refine qd ?_ | refine qa ?_ _)); refine blk_put (cs := #[.int .i64 0, .int .i64 0, .int .i64 0]) ?_ 2 _ rfl; (with_reducible repeat (first | refine qn ?_ _ | refine qd ?_ | refine qa ?_ _)); refine blk_put (cs := #[.int .i64 0, .int .i64 0, .int .i64 0]) ?_ 1 _ rfl; (with_reducible repeat (first | refine qn ?_ _ | refine qd ?_ | refine qa ?_ _)); refine blk_put (cs := #[.int .i64 0, .int .i64 0, .int .i64 0]) ?_ 0 _ rfl; (with_reducible repeat (first | refine qn ?_ _ | refine qd ?_ | refine qa ?_ _)); exact BK101.out) Try.underlying86 rfl (by kernel_rfl)) rfl ?_
      exact ⟨by first | rfl | (simp [errW_none, errW_some] <;> rfl) | (simp [*, errW_none, errW_some] <;> rfl), by repeat (first | (with_reducible first | exact HB.out | apply qA | apply qN | apply qD | refine below_set ?_ GE101.out) | exact HB.out)⟩
    · rw [if_neg c7] at H
      have c7b0 : (t102 == 0) = false := beq_eq_false_iff_ne.mpr c7
      have c7b1 : (t102 != 0) = true := bne_iff_ne.mpr c7
      by_cases c10 : t102 = (l0.length : Int)
      · rw [if_pos c10] at H
        have c10b0 : (t102 == (l0.length : Int)) = true := beq_iff_eq.mpr c10
        have c10b1 : (t102 != (l0.length : Int)) = false := bne_eq_false_iff_eq.mpr c10
        clear c10
        simp only [Option.some.injEq, Prod.mk.injEq] at H
        obtain ⟨rfl, rfl, rfl⟩ := H
        go_enter Try.func68, Try.ntmps68
        go_wp2_with (first | ((with_reducible refine gate_dst (N := 4) rfl ?_); refine box_event ?hg (N := 4) ?hd (cs := #[.int .i64 0, .int .i64 0, .int .i64 0]) (t := 86) ?hr ?_; (case hd => rfl); (case hg => rfl); (case hr => first | (go_simp; done) | (go_simp; rfl)); intro gb101 hg w11 hbox hb; have n0_ := Aside0.mk (below_step (by repeat (first | (with_reducible first | exact HB.out | apply qA | apply qN | apply qD) | exact HB.out)) hb); have n1_ := Aside0.mk (hbox); have n2_ := Aside0.mk ((by rw [hg]; exact (below_size (by repeat (first | (with_reducible first | exact HB.out | apply qA | apply qN | apply qD) | exact HB.out))) : w.heap.size ≤ gb101)); have n3_ := Aside0.mk ((by rw [hg]; exact (below_size (by repeat (first | (with_reducible first | exact HB.out | apply qA | apply qN | apply qD) | exact HB.out))) : w.heap.size ≤ gb101)); clear HB; have HB := n0_; have BK101 := n1_; have GW101 := n2_; have GE101 := n3_; clear n0_ n1_ n2_ n3_; clear hb hbox hg) | ((with_reducible refine gate_callee (f := 115) rfl ?_); refine goesL_ (some 10) rfl rfl Try.func115 (by kernel_rfl) rfl #[.slice A0 l0.length c0, .int .i64 a1] rfl (by (try simp only [List.map_toArray, List.map_cons, List.map_nil]); first | done | rfl | (simp only [List.length_drop, List.length_take]; rfl)) ?_; (with_reducible refine (slices_BinarySearch_int_int.calls k _ _ l0 a1 t102 false _ ?side1 ?side2 A3.out).mono ?_); (case side1 => repeat (first | exact (Kd.C_below HR0.out HB.out) | (with_reducible refine Kd.C_alloc ?_ _) | (with_reducible refine Kd.C_drewN ?_ _) | (with_reducible refine Kd.C_drew ?_))); (case side2 => exact HC0.out); rintro e w' ⟨rfl, ⟨nd, rfl⟩⟩; refine ⟨_, rfl, ?_⟩; (try (rw [drewN_self w11]; generalize hq_ : World.drewN w11 _ = w11; have n0_ : Aside0 (w11.heap[gb101]? = some (.cells #[.int .i64 0, .int .i64 0, .int .i64 0] 86 (0, 0))) := ⟨by rw [← hq_]; exact (by (with_reducible repeat (first | refine qn ?_ _ | refine qd ?_ | refine qa ?_ _)); exact BK101.out)⟩; have n1_ : Aside0 (Below w.heap.size w w11) := ⟨by rw [← hq_]; exact (by repeat (first | (with_reducible first | exact HB.out | apply qA | apply qN | apply qD | refine below_set ?_ GE101.out) | exact HB.out))⟩; clear BK101 HB hq_; have BK101 := n0_; have HB := n1_; clear n0_ n1_)); have hcz12_0 : w11.cell? ⟨gb101, 0, none⟩ = some (.int .i64 0) := (blk_cell BK101.out 0).trans rfl; have hcz12_1 : w11.cell? ⟨gb101, 1, none⟩ = some (.int .i64 0) := (blk_cell BK101.out 1).trans rfl; have hcz12_2 : w11.cell? ⟨gb101, 2, none⟩ = some (.int .i64 0) := (blk_cell BK101.out 2).trans rfl; have hfz12_0 := blk_frozen BK101.out 0; have hfz12_1 := blk_frozen BK101.out 1; have hfz12_2 := blk_frozen BK101.out 2))
        refine bodyPost_ret (results_cell_row rfl _ _ gb101 86 #[.int .i64 (wrap64 (t102 - 1)), .int .i64 0, .int .i64 1] (0, 0) _ rfl (by (with_reducible repeat (first | refine qn ?_ _ | refine qd ?_ | refine qa ?_ _)); refine blk_put (cs := #[.int .i64 (wrap64 (t102 - 1)), .int .i64 0, .int .i64 0]) ?_ 2 _ rfl; (with_reducible repeat (first | refine qn ?_ _ | refine qd ?_ | refine qa ?_ _)); refine blk_put (cs := #[.int .i64 (wrap64 (t102 - 1)), .int .i64 0, .int .i64 0]) ?_ 1 _ rfl; (with_reducible repeat (first | refine qn ?_ _ | refine qd ?_ | refine qa ?_ _)); refine blk_put (cs := #[.int .i64 0, .int .i64 0, .int .i64 0]) ?_ 0 _ rfl; (with_reducible repeat (first | refine qn ?_ _ | refine qd ?_ | refine qa ?_ _)); exact BK101.out) Try.underlying86 rfl (by kernel_rfl)) rfl ?_
        exact ⟨by first | rfl | (simp [errW_none, errW_some] <;> rfl) | (simp [*, errW_none, errW_some] <;> rfl), by repeat (first | (with_reducible first | exact HB.out | apply qA | apply qN | apply qD | refine below_set ?_ GE101.out) | exact HB.out)⟩
      · rw [if_neg c10] at H
        have c10b0 : (t102 == (l0.length : Int)) = false := beq_eq_false_iff_ne.mpr c10
        have c10b1 : (t102 != (l0.length : Int)) = true := bne_iff_ne.mpr c10
        obtain ⟨ji13, hji13⟩ : ∃ j_ : Int, (wrap64 (t102 - 1)) = j_ := ⟨_, rfl⟩
        replace H : (if 0 ≤ (ji13) then (if (ji13) < (l0.length : Int) then (if 0 ≤ t102 then (if t102 < (l0.length : Int) then (some (ji13, wrap64 (a1 - (rd l0 (ji13))), wrap64 ((rd l0 t102) - (rd l0 (ji13))))) else (none)) else (none)) else (none)) else (none)) = some (r1, r2, r3) := by first | (rw [hji13] at H; exact H) | (simp only [hji13] at H ⊢; exact H)
        (try rw [hji13] at A3)
        have hji13w : (IntKind.i64.wrap (t102 - 1)) = ji13 := (i64_w _).trans hji13
        by_cases c14 : 0 ≤ (ji13)
        · rw [if_pos c14] at H
          have c14b0 : decide (0 ≤ (ji13)) = true := decide_eq_true c14
          clear c14
          by_cases c15 : (ji13) < (l0.length : Int)
          · rw [if_pos c15] at H
            have c15b0 : decide ((ji13) < (l0.length : Int)) = true := decide_eq_true c15
            clear c15
            by_cases c16 : 0 ≤ t102
            · rw [if_pos c16] at H
              have c16b0 : decide (0 ≤ t102) = true := decide_eq_true c16
              clear c16
              by_cases c17 : t102 < (l0.length : Int)
              · rw [if_pos c17] at H
                have c17b0 : decide (t102 < (l0.length : Int)) = true := decide_eq_true c17
                clear c17
                simp only [Option.some.injEq, Prod.mk.injEq] at H
                obtain ⟨rfl, rfl, rfl⟩ := H
                go_enter Try.func68, Try.ntmps68
                try go_wp2_with (first | ((with_reducible refine gate_dst (N := 4) rfl ?_); refine box_event ?hg (N := 4) ?hd (cs := #[.int .i64 0, .int .i64 0, .int .i64 0]) (t := 86) ?hr ?_; (case hd => rfl); (case hg => rfl); (case hr => first | (go_simp; done) | (go_simp; rfl)); intro gb101 hg w18 hbox hb; have n0_ := Aside0.mk (below_step (by repeat (first | (with_reducible first | exact HB.out | apply qA | apply qN | apply qD) | exact HB.out)) hb); have n1_ := Aside0.mk (hbox); have n2_ := Aside0.mk ((by rw [hg]; exact (below_size (by repeat (first | (with_reducible first | exact HB.out | apply qA | apply qN | apply qD) | exact HB.out))) : w.heap.size ≤ gb101)); have n3_ := Aside0.mk ((by rw [hg]; exact (below_size (by repeat (first | (with_reducible first | exact HB.out | apply qA | apply qN | apply qD) | exact HB.out))) : w.heap.size ≤ gb101)); clear HB; have HB := n0_; have BK101 := n1_; have GW101 := n2_; have GE101 := n3_; clear n0_ n1_ n2_ n3_; clear hb hbox hg) | ((with_reducible refine gate_callee (f := 115) rfl ?_); refine goesL_ (some 10) rfl rfl Try.func115 (by kernel_rfl) rfl #[.slice A0 l0.length c0, .int .i64 a1] rfl (by (try simp only [List.map_toArray, List.map_cons, List.map_nil]); first | done | rfl | (simp only [List.length_drop, List.length_take]; rfl)) ?_; (with_reducible refine (slices_BinarySearch_int_int.calls k _ _ l0 a1 t102 false _ ?side1 ?side2 A3.out).mono ?_); (case side1 => repeat (first | exact (Kd.C_below HR0.out HB.out) | (with_reducible refine Kd.C_alloc ?_ _) | (with_reducible refine Kd.C_drewN ?_ _) | (with_reducible refine Kd.C_drew ?_))); (case side2 => exact HC0.out); rintro e w' ⟨rfl, ⟨nd, rfl⟩⟩; refine ⟨_, rfl, ?_⟩; (try (rw [drewN_self w18]; generalize hq_ : World.drewN w18 _ = w18; have n0_ : Aside0 (w18.heap[gb101]? = some (.cells #[.int .i64 0, .int .i64 0, .int .i64 0] 86 (0, 0))) := ⟨by rw [← hq_]; exact (by (with_reducible repeat (first | refine qn ?_ _ | refine qd ?_ | refine qa ?_ _)); exact BK101.out)⟩; have n1_ : Aside0 (Below w.heap.size w w18) := ⟨by rw [← hq_]; exact (by repeat (first | (with_reducible first | exact HB.out | apply qA | apply qN | apply qD | refine below_set ?_ GE101.out) | exact HB.out))⟩; clear BK101 HB hq_; have BK101 := n0_; have HB := n1_; clear n0_ n1_))))
                have n0_ := Aside0.mk (blk_drew BK101.out)
                have n1_ := Aside0.mk (qD HB.out)
                clear BK101
                clear HB
                have BK101 := n0_
                have HB := n1_
                clear n0_ n1_
                have p104 : 0 ≤ ((ji13) : Int) := of_decide_eq_true (by first | (with_reducible assumption) | assumption)
                have q104 : (ji13) < (l0.length : Int) := of_decide_eq_true (by first | (with_reducible assumption) | assumption)
                obtain ⟨ad104, e104, hx104_0⟩ := Kd.at_int HR0.out (ji13) p104 q104
                have hw104_0 := hx104_0
                cases e104
                replace hx104_0 := (HB.out.cell (World.block_lt_of_cell? w _ hx104_0)).trans hx104_0
                replace p104 := eq_true p104
                replace q104 := eq_true q104
                have p105 : 0 ≤ (t102 : Int) := of_decide_eq_true (by first | (with_reducible assumption) | assumption)
                have q105 : t102 < (l0.length : Int) := of_decide_eq_true (by first | (with_reducible assumption) | assumption)
                obtain ⟨ad105, e105, hx105_0⟩ := Kd.at_int HR0.out t102 p105 q105
                have hw105_0 := hx105_0
                obtain rfl : ad104 = ad105 := (by injection e105)
                replace hx105_0 := (HB.out.cell (World.block_lt_of_cell? w _ hx105_0)).trans hx105_0
                replace p105 := eq_true p105
                replace q105 := eq_true q105
                have p106 : 0 ≤ ((ji13) : Int) := of_decide_eq_true (by first | (with_reducible assumption) | assumption)
                have q106 : (ji13) < (l0.length : Int) := of_decide_eq_true (by first | (with_reducible assumption) | assumption)
                obtain ⟨ad106, e106, hx106_0⟩ := Kd.at_int HR0.out (ji13) p106 q106
                have hw106_0 := hx106_0
                obtain rfl : ad104 = ad106 := (by injection e106)
                replace hx106_0 := (HB.out.cell (World.block_lt_of_cell? w _ hx106_0)).trans hx106_0
                replace p106 := eq_true p106
                replace q106 := eq_true q106
                refine start_ (n := 21) (S := fun w' => w'.cell? (ad104.add ((ji13)).toNat) = some (.int .i64 (rd l0 (ji13))) ∧ w'.cell? (ad104.add (t102).toNat) = some (.int .i64 (rd l0 t102)) ∧ w'.cell? (ad104.add ((ji13)).toNat) = some (.int .i64 (rd l0 (ji13)))) (ds := []) #[false, false, false, false, false, false, false, false, false, false, false, false, false, false, false, false, false, false, false, false, false] (by kernel_rfl) rfl rfl ⟨((HB.out.cell (World.block_lt_of_cell? w _ hw104_0)).trans hw104_0), ((HB.out.cell (World.block_lt_of_cell? w _ hw105_0)).trans hw105_0), ((HB.out.cell (World.block_lt_of_cell? w _ hw106_0)).trans hw106_0)⟩ (fun hHeld => ?_); refine with_tabW curve_where.tab8 curve_where.bits8 (fun HT_ HW_ => ?_)
                generalize w18.drew = w19 at BK101 HB hx104_0 hx105_0 hx106_0 hHeld ⊢
                refine pure_ (i := 0) (N := some 29) (v := ?_) (a' := ?_) #[true, false, false, false, false, false, false, false, false, false, false, false, false, false, false, false, false, false, false, false, false] rfl rfl (any_of HT_.out (by kernel_rfl)) (fun _ _ _ h => h) (Or.inl ⟨by rfl, ?_⟩) ?_ ?_
                rotate_left
                · intro w'
                  go_simp
                  with_reducible rfl
                rotate_left
                · simp only [Act.put, List.setIfInBounds_toArray, List.set_cons_zero, List.set_cons_succ, i64_w, i32_w]
                  rfl
                refine pure_ (i := 1) (N := some 30) (v := ?_) (a' := ?_) #[true, true, false, false, false, false, false, false, false, false, false, false, false, false, false, false, false, false, false, false, false] rfl rfl (any_of HT_.out (by kernel_rfl)) (fun _ _ _ h => h) (Or.inl ⟨by rfl, ?_⟩) ?_ ?_
                rotate_left
                · intro w'
                  go_simp
                  with_reducible rfl
                rotate_left
                · simp only [Act.put, List.setIfInBounds_toArray, List.set_cons_zero, List.set_cons_succ, i64_w, i32_w]
                  rfl
                refine pure_ (i := 2) (N := some 31) (v := ?_) (a' := ?_) #[true, true, true, false, false, false, false, false, false, false, false, false, false, false, false, false, false, false, false, false, false] rfl rfl (any_of HT_.out (by kernel_rfl)) (fun _ _ _ h => h) (Or.inl ⟨by rfl, ?_⟩) ?_ ?_
                rotate_left
                · intro w'
                  go_simp
                  with_reducible rfl
                rotate_left
                · simp only [Act.put, List.setIfInBounds_toArray, List.set_cons_zero, List.set_cons_succ, i64_w, i32_w]
                  rfl
                refine pure_ (i := 3) (N := some 32) (v := ?_) (a' := ?_) #[true, true, true, true, false, false, false, false, false, false, false, false, false, false, false, false, false, false, false, false, false] rfl rfl (any_of HT_.out (by kernel_rfl)) (fun _ _ _ h => h) (Or.inl ⟨by rfl, ?_⟩) ?_ ?_
                rotate_left
                · intro w'
                  go_simp
                  with_reducible rfl
                rotate_left
                · simp only [Act.put, List.setIfInBounds_toArray, List.set_cons_zero, List.set_cons_succ, i64_w, i32_w]
                  rfl
                refine pure_ (i := 4) (N := some 33) (v := ?_) (a' := ?_) #[true, true, true, true, true, false, false, false, false, false, false, false, false, false, false, false, false, false, false, false, false] rfl rfl (any_of HT_.out (by kernel_rfl)) (fun _ _ _ h => h) (Or.inl ⟨by rfl, ?_⟩) ?_ ?_
                rotate_left
                · intro w'
                  go_simp
                  with_reducible rfl
                rotate_left
                · simp only [Act.put, List.setIfInBounds_toArray, List.set_cons_zero, List.set_cons_succ, i64_w, i32_w]
                  rfl
                refine pure_ (i := 5) (N := some 34) (v := ?_) (a' := ?_) #[true, true, true, true, true, true, false, false, false, false, false, false, false, false, false, false, false, false, false, false, false] rfl rfl (any_of HT_.out (by kernel_rfl)) (fun _ _ _ h => h) (Or.inl ⟨by rfl, ?_⟩) ?_ ?_
                rotate_left
                · intro w'
                  go_simp
                  with_reducible rfl
                rotate_left
                · simp only [Act.put, List.setIfInBounds_toArray, List.set_cons_zero, List.set_cons_succ, i64_w, i32_w]
                  rfl
                refine pure_ (i := 6) (N := some 35) (v := ?_) (a' := ?_) #[true, true, true, true, true, true, true, false, false, false, false, false, false, false, false, false, false, false, false, false, false] rfl rfl (any_of HT_.out (by kernel_rfl)) (fun _ _ _ h => h) (Or.inl ⟨by rfl, ?_⟩) ?_ ?_
                rotate_left
                · intro w'
                  go_simp
                  with_reducible rfl
                rotate_left
                · simp only [Act.put, List.setIfInBounds_toArray, List.set_cons_zero, List.set_cons_succ, i64_w, i32_w]
                  rfl
                refine pure_ (i := 9) (N := some 38) (v := ?_) (a' := ?_) #[true, true, true, true, true, true, true, false, false, true, false, false, false, false, false, false, false, false, false, false, false] rfl rfl (any_of HT_.out (by kernel_rfl)) (fun _ _ _ h => h) (Or.inl ⟨by rfl, ?_⟩) ?_ ?_
                rotate_left
                · intro w'
                  go_simp
                  with_reducible rfl
                rotate_left
                · simp only [Act.put, List.setIfInBounds_toArray, List.set_cons_zero, List.set_cons_succ, i64_w, i32_w]
                  rfl
                refine pure_ (i := 10) (N := some 39) (v := ?_) (a' := ?_) #[true, true, true, true, true, true, true, false, false, true, true, false, false, false, false, false, false, false, false, false, false] rfl rfl (any_of HT_.out (by kernel_rfl)) (fun _ _ _ h => h) (Or.inl ⟨by rfl, ?_⟩) ?_ ?_
                rotate_left
                · intro w'
                  go_simp
                  with_reducible rfl
                rotate_left
                · simp only [Act.put, List.setIfInBounds_toArray, List.set_cons_zero, List.set_cons_succ, i64_w, i32_w]
                  rfl
                refine pure_ (i := 11) (N := some 40) (v := ?_) (a' := ?_) #[true, true, true, true, true, true, true, false, false, true, true, true, false, false, false, false, false, false, false, false, false] rfl rfl (any_of HT_.out (by kernel_rfl)) (fun _ _ _ h => h) (Or.inl ⟨by rfl, ?_⟩) ?_ ?_
                rotate_left
                · intro w'
                  go_simp
                  with_reducible rfl
                rotate_left
                · simp only [Act.put, List.setIfInBounds_toArray, List.set_cons_zero, List.set_cons_succ, i64_w, i32_w]
                  rfl
                refine pure_ (i := 13) (N := some 42) (v := ?_) (a' := ?_) #[true, true, true, true, true, true, true, false, false, true, true, true, false, true, false, false, false, false, false, false, false] rfl rfl (any_of HT_.out (by kernel_rfl)) (fun _ _ _ h => h) (Or.inl ⟨by rfl, ?_⟩) ?_ ?_
                rotate_left
                · intro w'
                  go_simp
                  with_reducible rfl
                rotate_left
                · simp only [Act.put, List.setIfInBounds_toArray, List.set_cons_zero, List.set_cons_succ, i64_w, i32_w]
                  rfl
                refine pure_ (i := 14) (N := some 43) (v := ?_) (a' := ?_) #[true, true, true, true, true, true, true, false, false, true, true, true, false, true, true, false, false, false, false, false, false] rfl rfl (any_of HT_.out (by kernel_rfl)) (fun _ _ _ h => h) (Or.inl ⟨by rfl, ?_⟩) ?_ ?_
                rotate_left
                · intro w'
                  go_simp
                  with_reducible rfl
                rotate_left
                · simp only [Act.put, List.setIfInBounds_toArray, List.set_cons_zero, List.set_cons_succ, i64_w, i32_w]
                  rfl
                refine pure_ (i := 15) (N := some 44) (v := ?_) (a' := ?_) #[true, true, true, true, true, true, true, false, false, true, true, true, false, true, true, true, false, false, false, false, false] rfl rfl (any_of HT_.out (by kernel_rfl)) (fun _ _ _ h => h) (Or.inl ⟨by rfl, ?_⟩) ?_ ?_
                rotate_left
                · intro w'
                  go_simp
                  with_reducible rfl
                rotate_left
                · simp only [Act.put, List.setIfInBounds_toArray, List.set_cons_zero, List.set_cons_succ, i64_w, i32_w]
                  rfl
                refine pure_ (i := 16) (N := some 45) (v := ?_) (a' := ?_) #[true, true, true, true, true, true, true, false, false, true, true, true, false, true, true, true, true, false, false, false, false] rfl rfl (any_of HT_.out (by kernel_rfl)) (fun _ _ _ h => h) (Or.inl ⟨by rfl, ?_⟩) ?_ ?_
                rotate_left
                · intro w'
                  go_simp
                  with_reducible rfl
                rotate_left
                · simp only [Act.put, List.setIfInBounds_toArray, List.set_cons_zero, List.set_cons_succ, i64_w, i32_w]
                  rfl
                refine take_ (i := 7) (N := some 36) (v := ?_) (a' := ?_) #[true, true, true, true, true, true, true, true, false, true, true, true, false, true, true, true, true, false, false, false, false] rfl rfl (take_ofW HT_.out HW_.out (by kernel_rfl)) (fun _ _ _ h => h) (Or.inl ⟨by rfl, ?_⟩) hHeld ?_ ?_
                rotate_left
                · rintro w' ⟨s0, s1, s2⟩
                  go_simp
                  with_reducible rfl
                rotate_left
                · simp only [Act.put, List.setIfInBounds_toArray, List.set_cons_zero, List.set_cons_succ, i64_w, i32_w]
                  rfl
                refine pure_ (i := 8) (N := some 37) (v := ?_) (a' := ?_) #[true, true, true, true, true, true, true, true, true, true, true, true, false, true, true, true, true, false, false, false, false] rfl rfl (any_of HT_.out (by kernel_rfl)) (fun _ _ _ h => h) (Or.inl ⟨by rfl, ?_⟩) ?_ ?_
                rotate_left
                · intro w'
                  go_simp
                  with_reducible rfl
                rotate_left
                · simp only [Act.put, List.setIfInBounds_toArray, List.set_cons_zero, List.set_cons_succ, i64_w, i32_w]
                  rfl
                refine take_ (i := 12) (N := some 41) (v := ?_) (a' := ?_) #[true, true, true, true, true, true, true, true, true, true, true, true, true, true, true, true, true, false, false, false, false] rfl rfl (take_ofW HT_.out HW_.out (by kernel_rfl)) (fun _ _ _ h => h) (Or.inl ⟨by rfl, ?_⟩) hHeld ?_ ?_
                rotate_left
                · rintro w' ⟨s0, s1, s2⟩
                  go_simp
                  with_reducible rfl
                rotate_left
                · simp only [Act.put, List.setIfInBounds_toArray, List.set_cons_zero, List.set_cons_succ, i64_w, i32_w]
                  rfl
                refine take_ (i := 17) (N := some 46) (v := ?_) (a' := ?_) #[true, true, true, true, true, true, true, true, true, true, true, true, true, true, true, true, true, true, false, false, false] rfl rfl (take_ofW HT_.out HW_.out (by kernel_rfl)) (fun _ _ _ h => h) (Or.inl ⟨by rfl, ?_⟩) hHeld ?_ ?_
                rotate_left
                · rintro w' ⟨s0, s1, s2⟩
                  go_simp
                  with_reducible rfl
                rotate_left
                · simp only [Act.put, List.setIfInBounds_toArray, List.set_cons_zero, List.set_cons_succ, i64_w, i32_w]
                  rfl
                refine pure_ (i := 18) (N := some 47) (v := ?_) (a' := ?_) #[true, true, true, true, true, true, true, true, true, true, true, true, true, true, true, true, true, true, true, false, false] rfl rfl (any_of HT_.out (by kernel_rfl)) (fun _ _ _ h => h) (Or.inl ⟨by rfl, ?_⟩) ?_ ?_
                rotate_left
                · intro w'
                  go_simp
                  with_reducible rfl
                rotate_left
                · simp only [Act.put, List.setIfInBounds_toArray, List.set_cons_zero, List.set_cons_succ, i64_w, i32_w]
                  rfl
                refine pure_ (i := 19) (N := some 48) (v := ?_) (a' := ?_) #[true, true, true, true, true, true, true, true, true, true, true, true, true, true, true, true, true, true, true, true, false] rfl rfl (any_of HT_.out (by kernel_rfl)) (fun _ _ _ h => h) (Or.inl ⟨by rfl, ?_⟩) ?_ ?_
                rotate_left
                · intro w'
                  go_simp
                  with_reducible rfl
                rotate_left
                · simp only [Act.put, List.setIfInBounds_toArray, List.set_cons_zero, List.set_cons_succ, i64_w, i32_w]
                  rfl
                refine one_ (i := 20) (N := none) #[true, true, true, true, true, true, true, true, true, true, true, true, true, true, true, true, true, true, true, true, true] rfl rfl (one_of HT_.out (by kernel_rfl)) (by decide) (fun K hK => ?_)
                have hs20 : w19.cell? ⟨gb101, 0, none⟩ = some (.int .i64 0) := (blk_cell BK101.out 0).trans rfl
                have hfs20 := blk_frozen BK101.out 0
                have hs21 : w19.cell? ⟨gb101, 1, none⟩ = some (.int .i64 0) := (blk_cell BK101.out 1).trans rfl
                have hfs21 := blk_frozen BK101.out 1
                have hs22 : w19.cell? ⟨gb101, 2, none⟩ = some (.int .i64 0) := (blk_cell BK101.out 2).trans rfl
                have hfs22 := blk_frozen BK101.out 2
                refine skip_ (w1 := ?_) (by rfl) rfl ?_ ?_
                rotate_left
                · go_simp
                  rfl
                refine hK.out _ _ ⟨((cell_far (p := ⟨gb101, _, none⟩) (by first | exact Nat.ne_of_lt (Nat.lt_of_lt_of_le (by have := World.block_lt_of_cell? _ _ hw104_0; first | rwa [add_block] at this | exact this) GW101.out) | (rw [add_block]; exact Nat.ne_of_lt (Nat.lt_of_lt_of_le (by have := World.block_lt_of_cell? _ _ hw104_0; first | rwa [add_block] at this | exact this) GW101.out)) | (show (Addr.add _ _).block ≠ _; rw [add_block]; exact Nat.ne_of_lt (Nat.lt_of_lt_of_le (by have := World.block_lt_of_cell? _ _ hw104_0; first | rwa [add_block] at this | exact this) GW101.out)) | (dsimp only; exact Nat.ne_of_lt (Nat.lt_of_lt_of_le (by have := World.block_lt_of_cell? _ _ hw104_0; first | rwa [add_block] at this | exact this) GW101.out))) _).trans (((cell_far (p := ⟨gb101, _, none⟩) (by first | exact Nat.ne_of_lt (Nat.lt_of_lt_of_le (by have := World.block_lt_of_cell? _ _ hw104_0; first | rwa [add_block] at this | exact this) GW101.out) | (rw [add_block]; exact Nat.ne_of_lt (Nat.lt_of_lt_of_le (by have := World.block_lt_of_cell? _ _ hw104_0; first | rwa [add_block] at this | exact this) GW101.out)) | (show (Addr.add _ _).block ≠ _; rw [add_block]; exact Nat.ne_of_lt (Nat.lt_of_lt_of_le (by have := World.block_lt_of_cell? _ _ hw104_0; first | rwa [add_block] at this | exact this) GW101.out)) | (dsimp only; exact Nat.ne_of_lt (Nat.lt_of_lt_of_le (by have := World.block_lt_of_cell? _ _ hw104_0; first | rwa [add_block] at this | exact this) GW101.out))) _).trans (((cell_far (p := ⟨gb101, _, none⟩) (by first | exact Nat.ne_of_lt (Nat.lt_of_lt_of_le (by have := World.block_lt_of_cell? _ _ hw104_0; first | rwa [add_block] at this | exact this) GW101.out) | (rw [add_block]; exact Nat.ne_of_lt (Nat.lt_of_lt_of_le (by have := World.block_lt_of_cell? _ _ hw104_0; first | rwa [add_block] at this | exact this) GW101.out)) | (show (Addr.add _ _).block ≠ _; rw [add_block]; exact Nat.ne_of_lt (Nat.lt_of_lt_of_le (by have := World.block_lt_of_cell? _ _ hw104_0; first | rwa [add_block] at this | exact this) GW101.out)) | (dsimp only; exact Nat.ne_of_lt (Nat.lt_of_lt_of_le (by have := World.block_lt_of_cell? _ _ hw104_0; first | rwa [add_block] at this | exact this) GW101.out))) _).trans (hHeld.1)))))), ((cell_far (p := ⟨gb101, _, none⟩) (by first | exact Nat.ne_of_lt (Nat.lt_of_lt_of_le (by have := World.block_lt_of_cell? _ _ hw105_0; first | rwa [add_block] at this | exact this) GW101.out) | (rw [add_block]; exact Nat.ne_of_lt (Nat.lt_of_lt_of_le (by have := World.block_lt_of_cell? _ _ hw105_0; first | rwa [add_block] at this | exact this) GW101.out)) | (show (Addr.add _ _).block ≠ _; rw [add_block]; exact Nat.ne_of_lt (Nat.lt_of_lt_of_le (by have := World.block_lt_of_cell? _ _ hw105_0; first | rwa [add_block] at this | exact this) GW101.out)) | (dsimp only; exact Nat.ne_of_lt (Nat.lt_of_lt_of_le (by have := World.block_lt_of_cell? _ _ hw105_0; first | rwa [add_block] at this | exact this) GW101.out))) _).trans (((cell_far (p := ⟨gb101, _, none⟩) (by first | exact Nat.ne_of_lt (Nat.lt_of_lt_of_le (by have := World.block_lt_of_cell? _ _ hw105_0; first | rwa [add_block] at this | exact this) GW101.out) | (rw [add_block]; exact Nat.ne_of_lt (Nat.lt_of_lt_of_le (by have := World.block_lt_of_cell? _ _ hw105_0; first | rwa [add_block] at this | exact this) GW101.out)) | (show (Addr.add _ _).block ≠ _; rw [add_block]; exact Nat.ne_of_lt (Nat.lt_of_lt_of_le (by have := World.block_lt_of_cell? _ _ hw105_0; first | rwa [add_block] at this | exact this) GW101.out)) | (dsimp only; exact Nat.ne_of_lt (Nat.lt_of_lt_of_le (by have := World.block_lt_of_cell? _ _ hw105_0; first | rwa [add_block] at this | exact this) GW101.out))) _).trans (((cell_far (p := ⟨gb101, _, none⟩) (by first | exact Nat.ne_of_lt (Nat.lt_of_lt_of_le (by have := World.block_lt_of_cell? _ _ hw105_0; first | rwa [add_block] at this | exact this) GW101.out) | (rw [add_block]; exact Nat.ne_of_lt (Nat.lt_of_lt_of_le (by have := World.block_lt_of_cell? _ _ hw105_0; first | rwa [add_block] at this | exact this) GW101.out)) | (show (Addr.add _ _).block ≠ _; rw [add_block]; exact Nat.ne_of_lt (Nat.lt_of_lt_of_le (by have := World.block_lt_of_cell? _ _ hw105_0; first | rwa [add_block] at this | exact this) GW101.out)) | (dsimp only; exact Nat.ne_of_lt (Nat.lt_of_lt_of_le (by have := World.block_lt_of_cell? _ _ hw105_0; first | rwa [add_block] at this | exact this) GW101.out))) _).trans (hHeld.2.1)))))), ((cell_far (p := ⟨gb101, _, none⟩) (by first | exact Nat.ne_of_lt (Nat.lt_of_lt_of_le (by have := World.block_lt_of_cell? _ _ hw106_0; first | rwa [add_block] at this | exact this) GW101.out) | (rw [add_block]; exact Nat.ne_of_lt (Nat.lt_of_lt_of_le (by have := World.block_lt_of_cell? _ _ hw106_0; first | rwa [add_block] at this | exact this) GW101.out)) | (show (Addr.add _ _).block ≠ _; rw [add_block]; exact Nat.ne_of_lt (Nat.lt_of_lt_of_le (by have := World.block_lt_of_cell? _ _ hw106_0; first | rwa [add_block] at this | exact this) GW101.out)) | (dsimp only; exact Nat.ne_of_lt (Nat.lt_of_lt_of_le (by have := World.block_lt_of_cell? _ _ hw106_0; first | rwa [add_block] at this | exact this) GW101.out))) _).trans (((cell_far (p := ⟨gb101, _, none⟩) (by first | exact Nat.ne_of_lt (Nat.lt_of_lt_of_le (by have := World.block_lt_of_cell? _ _ hw106_0; first | rwa [add_block] at this | exact this) GW101.out) | (rw [add_block]; exact Nat.ne_of_lt (Nat.lt_of_lt_of_le (by have := World.block_lt_of_cell? _ _ hw106_0; first | rwa [add_block] at this | exact this) GW101.out)) | (show (Addr.add _ _).block ≠ _; rw [add_block]; exact Nat.ne_of_lt (Nat.lt_of_lt_of_le (by have := World.block_lt_of_cell? _ _ hw106_0; first | rwa [add_block] at this | exact this) GW101.out)) | (dsimp only; exact Nat.ne_of_lt (Nat.lt_of_lt_of_le (by have := World.block_lt_of_cell? _ _ hw106_0; first | rwa [add_block] at this | exact this) GW101.out))) _).trans (((cell_far (p := ⟨gb101, _, none⟩) (by first | exact Nat.ne_of_lt (Nat.lt_of_lt_of_le (by have := World.block_lt_of_cell? _ _ hw106_0; first | rwa [add_block] at this | exact this) GW101.out) | (rw [add_block]; exact Nat.ne_of_lt (Nat.lt_of_lt_of_le (by have := World.block_lt_of_cell? _ _ hw106_0; first | rwa [add_block] at this | exact this) GW101.out)) | (show (Addr.add _ _).block ≠ _; rw [add_block]; exact Nat.ne_of_lt (Nat.lt_of_lt_of_le (by have := World.block_lt_of_cell? _ _ hw106_0; first | rwa [add_block] at this | exact this) GW101.out)) | (dsimp only; exact Nat.ne_of_lt (Nat.lt_of_lt_of_le (by have := World.block_lt_of_cell? _ _ hw106_0; first | rwa [add_block] at this | exact this) GW101.out))) _).trans (hHeld.2.2))))))⟩ (fun hHeld => ?_)
                clear hK K
                refine done_ (done_of HT_.out (by kernel_rfl)) ?_
                try go_wp2
                refine bodyPost_ret (results_cell_row rfl _ _ gb101 86 #[.int .i64 ji13, .int .i64 (wrap64 (a1 - (rd l0 (ji13)))), .int .i64 (wrap64 ((rd l0 t102) - (rd l0 (ji13))))] (0, 0) _ rfl (by (with_reducible repeat (first | refine qn ?_ _ | refine qd ?_ | refine qa ?_ _)); refine blk_put (cs := #[.int .i64 ji13, .int .i64 (wrap64 (a1 - (rd l0 (ji13)))), .int .i64 0]) ?_ 2 _ rfl; (with_reducible repeat (first | refine qn ?_ _ | refine qd ?_ | refine qa ?_ _)); refine blk_put (cs := #[.int .i64 ji13, .int .i64 0, .int .i64 0]) ?_ 1 _ rfl; (with_reducible repeat (first | refine qn ?_ _ | refine qd ?_ | refine qa ?_ _)); refine blk_put (cs := #[.int .i64 0, .int .i64 0, .int .i64 0]) ?_ 0 _ rfl; (with_reducible repeat (first | refine qn ?_ _ | refine qd ?_ | refine qa ?_ _)); exact BK101.out) Try.underlying86 rfl (by kernel_rfl)) rfl ?_
                exact ⟨by first | rfl | (simp [errW_none, errW_some] <;> rfl) | (simp only [← hji13]; first | rfl | (simp [errW_none, errW_some] <;> rfl)) | (simp [*, errW_none, errW_some] <;> rfl), by repeat (first | (with_reducible first | exact HB.out | apply qA | apply qN | apply qD | refine below_set ?_ GE101.out) | exact HB.out)⟩
              · rw [if_neg c17] at H
                exact absurd H (by simp)
            · rw [if_neg c16] at H
              exact absurd H (by simp)
          · rw [if_neg c15] at H
            exact absurd H (by simp)
        · rw [if_neg c14] at H
          exact absurd H (by simp)

end Go.Proofs.Ytbomgfbfnkfamaa.PAll
end
section
namespace Go.Proofs.Ytbomgfbfnkfamaa.PAll
open Go.RowKit Go.Proofs.YtbomgfbfnkfamaaW.PrintWords Go.Proofs.YtbomgfbfnkfamaaW.PrintLast Go.Proofs.YtbomgfbfnkfamaaW.PrintMore
attribute [local go_sem] max2_int min2_int max_two min_two max_three min_three max_four min_four   -- for this text's walks alone
set_option linter.unusedVariables false
set_option linter.unusedSimpArgs false

/-! ### curve_value: function 70 -/
def vcell (t : List (List Int)) (i j : Int) : Int := (t.getD i.toNat []).getD j.toNat 0
def vrow (r : List Int) (ya yu yo : Int) : Int := (yo - yu) * r.getD ya.toNat 0 + (if 0 < yu then yu * r.getD (ya + 1).toNat 0 else 0)
def valueOk (l0 : List (List Int)) (xa xu xo ya yu yo : Int) : Bool :=
  decide (0 ≤ xa) && decide (xa + 1 ≤ l0.length) && decide (0 < xu → xa + 2 ≤ l0.length) && decide (0 ≤ xu) && decide (xu ≤ xo) && decide (xo ≤ 2000000) && decide (0 ≤ ya) && decide (0 ≤ yu) && decide (yu ≤ yo) && decide (yo ≤ 1000000) &&
  l0.all fun r => decide (ya + 1 ≤ r.length) && decide (0 < yu → ya + 2 ≤ r.length) && decide (r.length ≤ 1000000) && r.all fun x => decide (0 ≤ x) && decide (x ≤ 1000000)
def curve_value.f (l0 : List (List Int)) (a1_0 : Int) (a1_1 : Int) (a1_2 : Int) (a2_0 : Int) (a2_1 : Int) (a2_2 : Int) : Option (Int) :=
  if valueOk l0 a1_0 a1_1 a1_2 a2_0 a2_1 a2_2 = true then some ((a1_2 - a1_1) * vrow (l0.getD a1_0.toNat []) a2_0 a2_1 a2_2 + (if 0 < a1_1 then a1_1 * vrow (l0.getD (a1_0 + 1).toNat []) a2_0 a2_1 a2_2 else 0)) else none
theorem below_call {w W W' : World} (h : Below w.heap.size w W) (k : Below W.heap.size W W') : Below w.heap.size w W' := below_then h h.size k
/-- The function value gf (with what it captured, lb) hands back the number res at arg, in each later world; it may make memory. -/
def PvGives (P : Program) (gf : Nat) (lb : Array Value) (arg : Value) (res : Int) (w : World) : Prop :=
  ∀ W, Below w.heap.size w W → Calls P gf (#[arg] ++ lb) W fun e w' => e = .returned (.int .i64 res) ∧ Below W.heap.size W w'
theorem PvGives.later {P : Program} {gf : Nat} {lb : Array Value} {arg : Value} {res : Int} {w W : World} (h : PvGives P gf lb arg res w) (hb : Below w.heap.size w W) : PvGives P gf lb arg res W := fun W' hb' => h W' (below_call hb hb')
set_option maxHeartbeats 4000000 in
set_option maxRecDepth 100000 in
theorem mixedI0 (gf : Nat) (lb : Array Value) (eg : ∀ args w, (callFunc gf args).run Try.prog w = .ok (.enter gf args) w) (a u o r0 : Int) (ad : Addr) (n c : Nat) (x0 : Value) (w : World)
   (hx0 : x0.oneCell' = true) (hcell : w.cell? (ad.add a.toNat) = some x0) (hc : n ≤ c) (h0 : 0 ≤ a) (h1 : a < n) (hu : u ≤ 0) (hv : PvGives Try.prog gf lb x0 r0 w) :
    Calls Try.prog 118 #[.agg #[.int .i64 a, .int .i64 u, .int .i64 o], .slice (some ad) n c, .func (.func gf) #[] lb] w fun e w' =>
      e = .returned (.int .i64 (wrap64 (wrap64 (o - u) * r0))) ∧ Below w.heap.size w w' := by
  go_enter Try.func118, Try.ntmps118
  go_wp2_with fail
  generalize hW : (w.alloc (Obj.cells #[Value.int IntKind.i64 a, Value.int IntKind.i64 u, Value.int IntKind.i64 o] 86)) = W
  have k0 : W.cell? ⟨w.heap.size, 0, none⟩ = some (.int .i64 a) := by subst hW; simp
  have k1 : W.cell? ⟨w.heap.size, 1, none⟩ = some (.int .i64 u) := by subst hW; simp
  have k2 : W.cell? ⟨w.heap.size, 2, none⟩ = some (.int .i64 o) := by subst hW; simp
  have k3 : W.cell? (ad.add a.toNat) = some x0 := by subst hW; exact pw_cell_below (qA (Below.refl _ _) _) hcell
  have kb : Below w.heap.size w W := by subst hW; exact (qA (Below.refl _ _) _)
  clear hW hcell
  go_region_held3 (fun w' => w'.cell? ⟨w.heap.size, 0, none⟩ = some (.int .i64 a) ∧ w'.cell? ⟨w.heap.size, 1, none⟩ = some (.int .i64 u) ∧ w'.cell? ⟨w.heap.size, 2, none⟩ = some (.int .i64 o) ∧ w'.cell? (ad.add a.toNat) = some x0 ∧ Below w.heap.size w w') (refine ⟨?_, ?_, ?_, ?_, ?_⟩ <;> first | assumption | (go_keep; done) | (refine pw_cell_below hb ?_; assumption) | (exact hb2) | (exact below_drew (by assumption))) (first | (go_at_fn gf; go_split_ands; (have hB0 : Below w.heap.size w _ := (by assumption)); go_loud (refine (hv _ (by exact hB0)).mono ?_); rintro e w' ⟨rfl, hb⟩; have hb2 := below_call hB0 hb))
  clear hb
  go_wp2_with fail
  go_ret
  simp only [i64_w]
  exact ⟨rfl, hb2⟩
set_option maxHeartbeats 4000000 in
set_option maxRecDepth 100000 in
theorem mixedI1 (gf : Nat) (lb : Array Value) (eg : ∀ args w, (callFunc gf args).run Try.prog w = .ok (.enter gf args) w) (a u o r0 : Int) (ad : Addr) (n c : Nat) (x0 : Value) (w : World)
   (hx0 : x0.oneCell' = true) (hcell : w.cell? (ad.add a.toNat) = some x0) (hc : n ≤ c) (h0 : 0 ≤ a) (h1 : a < n) (h2 : a + 1 < n) (hn : a + 1 ≤ 9223372036854775807) (x1 : Value) (r1 : Int) (hx1 : x1.oneCell' = true) (hcell2 : w.cell? (ad.add (a + 1).toNat) = some x1) (hu : 0 < u) (hv : PvGives Try.prog gf lb x0 r0 w) (hv1 : PvGives Try.prog gf lb x1 r1 w) :
    Calls Try.prog 118 #[.agg #[.int .i64 a, .int .i64 u, .int .i64 o], .slice (some ad) n c, .func (.func gf) #[] lb] w fun e w' =>
      e = .returned (.int .i64 (wrap64 (wrap64 (wrap64 (o - u) * r0) + wrap64 (u * r1)))) ∧ Below w.heap.size w w' := by
  have ha0 : 0 ≤ a + 1 := by omega
  have hwr : IntKind.i64.wrap (a + 1) = a + 1 := IntWalk.i64_in _ (by omega)
  go_enter Try.func118, Try.ntmps118
  go_wp2_with fail
  generalize hW : (w.alloc (Obj.cells #[Value.int IntKind.i64 a, Value.int IntKind.i64 u, Value.int IntKind.i64 o] 86)) = W
  have k0 : W.cell? ⟨w.heap.size, 0, none⟩ = some (.int .i64 a) := by subst hW; simp
  have k1 : W.cell? ⟨w.heap.size, 1, none⟩ = some (.int .i64 u) := by subst hW; simp
  have k2 : W.cell? ⟨w.heap.size, 2, none⟩ = some (.int .i64 o) := by subst hW; simp
  have k3 : W.cell? (ad.add a.toNat) = some x0 := by subst hW; exact pw_cell_below (qA (Below.refl _ _) _) hcell
  have k4 : W.cell? (ad.add (a+1).toNat) = some x1 := by subst hW; exact pw_cell_below (qA (Below.refl _ _) _) hcell2
  have kb : Below w.heap.size w W := by subst hW; exact (qA (Below.refl _ _) _)
  clear hW hcell hcell2
  go_region_held3 (fun w' => w'.cell? ⟨w.heap.size, 0, none⟩ = some (.int .i64 a) ∧ w'.cell? ⟨w.heap.size, 1, none⟩ = some (.int .i64 u) ∧ w'.cell? ⟨w.heap.size, 2, none⟩ = some (.int .i64 o) ∧ w'.cell? (ad.add a.toNat) = some x0 ∧ w'.cell? (ad.add (a+1).toNat) = some x1 ∧ Below w.heap.size w w') (refine ⟨?_, ?_, ?_, ?_, ?_, ?_⟩ <;> first | assumption | (go_keep; done) | (refine pw_cell_below hb ?_; assumption) | (exact hb2) | (exact below_drew (by assumption))) (first | (go_at_fn gf; go_split_ands; (have hB0 : Below w.heap.size w _ := (by assumption)); go_loud (refine (hv _ (by exact hB0)).mono ?_); rintro e w' ⟨rfl, hb⟩; have hb2 := below_call hB0 hb))
  clear hb
  go_split_ands
  go_wp2_with fail
  go_region_held3 (fun w' => w'.cell? ⟨w.heap.size, 0, none⟩ = some (.int .i64 a) ∧ w'.cell? ⟨w.heap.size, 1, none⟩ = some (.int .i64 u) ∧ w'.cell? ⟨w.heap.size, 2, none⟩ = some (.int .i64 o) ∧ w'.cell? (ad.add a.toNat) = some x0 ∧ w'.cell? (ad.add (a+1).toNat) = some x1 ∧ Below w.heap.size w w') (refine ⟨?_, ?_, ?_, ?_, ?_, ?_⟩ <;> first | assumption | (go_keep; done) | (refine pw_cell_below hb ?_; assumption) | (exact hb2) | (exact below_drew (by assumption))) (first | (go_at_fn gf; go_split_ands; (have hB0 : Below w.heap.size w _ := (by assumption)); go_loud (refine (hv1 _ (by exact hB0)).mono ?_); rintro e w' ⟨rfl, hb⟩; have hb2 := below_call hB0 hb))
  clear hb
  go_wp2_with fail
  go_ret
  simp only [i64_w]
  exact ⟨rfl, hb2⟩
set_option maxHeartbeats 4000000 in
set_option maxRecDepth 100000 in
theorem mixedL0 (gf : Nat) (lb : Array Value) (eg : ∀ args w, (callFunc gf args).run Try.prog w = .ok (.enter gf args) w) (a u o r0 : Int) (ad : Addr) (n c : Nat) (x0 : Value) (w : World)
   (hx0 : x0.oneCell' = true) (hcell : w.cell? (ad.add a.toNat) = some x0) (hc : n ≤ c) (h0 : 0 ≤ a) (h1 : a < n) (hu : u ≤ 0) (hv : PvGives Try.prog gf lb x0 r0 w) :
    Calls Try.prog 116 #[.agg #[.int .i64 a, .int .i64 u, .int .i64 o], .slice (some ad) n c, .func (.func gf) #[] lb] w fun e w' =>
      e = .returned (.int .i64 (wrap64 (wrap64 (o - u) * r0))) ∧ Below w.heap.size w w' := by
  go_enter Try.func116, Try.ntmps116
  go_wp2_with fail
  generalize hW : (w.alloc (Obj.cells #[Value.int IntKind.i64 a, Value.int IntKind.i64 u, Value.int IntKind.i64 o] 86)) = W
  have k0 : W.cell? ⟨w.heap.size, 0, none⟩ = some (.int .i64 a) := by subst hW; simp
  have k1 : W.cell? ⟨w.heap.size, 1, none⟩ = some (.int .i64 u) := by subst hW; simp
  have k2 : W.cell? ⟨w.heap.size, 2, none⟩ = some (.int .i64 o) := by subst hW; simp
  have k3 : W.cell? (ad.add a.toNat) = some x0 := by subst hW; exact pw_cell_below (qA (Below.refl _ _) _) hcell
  have kb : Below w.heap.size w W := by subst hW; exact (qA (Below.refl _ _) _)
  clear hW hcell
  go_region_held3 (fun w' => w'.cell? ⟨w.heap.size, 0, none⟩ = some (.int .i64 a) ∧ w'.cell? ⟨w.heap.size, 1, none⟩ = some (.int .i64 u) ∧ w'.cell? ⟨w.heap.size, 2, none⟩ = some (.int .i64 o) ∧ w'.cell? (ad.add a.toNat) = some x0 ∧ Below w.heap.size w w') (refine ⟨?_, ?_, ?_, ?_, ?_⟩ <;> first | assumption | (go_keep; done) | (refine pw_cell_below hb ?_; assumption) | (exact hb2) | (exact below_drew (by assumption))) (first | (go_at_fn gf; go_split_ands; (have hB0 : Below w.heap.size w _ := (by assumption)); go_loud (refine (hv _ (by exact hB0)).mono ?_); rintro e w' ⟨rfl, hb⟩; have hb2 := below_call hB0 hb))
  clear hb
  go_wp2_with fail
  go_ret
  simp only [i64_w]
  exact ⟨rfl, hb2⟩
set_option maxHeartbeats 4000000 in
set_option maxRecDepth 100000 in
theorem mixedL1 (gf : Nat) (lb : Array Value) (eg : ∀ args w, (callFunc gf args).run Try.prog w = .ok (.enter gf args) w) (a u o r0 : Int) (ad : Addr) (n c : Nat) (x0 : Value) (w : World)
   (hx0 : x0.oneCell' = true) (hcell : w.cell? (ad.add a.toNat) = some x0) (hc : n ≤ c) (h0 : 0 ≤ a) (h1 : a < n) (h2 : a + 1 < n) (hn : a + 1 ≤ 9223372036854775807) (x1 : Value) (r1 : Int) (hx1 : x1.oneCell' = true) (hcell2 : w.cell? (ad.add (a + 1).toNat) = some x1) (hu : 0 < u) (hv : PvGives Try.prog gf lb x0 r0 w) (hv1 : PvGives Try.prog gf lb x1 r1 w) :
    Calls Try.prog 116 #[.agg #[.int .i64 a, .int .i64 u, .int .i64 o], .slice (some ad) n c, .func (.func gf) #[] lb] w fun e w' =>
      e = .returned (.int .i64 (wrap64 (wrap64 (wrap64 (o - u) * r0) + wrap64 (u * r1)))) ∧ Below w.heap.size w w' := by
  have ha0 : 0 ≤ a + 1 := by omega
  have hwr : IntKind.i64.wrap (a + 1) = a + 1 := IntWalk.i64_in _ (by omega)
  go_enter Try.func116, Try.ntmps116
  go_wp2_with fail
  generalize hW : (w.alloc (Obj.cells #[Value.int IntKind.i64 a, Value.int IntKind.i64 u, Value.int IntKind.i64 o] 86)) = W
  have k0 : W.cell? ⟨w.heap.size, 0, none⟩ = some (.int .i64 a) := by subst hW; simp
  have k1 : W.cell? ⟨w.heap.size, 1, none⟩ = some (.int .i64 u) := by subst hW; simp
  have k2 : W.cell? ⟨w.heap.size, 2, none⟩ = some (.int .i64 o) := by subst hW; simp
  have k3 : W.cell? (ad.add a.toNat) = some x0 := by subst hW; exact pw_cell_below (qA (Below.refl _ _) _) hcell
  have k4 : W.cell? (ad.add (a+1).toNat) = some x1 := by subst hW; exact pw_cell_below (qA (Below.refl _ _) _) hcell2
  have kb : Below w.heap.size w W := by subst hW; exact (qA (Below.refl _ _) _)
  clear hW hcell hcell2
  go_region_held3 (fun w' => w'.cell? ⟨w.heap.size, 0, none⟩ = some (.int .i64 a) ∧ w'.cell? ⟨w.heap.size, 1, none⟩ = some (.int .i64 u) ∧ w'.cell? ⟨w.heap.size, 2, none⟩ = some (.int .i64 o) ∧ w'.cell? (ad.add a.toNat) = some x0 ∧ w'.cell? (ad.add (a+1).toNat) = some x1 ∧ Below w.heap.size w w') (refine ⟨?_, ?_, ?_, ?_, ?_, ?_⟩ <;> first | assumption | (go_keep; done) | (refine pw_cell_below hb ?_; assumption) | (exact hb2) | (exact below_drew (by assumption))) (first | (go_at_fn gf; go_split_ands; (have hB0 : Below w.heap.size w _ := (by assumption)); go_loud (refine (hv _ (by exact hB0)).mono ?_); rintro e w' ⟨rfl, hb⟩; have hb2 := below_call hB0 hb))
  clear hb
  go_split_ands
  go_wp2_with fail
  go_region_held3 (fun w' => w'.cell? ⟨w.heap.size, 0, none⟩ = some (.int .i64 a) ∧ w'.cell? ⟨w.heap.size, 1, none⟩ = some (.int .i64 u) ∧ w'.cell? ⟨w.heap.size, 2, none⟩ = some (.int .i64 o) ∧ w'.cell? (ad.add a.toNat) = some x0 ∧ w'.cell? (ad.add (a+1).toNat) = some x1 ∧ Below w.heap.size w w') (refine ⟨?_, ?_, ?_, ?_, ?_, ?_⟩ <;> first | assumption | (go_keep; done) | (refine pw_cell_below hb ?_; assumption) | (exact hb2) | (exact below_drew (by assumption))) (first | (go_at_fn gf; go_split_ands; (have hB0 : Below w.heap.size w _ := (by assumption)); go_loud (refine (hv1 _ (by exact hB0)).mono ?_); rintro e w' ⟨rfl, hb⟩; have hb2 := below_call hB0 hb))
  clear hb
  go_wp2_with fail
  go_ret
  simp only [i64_w]
  exact ⟨rfl, hb2⟩
theorem v_mul_le {a b m n : Int} (ha0 : 0 ≤ a) (ha : a ≤ m) (hb0 : 0 ≤ b) (hb : b ≤ n) : 0 ≤ a * b ∧ a * b ≤ m * n :=
  ⟨Int.mul_nonneg ha0 hb0, Int.le_trans (Int.mul_le_mul_of_nonneg_right ha hb0) (Int.mul_le_mul_of_nonneg_left hb (by omega))⟩
theorem v_wrap {x : Int} (h0 : 0 ≤ x) (h1 : x ≤ 9000000000000000000) : wrap64 x = x := by unfold wrap64; omega
theorem vrow_bounds {r : List Int} {ya yu yo : Int} (h0 : 0 ≤ yu) (h1 : yu ≤ yo) (h2 : yo ≤ 1000000) (hr : ∀ x ∈ r, 0 ≤ x ∧ x ≤ 1000000) : 0 ≤ vrow r ya yu yo ∧ vrow r ya yu yo ≤ 1000000000000 := by
  have hg : ∀ n : Nat, 0 ≤ r.getD n 0 ∧ r.getD n 0 ≤ 1000000 := fun n => by
    rw [List.getD_eq_getElem?_getD]
    rcases h : r[n]? with _ | x
    · simp
    · exact hr x (List.mem_of_getElem? h)
  have g0 := hg ya.toNat
  have g1 := hg (ya + 1).toNat
  unfold vrow
  generalize r.getD ya.toNat 0 = p at *
  generalize r.getD (ya + 1).toNat 0 = q at *
  have b1 : 0 ≤ (yo - yu) * p := Int.mul_nonneg (by omega) (by omega)
  have b2 : (yo - yu) * p ≤ (yo - yu) * 1000000 := Int.mul_le_mul_of_nonneg_left g0.2 (by omega)
  have b3 : 0 ≤ yu * q := Int.mul_nonneg (by omega) (by omega)
  have b4 : yu * q ≤ yu * 1000000 := Int.mul_le_mul_of_nonneg_left g1.2 (by omega)
  split <;> omega
theorem ident_calls (n : Int) (w : World) : PvGives Try.prog 119 #[] (.int .i64 n) n w := fun W _ => by
  show Calls Try.prog 119 #[.int .i64 n] W _
  go_enter Try.func119, Try.ntmps119
  go_wp2
  go_ret
  exact ⟨rfl, Below.refl _ _⟩
theorem mixedRow (r : List Int) (ya yu yo : Int) (A0 : Option Addr) (c0 : Nat) (w : World) (hr : Kd.C (Kd.int .i64) w A0 r.length r) (hc : r.length ≤ c0)
    (h0 : 0 ≤ ya) (h1 : ya + 1 ≤ r.length) (h2 : 0 < yu → ya + 2 ≤ r.length) (h3 : 0 ≤ yu) (h4 : yu ≤ yo) (h5 : yo ≤ 1000000) (h6 : ∀ x ∈ r, 0 ≤ x ∧ x ≤ 1000000) (hl : r.length ≤ 1000000) :
    Calls Try.prog 118 #[.agg #[.int .i64 ya, .int .i64 yu, .int .i64 yo], .slice A0 r.length c0, .func (.func 119) #[] #[]] w fun e w' => e = .returned (.int .i64 (vrow r ya yu yo)) ∧ Below w.heap.size w w' := by
  have hg : ∀ n : Nat, 0 ≤ r.getD n 0 ∧ r.getD n 0 ≤ 1000000 := fun n => by
    rw [List.getD_eq_getElem?_getD]
    rcases h : r[n]? with _ | x
    · simp
    · exact h6 x (List.mem_of_getElem? h)
  obtain ⟨ad, hA, hcell⟩ := Kd.at_int hr ya h0 (by omega)
  subst hA
  have g0 := hg ya.toNat
  have g1 := hg (ya + 1).toNat
  have b1 := v_mul_le (a := yo - yu) (b := r.getD ya.toNat 0) (m := 1000000) (n := 1000000) (by omega) (by omega) g0.1 g0.2
  have b2 := v_mul_le (a := yu) (b := r.getD (ya + 1).toNat 0) (m := 1000000) (n := 1000000) (by omega) (by omega) g1.1 g1.2
  have e0 : wrap64 (yo - yu) = yo - yu := v_wrap (by omega) (by omega)
  have e1 : wrap64 ((yo - yu) * r.getD ya.toNat 0) = (yo - yu) * r.getD ya.toNat 0 := v_wrap (by omega) (by omega)
  by_cases hu : 0 < yu
  · obtain ⟨ad2, hA2, hcell2⟩ := Kd.at_int hr (ya + 1) (by omega) (by omega)
    obtain rfl : ad = ad2 := Option.some.inj hA2
    have e2 : wrap64 (yu * r.getD (ya + 1).toNat 0) = yu * r.getD (ya + 1).toNat 0 := v_wrap (by omega) (by omega)
    have e3 : vrow r ya yu yo = wrap64 (wrap64 (wrap64 (yo - yu) * r.getD ya.toNat 0) + wrap64 (yu * r.getD (ya + 1).toNat 0)) := by
      rw [e0, e1, e2]; unfold vrow; rw [if_pos hu, v_wrap (by omega) (by omega)]
    rw [e3]
    exact mixedI1 _ _ (enters_of Try.func119 (by kernel_rfl) rfl) ya yu yo _ ad r.length c0 _ w rfl hcell hc h0 (by omega) (by omega) (by omega) _ _ rfl hcell2 hu (ident_calls _ _) (ident_calls _ _)
  · have e3 : vrow r ya yu yo = wrap64 (wrap64 (yo - yu) * r.getD ya.toNat 0) := by
      rw [e0, e1]; unfold vrow; rw [if_neg hu]; omega
    rw [e3]
    exact mixedI0 _ _ (enters_of Try.func119 (by kernel_rfl) rfl) ya yu yo _ ad r.length c0 _ w rfl hcell hc h0 (by omega) (by omega) (ident_calls _ _)
set_option maxHeartbeats 1000000 in
theorem value1_calls (B : Nat) (r : List Int) (ya yu yo : Int) (A0 : Option Addr) (c0 : Nat) (w : World) (hr : Kd.C (Kd.int .i64) w A0 r.length r) (hc : r.length ≤ c0)
    (h0 : 0 ≤ ya) (h1 : ya + 1 ≤ r.length) (h2 : 0 < yu → ya + 2 ≤ r.length) (h3 : 0 ≤ yu) (h4 : yu ≤ yo) (h5 : yo ≤ 1000000) (h6 : ∀ x ∈ r, 0 ≤ x ∧ x ≤ 1000000) (hl : r.length ≤ 1000000)
    (c1 : w.cell? ⟨B, 0, none⟩ = some (.int .i64 ya)) (c2 : w.cell? ⟨B, 1, none⟩ = some (.int .i64 yu)) (c3 : w.cell? ⟨B, 2, none⟩ = some (.int .i64 yo)) :
    PvGives Try.prog 117 #[.pointer (some ⟨B, 0, none⟩)] (.slice A0 r.length c0) (vrow r ya yu yo) w := fun W hW => by
  have HC := Aside0.mk (fun W1 hW1 => mixedRow r ya yu yo A0 c0 W1 (Kd.C_below hr hW1) hc h0 h1 h2 h3 h4 h5 h6 hl)
  have d1 := pw_cell_below hW c1
  have d2 := pw_cell_below hW c2
  have d3 := pw_cell_below hW c3
  have HB := Aside0.mk hW
  clear hr hc h0 h1 h2 h3 h4 h5 h6 hl c1 c2 c3 hW
  show Calls Try.prog 117 #[.slice A0 r.length c0, .pointer (some ⟨B, 0, none⟩)] W _
  go_enter Try.func117, Try.ntmps117
  go_wp2_with (go_at_call 118; refine (HC.out _ HB.out).mono ?_; rintro e w' ⟨rfl, hb⟩)
  go_ret
  exact ⟨rfl, hb⟩

set_option maxHeartbeats 8000000 in
set_option maxRecDepth 100000 in
theorem curve_value.calls (A0 : Option Addr) (c0 : Nat) (l0 : List (List Int)) (a1_0 : Int) (a1_1 : Int) (a1_2 : Int) (a2_0 : Int) (a2_1 : Int) (a2_2 : Int) (r : Int) (w : World) (hr0 : Kd.C (Kd.slice 3 (Kd.int .i64)) w A0 l0.length l0) (hc0 : l0.length ≤ c0) (h : curve_value.f l0 a1_0 a1_1 a1_2 a2_0 a2_1 a2_2 = some r) :
    Calls Try.prog 70 #[.slice A0 l0.length c0, .agg #[.int .i64 a1_0, .int .i64 a1_1, .int .i64 a1_2], .agg #[.int .i64 a2_0, .int .i64 a2_1, .int .i64 a2_2]] w fun e w' => e = .returned (.int .i64 r) ∧ Below w.heap.size w w' := by
  unfold curve_value.f at h
  split at h
  · rename_i hok
    obtain rfl := Option.some.inj h
    clear h
    simp only [valueOk, Bool.and_eq_true, decide_eq_true_eq, List.all_eq_true] at hok
    obtain ⟨⟨⟨⟨⟨⟨⟨⟨⟨⟨p0, p1⟩, p2⟩, p3⟩, p4⟩, p5⟩, p6⟩, p7⟩, p8⟩, p9⟩, p10⟩ := hok
    have hrow : ∀ n : Nat, n < l0.length → a2_0 + 1 ≤ (l0.getD n []).length ∧ (0 < a2_1 → a2_0 + 2 ≤ (l0.getD n []).length) ∧ (l0.getD n []).length ≤ 1000000 ∧ ∀ x ∈ l0.getD n [], 0 ≤ x ∧ x ≤ 1000000 := fun n hn => by
      have hm : l0.getD n [] ∈ l0 := by rw [List.getD_eq_getElem?_getD, List.getElem?_eq_getElem hn]; exact List.getElem_mem hn
      have := p10 _ hm
      exact ⟨this.1.1.1, this.1.1.2, this.1.2, fun x hx => this.2 x hx⟩
    obtain ⟨ad, Ar, cr, hA, hcell, hlc, hC⟩ := @at_L1 _ _ _ _ hr0 a1_0 p0 (by omega)
    subst hA
    obtain ⟨q1, q2, q3, q4⟩ := hrow a1_0.toNat (by omega)
    have vb0 := vrow_bounds (r := l0.getD a1_0.toNat []) (ya := a2_0) p7 p8 p9 q4
    have vb1 := v_mul_le (a := a1_2 - a1_1) (m := 2000000) (by omega) (by omega) vb0.1 vb0.2
    have e0 : wrap64 (a1_2 - a1_1) = a1_2 - a1_1 := v_wrap (by omega) (by omega)
    have e1 : wrap64 ((a1_2 - a1_1) * vrow (l0.getD a1_0.toNat []) a2_0 a2_1 a2_2) = (a1_2 - a1_1) * vrow (l0.getD a1_0.toNat []) a2_0 a2_1 a2_2 := v_wrap (by omega) (by omega)
    have HV0 := Aside0.mk (fun W B c1 c2 c3 (hb : Below w.heap.size w W) => value1_calls B (l0.getD a1_0.toNat []) a2_0 a2_1 a2_2 Ar cr W (Kd.C_below hC hb) hlc p6 q1 q2 p7 p8 p9 q4 q3 c1 c2 c3)
    have HCELL := Aside0.mk hcell
    by_cases hu : 0 < a1_1
    · obtain ⟨ad2, As, cs, hA2, hcell2, hlc2, hC2⟩ := @at_L1 _ _ _ _ hr0 (a1_0 + 1) (by omega) (by omega)
      obtain rfl : ad = ad2 := Option.some.inj hA2
      obtain ⟨s1, s2, s3, s4⟩ := hrow (a1_0 + 1).toNat (by omega)
      have vb2 := vrow_bounds (r := l0.getD (a1_0 + 1).toNat []) (ya := a2_0) p7 p8 p9 s4
      have vb3 := v_mul_le (a := a1_1) (m := 2000000) (by omega) (by omega) vb2.1 vb2.2
      have e2 : wrap64 (a1_1 * vrow (l0.getD (a1_0 + 1).toNat []) a2_0 a2_1 a2_2) = a1_1 * vrow (l0.getD (a1_0 + 1).toNat []) a2_0 a2_1 a2_2 := v_wrap (by omega) (by omega)
      have vb4 : (a1_2 - a1_1) * vrow (l0.getD a1_0.toNat []) a2_0 a2_1 a2_2 ≤ (a1_2 - a1_1) * 1000000000000 := Int.mul_le_mul_of_nonneg_left vb0.2 (by omega)
      have vb5 : a1_1 * vrow (l0.getD (a1_0 + 1).toNat []) a2_0 a2_1 a2_2 ≤ a1_1 * 1000000000000 := Int.mul_le_mul_of_nonneg_left vb2.2 (by omega)
      have e3 : (a1_2 - a1_1) * vrow (l0.getD a1_0.toNat []) a2_0 a2_1 a2_2 + (if 0 < a1_1 then a1_1 * vrow (l0.getD (a1_0 + 1).toNat []) a2_0 a2_1 a2_2 else 0) = wrap64 (wrap64 (wrap64 (a1_2 - a1_1) * vrow (l0.getD a1_0.toNat []) a2_0 a2_1 a2_2) + wrap64 (a1_1 * vrow (l0.getD (a1_0 + 1).toNat []) a2_0 a2_1 a2_2)) := by
        rw [e0, e1, e2, if_pos hu, v_wrap (by omega) (by omega)]
      rw [e3]
      have HV1 := Aside0.mk (fun W B c1' c2' c3' (hb : Below w.heap.size w W) => value1_calls B (l0.getD (a1_0 + 1).toNat []) a2_0 a2_1 a2_2 As cs W (Kd.C_below hC2 hb) hlc2 p6 s1 s2 p7 p8 p9 s4 s3 c1' c2' c3')
      have HCELL2 := Aside0.mk hcell2
      have HH := Aside0.mk (And.intro hc0 (And.intro p0 (And.intro (show a1_0 < l0.length by omega) (And.intro (show a1_0 + 1 < l0.length by omega) (And.intro (show a1_0 + 1 ≤ 9223372036854775807 by have := hr0.2.1; omega) hu)))))
      generalize vrow (l0.getD a1_0.toNat []) a2_0 a2_1 a2_2 = R0 at *
      generalize vrow (l0.getD (a1_0 + 1).toNat []) a2_0 a2_1 a2_2 = R1 at *
      clear e0 e1 e2 e3 vb0 vb1 vb2 vb3 vb4 vb5 hcell hcell2 hr0 hrow p10 p0 p1 p2 p3 p4 p5 p6 p7 p8 p9 q1 q2 q3 q4 s1 s2 s3 s4 hu hlc hC hlc2 hC2 hA2 hc0
      go_enter Try.func70, Try.ntmps70
      go_wp2_with (go_at_call 116; go_loud (refine (mixedL1 _ _ (enters_of Try.func117 (by kernel_rfl) rfl) a1_0 a1_1 a1_2 R0 ad l0.length c0 _ _ rfl (pw_cell_below (qA (qA (Below.refl _ _) _) _) HCELL.out) HH.out.1 HH.out.2.1 HH.out.2.2.1 HH.out.2.2.2.1 HH.out.2.2.2.2.1 _ R1 rfl (pw_cell_below (qA (qA (Below.refl _ _) _) _) HCELL2.out) HH.out.2.2.2.2.2 (HV0.out _ (w.heap.size + 1) (by simp) (by simp) (by simp) (qA (qA (Below.refl _ _) _) _)) (HV1.out _ (w.heap.size + 1) (by simp) (by simp) (by simp) (qA (qA (Below.refl _ _) _) _))).mono ?_); rintro e w' ⟨rfl, hb⟩)
      go_ret
      exact ⟨rfl, below_call (qA (qA (Below.refl _ _) _) _) hb⟩
    · have e3 : (a1_2 - a1_1) * vrow (l0.getD a1_0.toNat []) a2_0 a2_1 a2_2 + (if 0 < a1_1 then a1_1 * vrow (l0.getD (a1_0 + 1).toNat []) a2_0 a2_1 a2_2 else 0) = wrap64 (wrap64 (a1_2 - a1_1) * vrow (l0.getD a1_0.toNat []) a2_0 a2_1 a2_2) := by
        rw [e0, e1, if_neg hu]; omega
      rw [e3]
      have HH := Aside0.mk (And.intro hc0 (And.intro p0 (And.intro (show a1_0 < l0.length by omega) (show a1_1 ≤ 0 by omega))))
      generalize vrow (l0.getD a1_0.toNat []) a2_0 a2_1 a2_2 = R0 at *
      generalize vrow (l0.getD (a1_0 + 1).toNat []) a2_0 a2_1 a2_2 = R1 at *
      clear e0 e1 e3 vb0 vb1 hcell hr0 hrow p10 p0 p1 p2 p3 p4 p5 p6 p7 p8 p9 q1 q2 q3 q4 hu hlc hC hc0
      go_enter Try.func70, Try.ntmps70
      go_wp2_with (go_at_call 116; go_loud (refine (mixedL0 _ _ (enters_of Try.func117 (by kernel_rfl) rfl) a1_0 a1_1 a1_2 R0 ad l0.length c0 _ _ rfl (pw_cell_below (qA (qA (Below.refl _ _) _) _) HCELL.out) HH.out.1 HH.out.2.1 HH.out.2.2.1 HH.out.2.2.2 (HV0.out _ (w.heap.size + 1) (by simp) (by simp) (by simp) (qA (qA (Below.refl _ _) _) _))).mono ?_); rintro e w' ⟨rfl, hb⟩)
      go_ret
      exact ⟨rfl, below_call (qA (qA (Below.refl _ _) _) _) hb⟩
  · cases h

end Go.Proofs.Ytbomgfbfnkfamaa.PAll
end
