/- Right, the program's and the reference's. -/
import Derived.Test.YtpbadgghhiommaaGright
set_option linter.unusedVariables false
set_option maxHeartbeats 16000000
set_option linter.unusedSimpArgs false
namespace Go.Proofs.Ytpbadgghhiommaa.I
open Go.Ideal

/-- A fire put into a set, as the machine tells it. -/
abbrev putE (m i : Nat) : Int := IntKind.i64.wrap ((BitVec.ofInt IntKind.i64.bits (m : Int) ||| BitVec.ofInt IntKind.i64.bits (IntKind.i64.wrap (1 * 2 ^ min (i : Int).toNat IntKind.i64.bits))).toNat : Nat)
theorem putE_eq {m i : Nat} (hm : m < 2 ^ 20) (hi : i < 20) : putE m i = ((m ||| 2 ^ i : Nat) : Int) := by
  have h : (2 : Int) ^ i ≤ 2 ^ 20 := pow2_le (by omega)
  have h2 : (0 : Int) < 2 ^ i := Int.pow_pos (by omega)
  have hn : (2 : Nat) ^ i < 2 ^ 20 := Nat.pow_lt_pow_right (by omega) hi
  have e0 : IntKind.i64.wrap (1 * 2 ^ min (i : Int).toNat IntKind.i64.bits) = ((2 ^ i : Nat) : Int) := by
    rw [show min (i : Int).toNat IntKind.i64.bits = i by simp [IntKind.bits]; omega, Int.one_mul, wrap_in]
    · exact_mod_cast rfl
    · simp only [IntKind.min, IntKind.signed, IntKind.bits, if_true]; omega
    · simp only [IntKind.max, IntKind.signed, IntKind.bits, if_true]; omega
  unfold putE
  rw [e0]
  generalize (2 : Nat) ^ i = b at *
  have hlt : m ||| b < 2 ^ 20 := Nat.or_lt_two_pow hm hn
  have e : (BitVec.ofInt IntKind.i64.bits (m : Int) ||| BitVec.ofInt IntKind.i64.bits (b : Int)).toNat = m ||| b := by
    have e1 : (BitVec.ofInt IntKind.i64.bits (m : Int)).toNat = m := by
      rw [BitVec.toNat_ofInt]; simp only [IntKind.bits]; omega
    have e2 : (BitVec.ofInt IntKind.i64.bits (b : Int)).toNat = b := by
      rw [BitVec.toNat_ofInt]; simp only [IntKind.bits]; omega
    rw [BitVec.toNat_or, e1, e2]
  rw [e, wrap_in]
  · simp only [IntKind.min, IntKind.signed, IntKind.bits, if_true]; omega
  · simp only [IntKind.max, IntKind.signed, IntKind.bits, if_true]; omega

def StepP (l : List Fire) (order : List Int) (j : Nat) : Prop := (0 ≤ at' order (j : Int) ∧ at' order (j : Int) < l.length) ∧ NextP l (order.take j) (at' order (j : Int))
def RightP (l : List Fire) (order : List Int) : Prop := firesE l = 0 ∧ order.length = l.length ∧ ∀ j : Nat, j < order.length → StepP l order j
theorem take_put {order : List Int} {j : Nat} (h : j < order.length) : order.take (j + 1) = order.take j ++ [at' order (j : Int)] := by
  rw [at'_get h, List.take_succ_eq_append_getElem h]

theorem Right_any (l : List Fire) (hl : l.length ≤ 100000) (ha : ∀ i : Nat, i < l.length → (at' l (i : Int)).aft.length ≤ 9000000000000000000) (order : List Int) (ho : order.length ≤ 100000) : ∃ q : Bool, (q = true ↔ RightP l order) ∧
    ∀ H, Ev T (.call (.func (.func 63) [] []) [frsl l, sl order] H) (.call (.bool q) H) := by
  refine ⟨@decide _ (Classical.propDecidable (RightP l order)), by simp, fun H => ?_⟩
  refine run_pure T63 (nn_bool _) (nn_cons (frsl_no _) (nn_cons (sl_no _) nn_none)) ?_ H
  have e1 : (l.map frR).length = l.length := List.length_map ..
  have e3 : (order.map ei).length = order.length := List.length_map ..
  have hx : ∃ r, r = @decide _ (Classical.propDecidable (RightP l order)) := ⟨_, rfl⟩
  obtain ⟨r, hr⟩ := hx
  rw [← hr]
  have hr1 : r = true ↔ RightP l order := by rw [hr]; simp
  clear hr
  have no : ¬ RightP l order → r = false := fun h => by
    cases r with
    | false => rfl
    | true => exact absurd (hr1.mp rfl) h
  have kc := CheckFires_ok l (by omega) ha
  have hP : RightP l order ↔ firesE l = 0 ∧ order.length = l.length ∧ ∀ j : Nat, j < order.length → StepP l order j := Iff.rfl
  have hz : firesE l = 0 → FOk l := fires_zero
  generalize firesE l = e at *
  by_cases h0 : e = 0 ∧ order.length = l.length
  rotate_left
  · have rf : r = false := no (fun w => h0 ⟨(hP.mp w).1, (hP.mp w).2.1⟩)
    repeat' ((conv => whnf); first | (refine CallP.pure kc ?_) | (first | refine condP.dec (fun h => ?_) (fun h => ?_) | refine condP.eq (fun h => ?_) (fun h => ?_) | refine condP.ne (fun h => ?_) (fun h => ?_)) | (refine .i64 (by omega) (by omega) ?_) | (refine onSome.intro (idx_fs rfl rfl (by omega) (by omega) (fun _ => rfl)) ?_) | (refine onSome.intro (load_fs rfl (by omega) (by omega) rfl) ?_) | (refine And.intro rfl ?_))
    all_goals first | (exfalso; omega) | skip
    all_goals conv => whnf
    all_goals refine .intro (.bool false) (.inl rfl) rfl ?_
    all_goals rw [rf]
    all_goals exact .refl _
  obtain ⟨rfl, hol⟩ := h0
  have hF := hz rfl
  have hlen := hF.len
  repeat' ((conv => whnf); first | (refine CallP.pure kc ?_) | (refine condP.differ1 ?_) | (first | refine condP.dec (fun h => ?_) (fun h => ?_) | refine condP.eq (fun h => ?_) (fun h => ?_) | refine condP.ne (fun h => ?_) (fun h => ?_)) | (refine .i64 (by omega) (by omega) ?_) | (refine onSome.intro (idx_fs rfl rfl (by omega) (by omega) (fun _ => rfl)) ?_) | (refine onSome.intro (load_fs rfl (by omega) (by omega) rfl) ?_) | (refine And.intro rfl ?_))
  all_goals first | (exfalso; omega) | skip
  all_goals conv => whnf
  refine loop_rule (X := Nat × Nat) (fun x => [(0, frsl l), (5, .int .i64 (x.2 : Int)), (18, sl order), (19, .int .i64 order.length), (20, .int .i64 x.1)]) (fun _ => []) (fun x => order.length - x.1) (fun x => x.1 ≤ order.length ∧ Mem l.length x.2 (order.take x.1) ∧ ∀ j : Nat, j < x.1 → StepP l order j) (0, 0)
    ⟨Nat.zero_le _, Mem.nil _, fun j hj => by omega⟩ ⟨rfl, rfl, rfl, by show i6 _ = i6 _; rw [e3], rfl, trivial⟩ rfl (fun _ _ => rfl) (fun x hx => ?_)
  obtain ⟨j, m⟩ := x
  obtain ⟨hj, hM, hall⟩ := hx
  dsimp only at hj hM hall ⊢
  rcases Nat.lt_or_ge j order.length with hlt | hge
  · have hts := take_put hlt
    have hS : StepP l order j ↔ (0 ≤ at' order (j : Int) ∧ at' order (j : Int) < l.length) ∧ NextP l (order.take j) (at' order (j : Int)) := Iff.rfl
    have hnext : StepP l order j → ∀ k : Nat, k < j + 1 → StepP l order k := fun h k hk => by
      by_cases w : k = j
      · subst w; exact h
      · exact hall k (by omega)
    have hstop : ¬ StepP l order j → r = false := fun h => no (fun w => h ((hP.mp w).2.2 j hlt))
    generalize hv : at' order (j : Int) = v at *
    by_cases hr : 0 ≤ v ∧ v < l.length
    · obtain ⟨i, rfl⟩ := Int.eq_ofNat_of_zero_le hr.1
      have q := may_any l hF ha m (order.take j) hM i (by omega)
      obtain ⟨w, hw, kw⟩ := q
      have hput := hM.put hlen hr.1 hr.2
      rw [← hts] at hput
      have hpe := putE_eq (m := m) (i := i) (by have := hM.small; omega) (by omega)
      cases w
      all_goals repeat' ((conv => whnf); first | (refine condP.dec (fun _ => ?_) (fun h => absurd (by omega) h)) | (refine onSome.intro (load_fs (l := order) (enc := ei) (i := (j : Int)) (v := .int .i64 (i : Int)) rfl (by omega) (by omega) (by rw [hv]; rfl)) ?_) | (refine CallP.dec (outside_ok _ _) (fun h => ?_) (fun h => ?_)) | (refine CallP.pure kw ?_) | (first | refine condP.dec (fun h => ?_) (fun h => ?_) | refine condP.eq (fun h => ?_) (fun h => ?_) | refine condP.ne (fun h => ?_) (fun h => ?_)) | (refine .i64 (by omega) (by omega) ?_) | (refine onSome.intro (idx_fs rfl rfl (by omega) (by omega) (fun _ => rfl)) ?_) | (refine onSome.intro (load_fs rfl (by omega) (by omega) rfl) ?_) | (refine And.intro rfl ?_))
      all_goals unfold Outs at *
      all_goals first | (exfalso; omega) | skip
      all_goals conv => whnf
      · refine .done (by simp) ?_
        conv => whnf
        refine .intro (.bool false) (.inl rfl) rfl ?_
        rw [hstop (fun z => by have := hw.mpr (hS.mp z).2; cases this)]
        exact .refl _
      · exact .more (j + 1, m ||| 2 ^ i) rfl ⟨by dsimp only; omega, hput, hnext (hS.mpr ⟨hr, hw.mp rfl⟩)⟩ (by dsimp only; omega) ⟨rfl, (by show i6 _ = i6 _; rw [← hpe]), rfl, rfl, rfl, trivial⟩ rfl ⟨(frsl_no _).inn _, .int _ _, (sl_no _).inn _, .int _ _, .int _ _, trivial⟩ trivial
    · have rf : r = false := hstop (fun z => hr (hS.mp z).1)
      repeat' ((conv => whnf); first | (refine condP.dec (fun _ => ?_) (fun h => absurd (by omega) h)) | (refine onSome.intro (load_fs (l := order) (enc := ei) (i := (j : Int)) (v := .int .i64 v) rfl (by omega) (by omega) (by rw [hv]; rfl)) ?_) | (refine CallP.dec (outside_ok _ _) (fun h => ?_) (fun h => ?_)) | (first | refine condP.dec (fun h => ?_) (fun h => ?_) | refine condP.eq (fun h => ?_) (fun h => ?_) | refine condP.ne (fun h => ?_) (fun h => ?_)) | (refine .i64 (by omega) (by omega) ?_) | (refine onSome.intro (idx_fs rfl rfl (by omega) (by omega) (fun _ => rfl)) ?_) | (refine onSome.intro (load_fs rfl (by omega) (by omega) rfl) ?_) | (refine And.intro rfl ?_))
      all_goals unfold Outs at *
      all_goals first | (exfalso; omega) | skip
      all_goals conv => whnf
      all_goals refine .done (by simp) ?_
      all_goals conv => whnf
      all_goals refine .intro (.bool false) (.inl rfl) rfl ?_
      all_goals rw [rf]
      all_goals exact .refl _
  · obtain rfl : j = order.length := by omega
    have rt : r = true := hr1.mpr (hP.mpr ⟨rfl, hol, hall⟩)
    conv => whnf
    refine condP.dec (fun h => absurd h (by omega)) (fun _ => ?_)
    conv => whnf
    refine .done (by simp) ?_
    conv => whnf
    refine .intro (.bool true) (.inl rfl) rfl ?_
    rw [rt]
    exact .refl _

end Go.Proofs.Ytpbadgghhiommaa.I
