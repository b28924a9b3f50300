/- Which fire may come next: sets as bits. -/
import Derived.Test.YtpbadgghhiommaaGfires
set_option linter.unusedVariables false
set_option maxHeartbeats 16000000
set_option linter.unusedSimpArgs false
namespace Go.Proofs.Ytpbadgghhiommaa.I
open Go.Ideal

theorem pow2_le {a b : Nat} (h : a ≤ b) : (2 : Int) ^ a ≤ 2 ^ b := by
  have := Nat.pow_le_pow_right (n := 2) (by omega) h
  exact_mod_cast this
theorem shr_sym {H : Heap} {E : Env} {x y : Opd} {m : Nat} {n : Int} (hx : x.ev E = .int .i64 (m : Int)) (hy : y.ev E = .int .i64 n) (h0 : 0 ≤ n) : iop H E (.bin .shr x y) = some (.int .i64 ((m : Int).fdiv (2 ^ min n.toNat IntKind.i64.bits))) := by
  simp only [iop, hx, hy, binI, if_neg (show ¬ n < 0 by omega)]
/-- The machine's telling of a bit. -/
abbrev bitE (m : Nat) (n : Int) : Int := IntKind.i64.wrap ((BitVec.ofInt IntKind.i64.bits ((m : Int).fdiv (2 ^ min n.toNat IntKind.i64.bits)) &&& BitVec.ofInt IntKind.i64.bits 1).toNat : Nat)
theorem bitE_eq {m : Nat} {n : Int} (h0 : 0 ≤ n) (h1 : n ≤ 62) (hm : m < 1000000) : bitE m n = ((m / 2 ^ n.toNat % 2 : Nat) : Int) := by
  have hv : (m : Int).fdiv (2 ^ min n.toNat IntKind.i64.bits) = ((m / 2 ^ n.toNat : Nat) : Int) := by
    rw [show min n.toNat IntKind.i64.bits = n.toNat by simp [IntKind.bits]; omega]
    rw [Int.fdiv_eq_ediv_of_nonneg _ (Int.le_of_lt (Int.pow_pos (by omega)))]
    exact_mod_cast rfl
  have hlt : m / 2 ^ n.toNat < 1000000 := Nat.lt_of_le_of_lt (Nat.div_le_self ..) hm
  unfold bitE
  rw [hv]
  generalize m / 2 ^ n.toNat = a at *
  have e : (BitVec.ofInt IntKind.i64.bits (a : Int) &&& BitVec.ofInt IntKind.i64.bits 1).toNat = a % 2 := by
    have e1 : (BitVec.ofInt IntKind.i64.bits (a : Int)).toNat = a := by
      rw [BitVec.toNat_ofInt]; simp only [IntKind.bits]; omega
    have e2 : (BitVec.ofInt IntKind.i64.bits (1 : Int)).toNat = 1 := by
      rw [BitVec.toNat_ofInt]; simp only [IntKind.bits]; omega
    rw [BitVec.toNat_and, e1, e2, Nat.and_one_is_mod]
  rw [e, wrap_in]
  · simp only [IntKind.min, IntKind.signed, IntKind.bits, if_true]; omega
  · simp only [IntKind.max, IntKind.signed, IntKind.bits, if_true]; omega

structure FOk (l : List Fire) : Prop where
  len : l.length ≤ 8
  aft : ∀ i : Nat, i < l.length → ∀ k : Nat, k < (at' l (i : Int)).aft.length → 0 ≤ at' (at' l (i : Int)).aft (k : Int) ∧ at' (at' l (i : Int)).aft (k : Int) < l.length
theorem fires_zero {l : List Fire} (h : firesE l = 0) : FOk l := by
  unfold firesE at h
  split at h
  · cases h
  · refine ⟨by omega, fun i hi k hk => ?_⟩
    have a := firstErr_zero.mp h i hi
    unfold fireE at a
    split at a
    · cases a
    · have b := firstErr_zero.mp a k hk
      refine Classical.byContradiction fun w => ?_
      unfold aftE at b
      rw [if_pos (show Outs (at' (at' l (i : Int)).aft (k : Int)) ((l.length : Int) - 1) by unfold Outs; omega)] at b
      cases b
/-- Fire i may come behind those of a list. -/
def NextP (l : List Fire) (bf : List Int) (i : Int) : Prop := (∀ k : Nat, k < (at' l i).aft.length → at' (at' l i).aft (k : Int) ∈ bf) ∧ (∀ b ∈ bf, (at' l i).heat ≤ (at' l b).hold) ∧ i ∉ bf
structure Mem (n : Nat) (m : Nat) (bf : List Int) : Prop where
  small : m < 256
  bit : ∀ j : Int, 0 ≤ j → j < 8 → (m / 2 ^ j.toNat % 2 = 1 ↔ j ∈ bf)
  inn : ∀ b ∈ bf, 0 ≤ b ∧ b < n
theorem Mem.nil (n : Nat) : Mem n 0 [] := ⟨by omega, fun j _ _ => by simp, fun b hb => by cases hb⟩
theorem Mem.put {n m : Nat} {bf : List Int} (h : Mem n m bf) (hn : n ≤ 8) {i : Int} (h0 : 0 ≤ i) (h1 : i < n) : Mem n (m ||| 2 ^ i.toNat) (bf ++ [i]) := by
  have hs := h.small
  refine ⟨Nat.or_lt_two_pow (n := 8) hs (Nat.pow_lt_pow_right (by omega) (by omega)), fun j j0 j1 => ?_, fun b hb => ?_⟩
  · have e1 : (m ||| 2 ^ i.toNat).testBit j.toNat = (m.testBit j.toNat || decide (i.toNat = j.toNat)) := by rw [Nat.testBit_or, Nat.testBit_two_pow]
    have e2 := h.bit j j0 j1
    simp only [Nat.testBit_eq_decide_div_mod_eq] at e1
    have e3 : ((m ||| 2 ^ i.toNat) / 2 ^ j.toNat % 2 = 1) ↔ (m / 2 ^ j.toNat % 2 = 1 ∨ i.toNat = j.toNat) := by
      have := congrArg (fun b : Bool => b = true) e1
      simpa using this
    rw [e3, e2, List.mem_append, List.mem_singleton]
    constructor
    · rintro (q | q)
      · exact .inl q
      · exact .inr (by omega)
    · rintro (q | q)
      · exact .inl q
      · exact .inr (by omega)
  · rcases List.mem_append.mp hb with q | q
    · exact h.inn b q
    · obtain rfl := List.mem_singleton.mp q; exact ⟨h0, h1⟩

theorem may_any (l : List Fire) (hF : FOk l) (ha : ∀ i : Nat, i < l.length → (at' l (i : Int)).aft.length ≤ 9000000000000000000) (m : Nat) (bf : List Int) (hm : Mem l.length m bf) (i : Nat) (h1 : i < l.length) : ∃ q : Bool, (q = true ↔ NextP l bf i) ∧
    ∀ H, Ev T (.call (.func (.func 103) [] []) [frsl l, .int .i64 (m : Int), .int .i64 (i : Int)] H) (.call (.bool q) H) := by
  refine ⟨@decide _ (Classical.propDecidable (NextP l bf i)), by simp, fun H => ?_⟩
  refine run_pure T103 (nn_bool _) (nn_cons (frsl_no _) (nn_cons (nn_int _ _) (nn_cons (nn_int _ _) nn_none))) ?_ H
  have hlen := hF.len
  have hsm := hm.small
  have e1 : (l.map frR).length = l.length := List.length_map ..
  have hx : ∃ r, r = @decide _ (Classical.propDecidable (NextP l bf i)) := ⟨_, rfl⟩
  obtain ⟨r, hr⟩ := hx
  rw [← hr]
  have hr1 : r = true ↔ NextP l bf i := by rw [hr]; simp
  clear hr
  have no : ¬ NextP l bf i → r = false := fun h => by
    cases r with
    | false => rfl
    | true => exact absurd (hr1.mp rfl) h
  have bit : ∀ j : Int, 0 ≤ j → j < l.length → (bitE m j = 1 ∧ j ∈ bf) ∨ (bitE m j = 0 ∧ j ∉ bf) := fun j j0 j1 => by
    have b := hm.bit j j0 (by omega)
    rw [bitE_eq j0 (by omega) (by omega)]
    have : m / 2 ^ j.toNat % 2 = 0 ∨ m / 2 ^ j.toNat % 2 = 1 := by omega
    rcases this with q | q
    · exact .inr ⟨by rw [q]; rfl, fun w => by have := b.mpr w; omega⟩
    · exact .inl ⟨by rw [q]; rfl, b.mp q⟩
  unfold bitE at bit
  have hin := hm.inn
  have haf := ha i h1
  have hFa := hF.aft i h1
  have hP : NextP l bf i ↔ (∀ k : Nat, k < (at' l (i : Int)).aft.length → at' (at' l (i : Int)).aft (k : Int) ∈ bf) ∧ (∀ b ∈ bf, (at' l (i : Int)).heat ≤ (at' l b).hold) ∧ (i : Int) ∉ bf := Iff.rfl
  generalize hf : at' l (i : Int) = f at *
  have e2 : (f.aft.map ei).length = f.aft.length := List.length_map ..
  repeat' ((conv => whnf); first | (refine onSome.intro (load_fs (l := l) (enc := frR) (i := (i : Int)) (v := sl f.aft) rfl (by omega) (by omega) (by rw [hf]; rfl)) ?_) | (first | refine condP.dec (fun h => ?_) (fun h => ?_) | refine condP.eq (fun h => ?_) (fun h => ?_) | refine condP.ne (fun h => ?_) (fun h => ?_)) | (refine .i64 (by omega) (by omega) ?_) | (refine onSome.intro (idx_fs rfl rfl (by omega) (by omega) (fun _ => rfl)) ?_) | (refine onSome.intro (load_fs rfl (by omega) (by omega) rfl) ?_) | (refine And.intro rfl ?_))
  conv => whnf
  refine loop_rule (X := Nat) (fun k => [(0, frsl l), (1, .int .i64 (m : Int)), (2, .int .i64 (i : Int)), (15, sl f.aft), (16, .int .i64 f.aft.length), (17, .int .i64 k)]) (fun _ => []) (fun k => f.aft.length - k) (fun k => k ≤ f.aft.length ∧ ∀ j : Nat, j < k → at' f.aft (j : Int) ∈ bf) 0
    ⟨Nat.zero_le _, fun j hj => by omega⟩ ⟨rfl, rfl, rfl, rfl, by show i6 _ = i6 _; rw [e2], rfl, trivial⟩ rfl (fun _ _ => rfl) (fun k hk => ?_)
  obtain ⟨hk, hall⟩ := hk
  rcases Nat.lt_or_ge k f.aft.length with hlt | hge
  · have hA := hFa k hlt
    have q4 := bit _ hA.1 hA.2
    have hnext : at' f.aft (k : Int) ∈ bf → ∀ j : Nat, j < k + 1 → at' f.aft (j : Int) ∈ bf := fun h j hj => by
      by_cases w : j = k
      · subst w; exact h
      · exact hall j (by omega)
    have hstop : at' f.aft (k : Int) ∉ bf → r = false := fun h => no (fun w => h ((hP.mp w).1 k hlt))
    generalize hn : at' f.aft (k : Int) = n at *
    rcases q4 with ⟨hb, q4⟩ | ⟨hb, q4⟩
    all_goals repeat' ((conv => whnf); first | (refine condP.dec (fun _ => ?_) (fun h => absurd (by omega) h)) | (refine onSome.intro (load_fs (l := f.aft) (enc := ei) (i := (k : Int)) (v := .int .i64 n) rfl (by omega) (by omega) (by rw [hn]; rfl)) ?_) | (refine onSome.intro (shr_sym (m := m) rfl rfl (by omega)) ?_) | (rw [hb]) | (first | refine condP.dec (fun h => ?_) (fun h => ?_) | refine condP.eq (fun h => ?_) (fun h => ?_) | refine condP.ne (fun h => ?_) (fun h => ?_)) | (refine .i64 (by omega) (by omega) ?_) | (refine onSome.intro (idx_fs rfl rfl (by omega) (by omega) (fun _ => rfl)) ?_) | (refine onSome.intro (load_fs rfl (by omega) (by omega) rfl) ?_) | (refine And.intro rfl ?_))
    all_goals first | (exfalso; omega) | skip
    all_goals conv => whnf
    all_goals first
      | exact .more (k + 1) rfl ⟨by omega, hnext q4⟩ (by omega) ⟨rfl, rfl, rfl, rfl, rfl, rfl, trivial⟩ rfl ⟨(frsl_no _).inn _, .int _ _, .int _ _, (sl_no _).inn _, .int _ _, .int _ _, trivial⟩ trivial
      | (refine .done (by simp) ?_
         conv => whnf
         refine .intro (.bool false) (.inl rfl) rfl ?_
         rw [hstop q4]
         exact .refl _)
  · obtain rfl : k = f.aft.length := by omega
    repeat' ((conv => whnf); first | (refine condP.dec (fun h => absurd h (by omega)) (fun _ => ?_)) | (first | refine condP.dec (fun h => ?_) (fun h => ?_) | refine condP.eq (fun h => ?_) (fun h => ?_) | refine condP.ne (fun h => ?_) (fun h => ?_)) | (refine .i64 (by omega) (by omega) ?_) | (refine onSome.intro (idx_fs rfl rfl (by omega) (by omega) (fun _ => rfl)) ?_) | (refine onSome.intro (load_fs rfl (by omega) (by omega) rfl) ?_) | (refine And.intro rfl ?_))
    refine .done (by simp) ?_
    conv => whnf
    refine loop_rule (X := Nat) (fun k => [(0, frsl l), (1, .int .i64 (m : Int)), (2, .int .i64 (i : Int)), (27, frsl l), (28, .int .i64 l.length), (29, .int .i64 k)]) (fun _ => []) (fun k => l.length - k) (fun k => k ≤ l.length ∧ ∀ j : Nat, j < k → (j : Int) ∈ bf → f.heat ≤ (at' l (j : Int)).hold) 0
      ⟨Nat.zero_le _, fun j hj => by omega⟩ ⟨rfl, rfl, rfl, rfl, by show i6 _ = i6 _; rw [e1], rfl, trivial⟩ rfl (fun _ _ => rfl) (fun k hk => ?_)
    obtain ⟨hk, hal2⟩ := hk
    rcases Nat.lt_or_ge k l.length with hlt | hge
    · have q4 := bit (k : Int) (by omega) (by omega)
      have hnext : ((k : Int) ∈ bf → f.heat ≤ (at' l (k : Int)).hold) → ∀ j : Nat, j < k + 1 → (j : Int) ∈ bf → f.heat ≤ (at' l (j : Int)).hold := fun h j hj => by
        by_cases w : j = k
        · subst w; exact h
        · exact hal2 j (by omega)
      have hstop : (k : Int) ∈ bf → ¬ f.heat ≤ (at' l (k : Int)).hold → r = false := fun h h' => no (fun w => h' ((hP.mp w).2.1 _ h))
      generalize hg : at' l (k : Int) = g at *
      rcases q4 with ⟨hb, q4⟩ | ⟨hb, q4⟩
      all_goals repeat' ((conv => whnf); first | (refine condP.dec (fun _ => ?_) (fun h => absurd (by omega) h)) | (refine onSome.intro (load_fs (l := l) (enc := frR) (i := (k : Int)) (v := .agg (frR g)) rfl (by omega) (by omega) (by rw [hg]; rfl)) ?_) | (refine onSome.intro (load_fs (l := l) (enc := frR) (i := (i : Int)) (v := .int .i64 f.heat) rfl (by omega) (by omega) (by rw [hf]; rfl)) ?_) | (refine onSome.intro (shr_sym (m := m) rfl rfl (by omega)) ?_) | (rw [hb]) | (first | refine condP.dec (fun h => ?_) (fun h => ?_) | refine condP.eq (fun h => ?_) (fun h => ?_) | refine condP.ne (fun h => ?_) (fun h => ?_)) | (refine .i64 (by omega) (by omega) ?_) | (refine onSome.intro (idx_fs rfl rfl (by omega) (by omega) (fun _ => rfl)) ?_) | (refine onSome.intro (load_fs rfl (by omega) (by omega) rfl) ?_) | (refine And.intro rfl ?_))
      all_goals first | (exfalso; omega) | skip
      all_goals conv => whnf
      all_goals first
        | exact .more (k + 1) rfl ⟨by omega, hnext (fun w => by first | omega | exact absurd w q4)⟩ (by omega) ⟨rfl, rfl, rfl, rfl, rfl, rfl, trivial⟩ rfl ⟨(frsl_no _).inn _, .int _ _, .int _ _, (frsl_no _).inn _, .int _ _, .int _ _, trivial⟩ trivial
        | (refine .done (by simp) ?_
           conv => whnf
           refine .intro (.bool false) (.inl rfl) rfl ?_
           rw [hstop q4 (by omega)]
           exact .refl _)
    · obtain rfl : k = l.length := by omega
      have q4 := bit (i : Int) (by omega) (by omega)
      have yes : (i : Int) ∉ bf → r = true := fun w => hr1.mpr (hP.mpr ⟨fun k hk => hall k hk, fun b hb => by
        have := hin b hb
        have := hal2 b.toNat (by omega)
        rw [show ((b.toNat : Nat) : Int) = b by omega] at this
        exact this hb, w⟩)
      have hstop : (i : Int) ∈ bf → r = false := fun h => no (fun w => (hP.mp w).2.2 h)
      repeat' ((conv => whnf); first | (refine condP.dec (fun h => absurd h (by omega)) (fun _ => ?_)) | (first | refine condP.dec (fun h => ?_) (fun h => ?_) | refine condP.eq (fun h => ?_) (fun h => ?_) | refine condP.ne (fun h => ?_) (fun h => ?_)) | (refine .i64 (by omega) (by omega) ?_) | (refine onSome.intro (idx_fs rfl rfl (by omega) (by omega) (fun _ => rfl)) ?_) | (refine onSome.intro (load_fs rfl (by omega) (by omega) rfl) ?_) | (refine And.intro rfl ?_))
      refine .done (by simp) ?_
      rcases q4 with ⟨hb, q4⟩ | ⟨hb, q4⟩
      all_goals repeat' ((conv => whnf); first | (refine onSome.intro (shr_sym (m := m) rfl rfl (by omega)) ?_) | (rw [hb]) | (first | refine condP.dec (fun h => ?_) (fun h => ?_) | refine condP.eq (fun h => ?_) (fun h => ?_) | refine condP.ne (fun h => ?_) (fun h => ?_)) | (refine .i64 (by omega) (by omega) ?_) | (refine onSome.intro (idx_fs rfl rfl (by omega) (by omega) (fun _ => rfl)) ?_) | (refine onSome.intro (load_fs rfl (by omega) (by omega) rfl) ?_) | (refine And.intro rfl ?_))
      all_goals first | (exfalso; omega) | skip
      all_goals conv => whnf
      all_goals first
        | (refine .intro (.bool true) (.inl rfl) rfl ?_
           rw [yes q4]
           exact .refl _)
        | (refine .intro (.bool false) (.inl rfl) rfl ?_
           rw [hstop q4]
           exact .refl _)

end Go.Proofs.Ytpbadgghhiommaa.I
