/- Laws of tubes. -/
import Derived.Test.YtbomgfbfnkfamaaKdice
import Derived.Test.YtbomgfbfnkfamaaMnum
set_option linter.unusedVariables false
set_option maxHeartbeats 4000000
set_option linter.unusedSimpArgs false
namespace Go.Proofs.Ytbomgfbfnkfamaa.I
open Go.Ideal

theorem floor_ok {n d : Int} (hd : 0 < d) (hd1 : d ≤ 9000000000000000000) (h0 : -9000000000000000000 ≤ n) (h1 : n ≤ 9000000000000000000) (H : Heap) : Ev T (.call (.func (.func 69) [] []) [.int .i64 n, .int .i64 d] H) (.call (.int .i64 (n / d)) H) := by
  refine run_pure T69 (nn_int _ _) (nn_cons (nn_int _ _) (nn_cons (nn_int _ _) nn_none)) ?_ H
  have a := tdiv_bounds hd h0 h1
  have b := tdiv_mul_bounds hd h0 h1
  have e := tdiv_floor (n := n) hd
  conv => whnf
  refine onTrue.intro (by simp; omega) ?_
  conv => whnf
  refine .i64 (by omega) (by omega) ?_
  conv => whnf
  refine .i64 (by omega) (by omega) ?_
  conv => whnf
  refine condP.dec (fun h => ?_) (fun h => ?_)
  · conv => whnf
    refine .i64 (by omega) (by omega) ?_
    conv => whnf
    rw [if_pos h] at e
    exact .intro (.int .i64 (n.tdiv d - 1)) (.inl rfl) rfl (by rw [e]; exact .refl _)
  · conv => whnf
    rw [if_neg h] at e
    exact .intro (.int .i64 (n.tdiv d)) (.inl rfl) rfl (by rw [e]; exact .refl _)

theorem ceil_ok {n d : Int} (hd : 0 < d) (hd1 : d ≤ 9000000000000000000) (h0 : -9000000000000000000 ≤ n) (h1 : n ≤ 9000000000000000000) (H : Heap) : Ev T (.call (.func (.func 71) [] []) [.int .i64 n, .int .i64 d] H) (.call (.int .i64 (up n d)) H) := by
  refine run_pure T71 (nn_int _ _) (nn_cons (nn_int _ _) (nn_cons (nn_int _ _) nn_none)) ?_ H
  have a := tdiv_bounds hd h0 h1
  have b := tdiv_mul_bounds hd h0 h1
  have e := tdiv_floor (n := -n) hd
  rw [Int.neg_tdiv, Int.neg_mul] at e
  conv => whnf
  refine onTrue.intro (by simp; omega) ?_
  conv => whnf
  refine .i64 (by omega) (by omega) ?_
  conv => whnf
  refine .i64 (by omega) (by omega) ?_
  conv => whnf
  refine condP.dec (fun h => ?_) (fun h => ?_)
  · conv => whnf
    refine .i64 (by omega) (by omega) ?_
    conv => whnf
    rw [if_pos (by omega)] at e
    exact .intro (.int .i64 (n.tdiv d + 1)) (.inl rfl) rfl (by rw [show up n d = n.tdiv d + 1 by unfold up; omega]; exact .refl _)
  · conv => whnf
    rw [if_neg (by omega)] at e
    exact .intro (.int .i64 (n.tdiv d)) (.inl rfl) rfl (by rw [show up n d = n.tdiv d by unfold up; omega]; exact .refl _)

theorem brought_ok (n : Int) (H : Heap) : Ev T (.call (.func (.func 121) [] []) [.int .i64 n] H) (.call (.int .i64 (clamp n)) H) := by
  refine run_pure T121 (nn_int _ _) (nn_cons (nn_int _ _) nn_none) ?_ H
  conv => whnf
  exact .intro (.int .i64 (min (max n 0) 1000000)) (.inl rfl) rfl (by rw [show min (max n 0) 1000000 = clamp n by unfold clamp; split <;> (try split) <;> omega]; exact .refl _)

instance (g p : Int) : Decidable (Volts g p) := by unfold Volts; infer_instance
theorem voltages_ok (g p : Int) (H : Heap) : Ev T (.call (.func (.func 67) [] []) [.int .i64 g, .int .i64 p] H) (.call (.bool (decide (Volts g p))) H) := by
  refine run_pure T67 (nn_bool _) (nn_cons (nn_int _ _) (nn_cons (nn_int _ _) nn_none)) ?_ H
  repeat' ((conv => whnf); refine condP.dec (fun h => ?_) (fun h => ?_))
  all_goals conv => whnf
  all_goals first
    | exact .intro (.bool true) (.inl rfl) rfl (frz_bool (decide_eq_true (by unfold Volts; omega)).symm)
    | exact .intro (.bool false) (.inl rfl) rfl (frz_bool (decide_eq_false (by unfold Volts; omega)).symm)

theorem fd32 (x : Int) : x.fdiv (2 ^ min (Int.toNat 32) IntKind.u64.bits) = x / 4294967296 := Int.fdiv_eq_ediv_of_nonneg x (b := 4294967296) (by omega)
theorem fd16 (x : Int) : x.fdiv (2 ^ min (Int.toNat 16) IntKind.u64.bits) = x / 65536 := Int.fdiv_eq_ediv_of_nonneg x (b := 65536) (by omega)
theorem fd8 (x : Int) : x.fdiv (2 ^ min (Int.toNat 8) IntKind.u64.bits) = x / 256 := Int.fdiv_eq_ediv_of_nonneg x (b := 256) (by omega)

def tab8b : ByteArray := match F148.body with
  | .seq _ (.seq _ (.seq _ (.seq _ (.seq (.region [_, _, _, ⟨_, _, .indexStr (.const (.str s)) _⟩, _, _, _]) _)))) => s
  | _ => ByteArray.empty
def tab8 (n : Int) : Int := ((tab8b[n.toNat]?).map (fun b => (b.toNat : Int))).getD 0
set_option maxRecDepth 100000 in
theorem tab8_all : ∀ i : Fin 256, ∃ b, tab8b[i.val]? = some b ∧ b.toNat ≤ 8 ∧ i.val < 2 ^ b.toNat := by decide +kernel
theorem tab8_ok {n : Int} (h0 : 0 ≤ n) (h1 : n < 256) : 0 ≤ tab8 n ∧ tab8 n ≤ 8 ∧ n < 2 ^ (tab8 n).toNat := by
  obtain ⟨b, hb, h2, h3⟩ := tab8_all ⟨n.toNat, by omega⟩
  simp only at hb h3
  have e : tab8 n = (b.toNat : Int) := by unfold tab8; rw [hb]; rfl
  rw [e]
  refine ⟨by omega, by omega, ?_⟩
  have : ((n.toNat : Nat) : Int) < ((2 ^ b.toNat : Nat) : Int) := by exact_mod_cast h3
  simp only [Int.toNat_natCast]
  push_cast at this
  omega
theorem idx_tab8 {H : Heap} {E : Env} {x i : Opd} {k : IntKind} {n : Int} (hx : x.ev E = .str tab8b) (hi : i.ev E = .int k n) (h0 : 0 ≤ n) (h1 : n < 256) : iop H E (.indexStr x i) = some (.int .u8 (tab8 n)) := by
  obtain ⟨b, hb, _, _⟩ := tab8_all ⟨n.toNat, by omega⟩
  have e : tab8 n = (b.toNat : Int) := by unfold tab8; rw [hb]; rfl
  rw [e]
  exact idx_str hx hi h0 hb
theorem arith_tab {n : Int} {K : IV → Prop} (h0 : 0 ≤ n) (h1 : n < 256) (h : ∀ r : Int, 0 ≤ r → r ≤ 8 → n < 2 ^ r.toNat → K (.int .i64 r)) : Arith .i64 (tab8 n) K := by
  obtain ⟨a, b, c⟩ := tab8_ok h0 h1
  exact .i64 (by omega) (by omega) (h _ a b c)
theorem pw (a : Nat) (A : Int) (hA : A = 2 ^ a) {x s r : Int} (hr : 0 ≤ r) (hs : s = a + r) (h : x < A * 2 ^ r.toNat) : x < 2 ^ s.toNat := by
  subst hs
  rw [show ((a : Int) + r).toNat = a + r.toNat by omega, Int.pow_add, ← hA]
  exact h
set_option maxRecDepth 100000 in
theorem Len_ok (x : Int) (h0 : 0 ≤ x) (h1 : x < 18446744073709551616) : ∃ r : Int, 0 ≤ r ∧ r ≤ 64 ∧ x < 2 ^ r.toNat ∧ ∀ H, Ev T (.call (.func (.func 142) [] []) [.int .u64 x] H) (.call (.int .i64 r) H) := by
  have key : ∃ v, (∃ r : Int, v = .int .i64 r ∧ 0 ≤ r ∧ r ≤ 64 ∧ x < 2 ^ r.toNat) ∧ Noname v ∧ ∀ H, Ev T (.call (.func (.func 148) [] []) [.int .u64 x] H) (.call v H) := by
    refine run_some T148 (nn_cons (nn_int _ _) nn_none) ?_
    repeat' ((conv => whnf); first | ((first | refine condP.dec (fun h => ?_) (fun h => ?_) | refine condP.eq (fun h => ?_) (fun h => ?_) | refine condP.ne (fun h => ?_) (fun h => ?_)) <;> (try simp only [fd32, fd16, fd8] at h ⊢)) | (refine .i64 (by omega) (by omega) ?_) | (refine And.intro rfl ?_))
    all_goals conv => whnf
    all_goals try simp only [fd32, fd16, fd8]
    all_goals refine .u8 (by omega) (by omega) ?_
    all_goals conv => whnf
    all_goals refine onSome.intro (idx_tab8 rfl rfl (by omega) (by omega)) ?_
    all_goals conv => whnf
    all_goals refine arith_tab (by omega) (by omega) (fun r t1 t2 t3 => ?_)
    all_goals conv => whnf
    all_goals refine .i64 (by omega) (by omega) ?_
    all_goals conv => whnf
    all_goals refine .intro (.int .i64 _) _ ⟨_, rfl, by omega, by omega, ?_⟩ (nn_int _ _) (.inl rfl) rfl (.refl _)
    all_goals first
      | exact pw 56 72057594037927936 (by decide) t1 (by omega) (by omega)
      | exact pw 48 281474976710656 (by decide) t1 (by omega) (by omega)
      | exact pw 40 1099511627776 (by decide) t1 (by omega) (by omega)
      | exact pw 32 4294967296 (by decide) t1 (by omega) (by omega)
      | exact pw 24 16777216 (by decide) t1 (by omega) (by omega)
      | exact pw 16 65536 (by decide) t1 (by omega) (by omega)
      | exact pw 8 256 (by decide) t1 (by omega) (by omega)
      | exact pw 0 1 (by decide) t1 (by omega) (by omega)
  obtain ⟨v, ⟨r, rfl, a, b, c⟩, _, h⟩ := key
  refine ⟨r, a, b, c, fun H => run_pure T142 (nn_int _ _) (nn_cons (nn_int _ _) nn_none) ?_ H⟩
  conv => whnf
  refine CallP.pure h ?_
  conv => whnf
  exact .intro (.int .i64 r) (.inl rfl) rfl (.refl _)

theorem pow_le2 {a b : Nat} (h : a ≤ b) : (2 : Int) ^ a ≤ 2 ^ b := by
  have := Nat.pow_le_pow_right (n := 2) (by omega) h
  exact_mod_cast this
theorem shl_one {H : Heap} {E : Env} {x y : Opd} {q : Int} (hx : x.ev E = .int .i64 1) (hy : y.ev E = .int .i64 q) (h0 : 0 ≤ q) (h1 : q ≤ 62) : iop H E (.bin .shl x y) = some (.int .i64 (2 ^ q.toNat)) := by
  have h : (2 : Int) ^ q.toNat ≤ 2 ^ 62 := pow_le2 (by omega)
  have h2 : (0 : Int) < 2 ^ q.toNat := Int.pow_pos (by omega)
  simp only [iop, hx, hy, binI, if_neg (show ¬ q < 0 by omega)]
  rw [show min q.toNat IntKind.i64.bits = q.toNat by simp [IntKind.bits]; omega, Int.one_mul, wrap_in]
  · simp only [IntKind.min, IntKind.signed, IntKind.bits, if_true]; omega
  · simp only [IntKind.max, IntKind.signed, IntKind.bits, if_true]; omega
/-- Newton's steps. -/
theorem cubed_ok (n : Int) (h0 : 0 ≤ n) (h1 : n ≤ 1000000) (H : Heap) : Ev T (.call (.func (.func 120) [] []) [.int .i64 n] H) (.call (.tuple [.int .i64 (rt (n * n * n)), .bool (rt (n * n * n) * rt (n * n * n) == n * n * n)]) H) := by
  refine run_pure T120 (nn_tuple (nn_cons (nn_int _ _) (nn_cons (nn_bool _) nn_none))) (nn_cons (nn_int _ _) nn_none) ?_ H
  obtain ⟨c1, c2, c3, c4⟩ := cube_bounds h0 h1
  conv => whnf
  refine .i64 (by omega) (by omega) ?_
  conv => whnf
  refine .i64 (by omega) (by omega) ?_
  generalize hx : n * n * n = x at *
  conv => whnf
  refine condP.eq (fun h => ?_) (fun h => ?_)
  · subst h
    conv => whnf
    have e : rt 0 = 0 := rt_eq ⟨by omega, by omega, by omega⟩
    exact .intro (.tuple [.int .i64 0, .bool true]) (.inl rfl) rfl (by rw [e]; exact .refl _)
  · conv => whnf
    refine .u64 (by omega) (by omega) ?_
    conv => whnf
    obtain ⟨r, r0, r1, r2, hr⟩ := Len_ok x (by omega) (by omega)
    refine CallP.pure hr ?_
    conv => whnf
    refine .i64 (by omega) (by omega) ?_
    conv => whnf
    have e1 : (r + 1).tdiv 2 = (r + 1) / 2 := Int.tdiv_eq_ediv_of_nonneg (by omega)
    rw [e1]
    refine .i64 (by omega) (by omega) ?_
    conv => whnf
    refine onSome.intro (shl_one rfl rfl (by omega) (by omega)) ?_
    generalize hq : (r + 1) / 2 = q
    have s1 : (2 : Int) ^ q.toNat ≤ 2 ^ 32 := pow_le2 (by omega)
    have s0 : (0 : Int) < 2 ^ q.toNat := Int.pow_pos (by omega)
    have s2 : x < 2 ^ q.toNat * 2 ^ q.toNat := by
      rw [← Int.pow_add]
      exact Int.lt_of_lt_of_le r2 (pow_le2 (by omega))
    generalize (2 : Int) ^ q.toNat = R at *
    have s3 : x < (R + 1) * (R + 1) := by
      rw [Int.add_mul, Int.mul_add]; omega
    conv => whnf
    refine loop_rule (X := Int) (fun r => [(4, .int .i64 x), (5, .int .i64 r)]) (fun _ => []) (fun r => r.toNat) (fun r => 0 < r ∧ r ≤ 4294967296 ∧ x < (r + 1) * (r + 1)) R
      ⟨s0, by omega, s3⟩ ⟨rfl, rfl, trivial⟩ rfl (fun _ _ => rfl) (fun r hr => ?_)
    obtain ⟨p0, p1, p2⟩ := hr
    have hn := newton_above p0 (show 0 ≤ x by omega)
    have q0 := Int.ediv_nonneg (show 0 ≤ x by omega) (show 0 ≤ r by omega)
    have q1 := Int.ediv_le_self (a := x) r (by omega)
    have e2 : Int.tdiv x r = x / r := Int.tdiv_eq_ediv_of_nonneg (by omega)
    have e3 : Int.tdiv (r + x / r) 2 = (r + x / r) / 2 := Int.tdiv_eq_ediv_of_nonneg (by omega)
    conv => whnf
    refine onTrue.intro (by simp; omega) ?_
    rw [e2]
    refine .i64 (by omega) (by omega) ?_
    conv => whnf
    refine .i64 (by omega) (by omega) ?_
    conv => whnf
    rw [e3]
    refine .i64 (by omega) (by omega) ?_
    conv => whnf
    refine condP.dec (fun h => ?_) (fun h => ?_)
    · have hrr := newton_ends p0 h
      have hroot : rt x = r := rt_eq ⟨by omega, hrr, p2⟩
      conv => whnf
      refine .i64 (by have := Int.mul_nonneg (show 0 ≤ r by omega) (show 0 ≤ r by omega); omega) (by omega) ?_
      conv => whnf
      refine condP.eq (fun he => ?_) (fun he => ?_)
      · conv => whnf
        refine .done (by simp) ?_
        conv => whnf
        exact .intro (.tuple [.int .i64 r, .bool true]) (.inl rfl) rfl (by rw [hroot, show (r * r == x) = true by simpa using he]; exact .refl _)
      · conv => whnf
        refine .done (by simp) ?_
        conv => whnf
        exact .intro (.tuple [.int .i64 r, .bool false]) (.inl rfl) rfl (by rw [hroot, show (r * r == x) = false by simpa using he]; exact .refl _)
    · conv => whnf
      have hpos : 0 < (r + x / r) / 2 := by
        apply Classical.byContradiction
        intro hz
        have hz' : (r + x / r) / 2 = 0 := by omega
        rw [hz'] at hn; omega
      exact .more ((r + x / r) / 2) rfl ⟨hpos, by omega, hn⟩ (by omega) ⟨rfl, rfl, trivial⟩ rfl ⟨.int _ _, .int _ _, trivial⟩ trivial

/-- A law, as the program has it. -/
def lawI (p0 p1 g0 g1 s0 s1 f0 f1 q0 q1 : Int) : IV := .agg [.int .i64 p0, .int .i64 p1, .int .i64 g0, .int .i64 g1, .int .i64 s0, .int .i64 s1, .int .i64 f0, .int .i64 f1, .int .i64 q0, .int .i64 q1]
theorem lawI_no (p0 p1 g0 g1 s0 s1 f0 f1 q0 q1 : Int) : Noname (lawI p0 p1 g0 g1 s0 s1 f0 f1 q0 q1) := nn_agg (by simp [nn_int])
/-- A range. -/
def rgI (a b : Int) : IV := .agg [.int .i64 a, .int .i64 b]
theorem rgI_no (a b : Int) : Noname (rgI a b) := nn_agg (by simp [nn_int])

theorem drive_ok {p0 p1 g0 g1 s0 s1 f0 f1 q0 q1 grid plate : Int} (h : LawOk p0 p1 g0 g1 s0 s1 f0 f1 q0 q1) (hv : Volts grid plate) (H : Heap) :
    Ev T (.call (.func (.func 83) [] []) [lawI p0 p1 g0 g1 s0 s1 f0 f1 q0 q1, .int .i64 grid, .int .i64 plate] H) (.call (rgI (dLo g1 s0 grid plate) (dHi g0 s1 grid plate)) H) := by
  refine run_pure T83 (rgI_no _ _) (nn_cons (lawI_no ..) (nn_cons (nn_int _ _) (nn_cons (nn_int _ _) nn_none))) ?_ H
  obtain ⟨h1, h2, h3, h4⟩ := hv
  obtain ⟨_, hg, hs, _, _⟩ := h
  have b1 := quot_bounds (g := g1) (by omega) h3 h4
  have b0 := quot_bounds (g := g0) (by omega) h3 h4
  repeat' ((conv => whnf); first | ((first | refine condP.dec (fun h => ?_) (fun h => ?_) | refine condP.eq (fun h => ?_) (fun h => ?_) | refine condP.ne (fun h => ?_) (fun h => ?_))) | (refine .i64 (by omega) (by omega) ?_) | (refine And.intro rfl ?_))
  conv => whnf
  refine CallP.pure (floor_ok (by omega) (by omega) (by omega) (by omega)) ?_
  repeat' ((conv => whnf); first | ((first | refine condP.dec (fun h => ?_) (fun h => ?_) | refine condP.eq (fun h => ?_) (fun h => ?_) | refine condP.ne (fun h => ?_) (fun h => ?_))) | (refine .i64 (by omega) (by omega) ?_) | (refine And.intro rfl ?_))
  conv => whnf
  refine CallP.pure (brought_ok _) ?_
  repeat' ((conv => whnf); first | ((first | refine condP.dec (fun h => ?_) (fun h => ?_) | refine condP.eq (fun h => ?_) (fun h => ?_) | refine condP.ne (fun h => ?_) (fun h => ?_))) | (refine .i64 (by omega) (by omega) ?_) | (refine And.intro rfl ?_))
  conv => whnf
  refine CallP.pure (ceil_ok (by omega) (by omega) (by omega) (by omega)) ?_
  repeat' ((conv => whnf); first | ((first | refine condP.dec (fun h => ?_) (fun h => ?_) | refine condP.eq (fun h => ?_) (fun h => ?_) | refine condP.ne (fun h => ?_) (fun h => ?_))) | (refine .i64 (by omega) (by omega) ?_) | (refine And.intro rfl ?_))
  conv => whnf
  refine CallP.pure (brought_ok _) ?_
  repeat' ((conv => whnf); first | ((first | refine condP.dec (fun h => ?_) (fun h => ?_) | refine condP.eq (fun h => ?_) (fun h => ?_) | refine condP.ne (fun h => ?_) (fun h => ?_))) | (refine .i64 (by omega) (by omega) ?_) | (refine And.intro rfl ?_))
  conv => whnf
  exact .intro (rgI (dLo g1 s0 grid plate) (dHi g0 s1 grid plate)) (.inl rfl) rfl (.refl _)

theorem current_ok {p0 p1 g0 g1 s0 s1 f0 f1 q0 q1 grid plate : Int} (h : LawOk p0 p1 g0 g1 s0 s1 f0 f1 q0 q1) (hv : Volts grid plate) (H : Heap) :
    Ev T (.call (.func (.func 80) [] []) [lawI p0 p1 g0 g1 s0 s1 f0 f1 q0 q1, .int .i64 grid, .int .i64 plate] H) (.call (rgI (cLo p0 g1 s0 f0 q0 grid plate) (cHi p1 g0 s1 f1 q1 grid plate)) H) := by
  refine run_pure T80 (rgI_no _ _) (nn_cons (lawI_no ..) (nn_cons (nn_int _ _) (nn_cons (nn_int _ _) nn_none))) ?_ H
  have hd := drive_ok h hv
  obtain ⟨hp, hg, hs, hf, hq⟩ := h
  have bl := clamp_bounds (grid + s0 + 1000 * plate / g1)
  have bh := clamp_bounds (grid + s1 + up (1000 * plate) g0)
  unfold cLo cHi
  unfold dLo dHi at *
  generalize clamp (grid + s0 + 1000 * plate / g1) = a at *
  generalize clamp (grid + s1 + up (1000 * plate) g0) = b at *
  have r1 := rt_le bl.1 bl.2
  have r2 := rtUp_bounds bh.1 bh.2
  have r3 := rt_le bh.1 bh.2
  have L := endLo_bounds (p := p0) (f := f0) (q := q0) (by omega) (by omega) (by omega) (by omega) (by omega) (by omega) r1.1 r1.2
  have M := endHi_bounds (p := p1) (f := f1) (q := q1) (r := rtUp (b * b * b)) (by omega) (by omega) (by omega) (by omega) (by omega) (by omega) (by omega) (by omega)
  conv => whnf
  refine CallP.pure hd ?_
  conv => whnf
  refine CallP.pure (cubed_ok a bl.1 bl.2) ?_
  conv => whnf
  refine CallP.pure (cubed_ok b bh.1 bh.2) ?_
  conv => whnf
  refine condP.intro (fun h => ?_) (fun h => ?_)
  · have e : rt (b * b * b) + 1 = rtUp (b * b * b) := by
      unfold rtUp
      rw [if_neg (by simpa using h)]
    conv => whnf
    rw [e]
    have M' := M
    generalize rtUp (b * b * b) = z at *
    refine .i64 (by omega) (by omega) ?_
    generalize rt (a * a * a) = y at *
    repeat' ((conv => whnf); first | ((first | refine condP.dec (fun h => ?_) (fun h => ?_) | refine condP.eq (fun h => ?_) (fun h => ?_) | refine condP.ne (fun h => ?_) (fun h => ?_))) | (refine .i64 (by omega) (by omega) ?_) | (refine And.intro rfl ?_))
    conv => whnf
    refine CallP.pure (floor_ok (by omega) (by omega) (by omega) (by omega)) ?_
    repeat' ((conv => whnf); first | ((first | refine condP.dec (fun h => ?_) (fun h => ?_) | refine condP.eq (fun h => ?_) (fun h => ?_) | refine condP.ne (fun h => ?_) (fun h => ?_))) | (refine .i64 (by omega) (by omega) ?_) | (refine And.intro rfl ?_))
    conv => whnf
    refine CallP.pure (ceil_ok (by omega) (by omega) (by omega) (by omega)) ?_
    repeat' ((conv => whnf); first | ((first | refine condP.dec (fun h => ?_) (fun h => ?_) | refine condP.eq (fun h => ?_) (fun h => ?_) | refine condP.ne (fun h => ?_) (fun h => ?_))) | (refine .i64 (by omega) (by omega) ?_) | (refine And.intro rfl ?_))
    conv => whnf
    refine CallP.pure (floor_ok (by omega) (by omega) (by omega) (by omega)) ?_
    repeat' ((conv => whnf); first | ((first | refine condP.dec (fun h => ?_) (fun h => ?_) | refine condP.eq (fun h => ?_) (fun h => ?_) | refine condP.ne (fun h => ?_) (fun h => ?_))) | (refine .i64 (by omega) (by omega) ?_) | (refine And.intro rfl ?_))
    conv => whnf
    refine CallP.pure (ceil_ok (by omega) (by omega) (by omega) (by omega)) ?_
    repeat' ((conv => whnf); first | ((first | refine condP.dec (fun h => ?_) (fun h => ?_) | refine condP.eq (fun h => ?_) (fun h => ?_) | refine condP.ne (fun h => ?_) (fun h => ?_))) | (refine .i64 (by omega) (by omega) ?_) | (refine And.intro rfl ?_))
    conv => whnf
    exact .intro (rgI (endLo p0 f0 q0 y) (endHi p1 f1 q1 z)) (.inl rfl) rfl (.refl _)
  · have e : rt (b * b * b) = rtUp (b * b * b) := by
      unfold rtUp
      rw [if_pos (by simpa using h)]
    rw [e]
    generalize rtUp (b * b * b) = z at *
    generalize rt (a * a * a) = y at *
    repeat' ((conv => whnf); first | ((first | refine condP.dec (fun h => ?_) (fun h => ?_) | refine condP.eq (fun h => ?_) (fun h => ?_) | refine condP.ne (fun h => ?_) (fun h => ?_))) | (refine .i64 (by omega) (by omega) ?_) | (refine And.intro rfl ?_))
    conv => whnf
    refine CallP.pure (floor_ok (by omega) (by omega) (by omega) (by omega)) ?_
    repeat' ((conv => whnf); first | ((first | refine condP.dec (fun h => ?_) (fun h => ?_) | refine condP.eq (fun h => ?_) (fun h => ?_) | refine condP.ne (fun h => ?_) (fun h => ?_))) | (refine .i64 (by omega) (by omega) ?_) | (refine And.intro rfl ?_))
    conv => whnf
    refine CallP.pure (ceil_ok (by omega) (by omega) (by omega) (by omega)) ?_
    repeat' ((conv => whnf); first | ((first | refine condP.dec (fun h => ?_) (fun h => ?_) | refine condP.eq (fun h => ?_) (fun h => ?_) | refine condP.ne (fun h => ?_) (fun h => ?_))) | (refine .i64 (by omega) (by omega) ?_) | (refine And.intro rfl ?_))
    conv => whnf
    refine CallP.pure (floor_ok (by omega) (by omega) (by omega) (by omega)) ?_
    repeat' ((conv => whnf); first | ((first | refine condP.dec (fun h => ?_) (fun h => ?_) | refine condP.eq (fun h => ?_) (fun h => ?_) | refine condP.ne (fun h => ?_) (fun h => ?_))) | (refine .i64 (by omega) (by omega) ?_) | (refine And.intro rfl ?_))
    conv => whnf
    refine CallP.pure (ceil_ok (by omega) (by omega) (by omega) (by omega)) ?_
    repeat' ((conv => whnf); first | ((first | refine condP.dec (fun h => ?_) (fun h => ?_) | refine condP.eq (fun h => ?_) (fun h => ?_) | refine condP.ne (fun h => ?_) (fun h => ?_))) | (refine .i64 (by omega) (by omega) ?_) | (refine And.intro rfl ?_))
    conv => whnf
    exact .intro (rgI (endLo p0 f0 q0 y) (endHi p1 f1 q1 z)) (.inl rfl) rfl (.refl _)

/-- The error of a range. -/
def rgErr (a b lo hi : Int) : Int := if a > b then 11 else if a < lo ∨ b > hi then 2 else 0
theorem within_ok (a b lo hi : Int) (H : Heap) : Ev T (.call (.func (.func 86) [] []) [rgI a b, .int .i64 lo, .int .i64 hi] H) (.call (.int .i64 (rgErr a b lo hi)) H) := by
  refine run_pure T86 (nn_int _ _) (nn_cons (rgI_no ..) (nn_cons (nn_int _ _) (nn_cons (nn_int _ _) nn_none))) ?_ H
  repeat' ((conv => whnf); first | ((first | refine condP.dec (fun h => ?_) (fun h => ?_) | refine condP.eq (fun h => ?_) (fun h => ?_) | refine condP.ne (fun h => ?_) (fun h => ?_))) | (refine .i64 (by omega) (by omega) ?_) | (refine And.intro rfl ?_))
  all_goals conv => whnf
  all_goals refine .intro (.int .i64 _) (.inl rfl) rfl (frz_int ?_)
  all_goals unfold rgErr
  all_goals split <;> (try split) <;> omega
theorem checkRange_ok (a b lo hi : Int) (H : Heap) : Ev T (.call (.func (.func 87) [] []) [rgI a b, .int .i64 lo, .int .i64 hi] H) (.call (.int .i64 (rgErr a b lo hi)) H) := by
  refine run_pure T87 (nn_int _ _) (nn_cons (rgI_no ..) (nn_cons (nn_int _ _) (nn_cons (nn_int _ _) nn_none))) ?_ H
  repeat' ((conv => whnf); first | ((first | refine condP.dec (fun h => ?_) (fun h => ?_) | refine condP.eq (fun h => ?_) (fun h => ?_) | refine condP.ne (fun h => ?_) (fun h => ?_))) | (refine .i64 (by omega) (by omega) ?_) | (refine And.intro rfl ?_))
  all_goals conv => whnf
  all_goals refine .intro (.int .i64 _) (.inl rfl) rfl (frz_int ?_)
  all_goals unfold rgErr
  all_goals split <;> (try split) <;> omega
/-- The error of a law. -/
def lawErr (p0 p1 g0 g1 s0 s1 f0 f1 q0 q1 : Int) : Int :=
  if rgErr p0 p1 0 1000000 ≠ 0 then rgErr p0 p1 0 1000000 else if rgErr g0 g1 1 1000000 ≠ 0 then rgErr g0 g1 1 1000000 else
  if rgErr s0 s1 (-1000000) 1000000 ≠ 0 then rgErr s0 s1 (-1000000) 1000000 else if rgErr f0 f1 0 1000000 ≠ 0 then rgErr f0 f1 0 1000000 else rgErr q0 q1 0 1000000
theorem CheckLaw_ok (p0 p1 g0 g1 s0 s1 f0 f1 q0 q1 : Int) (H : Heap) : Ev T (.call (.func (.func 33) [] []) [lawI p0 p1 g0 g1 s0 s1 f0 f1 q0 q1] H) (.call (.int .i64 (lawErr p0 p1 g0 g1 s0 s1 f0 f1 q0 q1)) H) := by
  refine run_pure T33 (nn_int _ _) (nn_cons (lawI_no ..) nn_none) ?_ H
  unfold lawErr
  conv => whnf
  refine loop_step ?_
  conv => whnf
  refine CallP.pure (within_ok p0 p1 0 1000000 ) ?_
  generalize rgErr p0 p1 0 1000000 = e0
  conv => whnf
  refine condP.ne (fun h0 => ?_) (fun h0 => ?_)
  · conv => whnf
    exact .intro (.int .i64 e0) (.inl rfl) rfl (frz_int (by simp [h0]))
  conv => whnf
  refine .i64 (by omega) (by omega) ?_
  conv => whnf
  refine loop_step ?_
  conv => whnf
  refine CallP.pure (within_ok g0 g1 1 1000000 ) ?_
  generalize rgErr g0 g1 1 1000000 = e1
  conv => whnf
  refine condP.ne (fun h1 => ?_) (fun h1 => ?_)
  · conv => whnf
    exact .intro (.int .i64 e1) (.inl rfl) rfl (frz_int (by simp [h0, h1]))
  conv => whnf
  refine .i64 (by omega) (by omega) ?_
  conv => whnf
  refine loop_step ?_
  conv => whnf
  refine CallP.pure (within_ok s0 s1 (-1000000) 1000000 ) ?_
  generalize rgErr s0 s1 (-1000000) 1000000 = e2
  conv => whnf
  refine condP.ne (fun h2 => ?_) (fun h2 => ?_)
  · conv => whnf
    exact .intro (.int .i64 e2) (.inl rfl) rfl (frz_int (by simp [h0, h1, h2]))
  conv => whnf
  refine .i64 (by omega) (by omega) ?_
  conv => whnf
  refine loop_step ?_
  conv => whnf
  refine CallP.pure (within_ok f0 f1 0 1000000 ) ?_
  generalize rgErr f0 f1 0 1000000 = e3
  conv => whnf
  refine condP.ne (fun h3 => ?_) (fun h3 => ?_)
  · conv => whnf
    exact .intro (.int .i64 e3) (.inl rfl) rfl (frz_int (by simp [h0, h1, h2, h3]))
  conv => whnf
  refine .i64 (by omega) (by omega) ?_
  conv => whnf
  refine loop_step ?_
  conv => whnf
  refine CallP.pure (within_ok q0 q1 0 1000000 ) ?_
  generalize rgErr q0 q1 0 1000000 = e4
  conv => whnf
  refine condP.ne (fun h4 => ?_) (fun h4 => ?_)
  · conv => whnf
    exact .intro (.int .i64 e4) (.inl rfl) rfl (frz_int (by simp [h0, h1, h2, h3, h4]))
  conv => whnf
  refine .i64 (by omega) (by omega) ?_
  conv => whnf
  refine loop_step ?_
  conv => whnf
  exact .intro (.int .i64 0) (.inl rfl) rfl (frz_int (by simp [h0, h1, h2, h3, h4]))

theorem lawErr_zero {p0 p1 g0 g1 s0 s1 f0 f1 q0 q1 : Int} : lawErr p0 p1 g0 g1 s0 s1 f0 f1 q0 q1 = 0 ↔ LawOk p0 p1 g0 g1 s0 s1 f0 f1 q0 q1 := by
  have key : ∀ a b lo hi : Int, rgErr a b lo hi = 0 ↔ lo ≤ a ∧ a ≤ b ∧ b ≤ hi := by
    intro a b lo hi; unfold rgErr; split <;> (try split) <;> omega
  have k1 := key p0 p1 0 1000000
  have k2 := key g0 g1 1 1000000
  have k3 := key s0 s1 (-1000000) 1000000
  have k4 := key f0 f1 0 1000000
  have k5 := key q0 q1 0 1000000
  unfold lawErr
  constructor
  · intro h
    have : rgErr p0 p1 0 1000000 = 0 ∧ rgErr g0 g1 1 1000000 = 0 ∧ rgErr s0 s1 (-1000000) 1000000 = 0 ∧ rgErr f0 f1 0 1000000 = 0 ∧ rgErr q0 q1 0 1000000 = 0 := by
      split at h
      · omega
      · split at h
        · omega
        · split at h
          · omega
          · split at h
            · omega
            · omega
    exact ⟨k1.mp this.1, k2.mp this.2.1, k3.mp this.2.2.1, k4.mp this.2.2.2.1, k5.mp this.2.2.2.2⟩
  · rintro ⟨h1, h2, h3, h4, h5⟩
    rw [k1.mpr h1, k2.mpr h2, k3.mpr h3, k4.mpr h4, k5.mpr h5]; simp
/-- The error of a law and voltages. -/
def askErr (p0 p1 g0 g1 s0 s1 f0 f1 q0 q1 grid plate : Int) : Int := if lawErr p0 p1 g0 g1 s0 s1 f0 f1 q0 q1 ≠ 0 then lawErr p0 p1 g0 g1 s0 s1 f0 f1 q0 q1 else if Volts grid plate then 0 else 2
theorem asked_ok (p0 p1 g0 g1 s0 s1 f0 f1 q0 q1 grid plate : Int) (H : Heap) : Ev T (.call (.func (.func 79) [] []) [lawI p0 p1 g0 g1 s0 s1 f0 f1 q0 q1, .int .i64 grid, .int .i64 plate] H) (.call (.int .i64 (askErr p0 p1 g0 g1 s0 s1 f0 f1 q0 q1 grid plate)) H) := by
  refine run_pure T79 (nn_int _ _) (nn_cons (lawI_no ..) (nn_cons (nn_int _ _) (nn_cons (nn_int _ _) nn_none))) ?_ H
  unfold askErr
  have h0 := CheckLaw_ok p0 p1 g0 g1 s0 s1 f0 f1 q0 q1
  generalize lawErr p0 p1 g0 g1 s0 s1 f0 f1 q0 q1 = e at *
  conv => whnf
  refine CallP.pure h0 ?_
  conv => whnf
  refine condP.ne (fun h => ?_) (fun h => ?_)
  · conv => whnf
    exact .intro (.int .i64 e) (.inl rfl) rfl (frz_int (by simp [h]))
  · conv => whnf
    refine CallP.pure (voltages_ok grid plate) ?_
    conv => whnf
    refine condP.intro (fun h2 => ?_) (fun h2 => ?_)
    · conv => whnf
      exact .intro (.int .i64 2) (.inl rfl) rfl (frz_int (by simp at h2; simp [h, h2]))
    · conv => whnf
      exact .intro (.int .i64 0) (.inl rfl) rfl (frz_int (by simp at h2; simp [h, h2]))

theorem askErr_zero {p0 p1 g0 g1 s0 s1 f0 f1 q0 q1 grid plate : Int} (h : askErr p0 p1 g0 g1 s0 s1 f0 f1 q0 q1 grid plate = 0) : LawOk p0 p1 g0 g1 s0 s1 f0 f1 q0 q1 ∧ Volts grid plate := by
  unfold askErr at h
  split at h
  · rename_i h'; exact absurd h h'
  · rename_i h'
    split at h
    · rename_i h2; exact ⟨lawErr_zero.mp (by simpa using h'), h2⟩
    · omega
/-- A range, or an error. -/
def orErr (e a b : Int) : IV := if e = 0 then .tuple [rgI a b, .int .i64 0] else .tuple [rgI 0 0, .int .i64 e]
theorem orErr_no (e a b : Int) : Noname (orErr e a b) := by
  unfold orErr
  split <;> exact nn_tuple (nn_cons (rgI_no _ _) (nn_cons (nn_int _ _) nn_none))
theorem Current_ok (p0 p1 g0 g1 s0 s1 f0 f1 q0 q1 grid plate : Int) (H : Heap) : Ev T (.call (.func (.func 27) [] []) [lawI p0 p1 g0 g1 s0 s1 f0 f1 q0 q1, .int .i64 grid, .int .i64 plate] H)
    (.call (orErr (askErr p0 p1 g0 g1 s0 s1 f0 f1 q0 q1 grid plate) (cLo p0 g1 s0 f0 q0 grid plate) (cHi p1 g0 s1 f1 q1 grid plate)) H) := by
  refine run_pure T27 (orErr_no ..) (nn_cons (lawI_no ..) (nn_cons (nn_int _ _) (nn_cons (nn_int _ _) nn_none))) ?_ H
  have ha := asked_ok p0 p1 g0 g1 s0 s1 f0 f1 q0 q1 grid plate
  have hz := @askErr_zero p0 p1 g0 g1 s0 s1 f0 f1 q0 q1 grid plate
  generalize askErr p0 p1 g0 g1 s0 s1 f0 f1 q0 q1 grid plate = e at *
  conv => whnf
  refine CallP.pure ha ?_
  conv => whnf
  refine condP.ne (fun h => ?_) (fun h => ?_)
  · conv => whnf
    exact .intro (.tuple [rgI 0 0, .int .i64 e]) (.inl rfl) rfl (frz_eq (by rw [orErr, if_neg h]))
  · obtain ⟨h1, h2⟩ := hz h
    conv => whnf
    refine CallP.pure (current_ok h1 h2) ?_
    conv => whnf
    exact .intro (.tuple [rgI _ _, .int .i64 0]) (.inl rfl) rfl (frz_eq (by rw [orErr, if_pos h]))
end Go.Proofs.Ytbomgfbfnkfamaa.I
