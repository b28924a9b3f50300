/- Families of currents: their errors, their places. -/
import Derived.Test.YtlfaglkkeahamaaGreatKlaw
import Derived.Test.YtlfaglkkeahamaaGreatMfam
set_option linter.unusedVariables false
set_option maxHeartbeats 4000000
set_option linter.unusedSimpArgs false
namespace Go.Proofs.YtlfaglkkeahamaaGreat.I
open Go.Ideal

theorem nn_func0 (f : FuncId) : Noname (.func (.func f) [] []) := .func _ _ _ (fun i h => by simp at h) (fun i h => by simp at h)

theorem id_ok (n : Int) (H : Heap) : Ev T (.call (.func (.func 197) [] []) [.int .i64 n] H) (.call (.int .i64 n) H) := by
  refine run_pure T197 (nn_int _ _) (nn_cons (nn_int _ _) nn_none) ?_ H
  conv => whnf
  exact .intro (.int .i64 n) (.inl rfl) rfl (.refl _)
/-- A part, as the program has it. -/
def partI (a u o : Int) : IV := .agg [.int .i64 a, .int .i64 u, .int .i64 o]
theorem partI_no (a u o : Int) : Noname (partI a u o) := nn_agg (by simp [nn_int])
theorem mul_le3 {a b m n : Int} (a0 : 0 ≤ a) (a1 : a ≤ m) (b0 : 0 ≤ b) (b1 : b ≤ n) : 0 ≤ a * b ∧ a * b ≤ m * n := ⟨Int.mul_nonneg a0 b0, Int.mul_le_mul a1 b1 b0 (by omega)⟩
theorem mixed_ok {row : List Int} {a u o : Int} (s : Plc row.length a u o) (hl : row.length ≤ 1000) (ho : o ≤ 2000000) (hb : ∀ k, k < row.length → 0 ≤ nth row k ∧ nth row k ≤ 1000000) (H : Heap) :
    Ev T (.call (.func (.func 196) [] []) [partI a u o, sl row, .func (.func 197) [] []] H) (.call (.int .i64 (mixI (nth row) a u o)) H) := by
  refine run_pure T196 (nn_int _ _) (nn_cons (partI_no ..) (nn_cons (sl_no _) (nn_cons (nn_func0 _) nn_none))) ?_ H
  obtain ⟨s0, s1, s2, s3, s4⟩ := s
  have b1 := hb a.toNat (by omega)
  have m1 := mul_le3 (show 0 ≤ o - u by omega) (show o - u ≤ 2000000 by omega) b1.1 b1.2
  unfold mixI
  repeat' ((conv => whnf); first | (first | refine condP.dec (fun h => ?_) (fun h => ?_) | refine condP.eq (fun h => ?_) (fun h => ?_) | refine condP.ne (fun h => ?_) (fun h => ?_)) | (refine .i64 (by omega) (by omega) ?_) | (refine onSome.intro (idx_fs rfl rfl (by omega) (by omega) (fun _ => rfl)) ?_) | (refine onSome.intro (load_fs rfl (by omega) (by omega) rfl) ?_) | (refine And.intro rfl ?_))
  conv => whnf
  refine CallP.pure (id_ok _) ?_
  rw [show at' row a = nth row a.toNat from rfl]
  generalize nth row a.toNat = v at *
  (repeat ((conv => whnf); refine And.intro rfl ?_)); conv => whnf
  refine .i64 (by omega) (by omega) ?_
  conv => whnf
  refine condP.dec (fun h => ?_) (fun h => ?_)
  · have b2 := hb (a + 1).toNat (by have := s2 h; omega)
    have m2 := mul_le3 (show 0 ≤ u by omega) (show u ≤ 2000000 by omega) b2.1 b2.2
    have s2 := s2 h
    repeat' ((conv => whnf); first | (first | refine condP.dec (fun h => ?_) (fun h => ?_) | refine condP.eq (fun h => ?_) (fun h => ?_) | refine condP.ne (fun h => ?_) (fun h => ?_)) | (refine .i64 (by omega) (by omega) ?_) | (refine onSome.intro (idx_fs rfl rfl (by omega) (by omega) (fun _ => rfl)) ?_) | (refine onSome.intro (load_fs rfl (by omega) (by omega) rfl) ?_) | (refine And.intro rfl ?_))
    conv => whnf
    refine CallP.pure (id_ok _) ?_
    rw [show at' row (a + 1) = nth row (a + 1).toNat from rfl, if_pos h]
    have m3 : (o - u) * v + u * nth row (a + 1).toNat ≤ o * 1000000 := by
      have e1 := Int.mul_le_mul_of_nonneg_left b1.2 (show 0 ≤ o - u by omega)
      have e2 := Int.mul_le_mul_of_nonneg_left b2.2 (show 0 ≤ u by omega)
      rw [Int.sub_mul] at e1
      rw [Int.sub_mul] at *
      omega
    generalize nth row (a + 1).toNat = w at *
    (repeat ((conv => whnf); refine And.intro rfl ?_)); conv => whnf
    refine .i64 (by omega) (by omega) ?_
    conv => whnf
    refine .i64 (by omega) (by omega) ?_
    conv => whnf
    exact .intro (.int .i64 ((o - u) * v + u * w)) (.inl rfl) rfl (.refl _)
  · rw [if_neg h]
    conv => whnf
    exact .intro (.int .i64 ((o - u) * v)) (.inl rfl) rfl (frz_int (by omega))

theorem row_len {t : List (List Int)} {n m : Nat} (ht : TabOk n m t) {a : Int} (h0 : 0 ≤ a) (h1 : a < n) : (at' t a).length = m := ht.row a.toNat (by omega)
theorem value_ok {t : List (List Int)} {n m : Nat} (ht : TabOk n m t) (hn : n ≤ 1000) (hm : m ≤ 1000) (hb : ∀ i k, i < n → k < m → 0 ≤ vc t i k ∧ vc t i k ≤ 1000000) {xa xu xo ya yu yo : Int} (x : Plc n xa xu xo) (y : Plc m ya yu yo) (xb : xo ≤ 2000000) (yb : yo ≤ 1000000) (H : Heap) :
    Ev T (.call (.func (.func 179) [] []) [sll t, partI xa xu xo, partI ya yu yo] H) (.call (.int .i64 (vat t xa xu xo ya yu yo)) H) := by
  refine run_pure T179 (nn_int _ _) (nn_cons (sll_no _) (nn_cons (partI_no ..) (nn_cons (partI_no ..) nn_none))) ?_ H
  have hlen := ht.len
  have hpos := Plc.pos y
  have rowb : ∀ a : Int, 0 ≤ a → a < n → 0 ≤ mixI (nth (at' t a)) ya yu yo ∧ mixI (nth (at' t a)) ya yu yo ≤ 1000000000000 := by
    intro a h0 h1
    have := mix_bounds y (h := nth (at' t a)) (M := 1000000) (fun k hk => hb a.toNat k (by omega) hk)
    have e := Int.mul_le_mul_of_nonneg_right yb (show (0 : Int) ≤ 1000000 by omega)
    omega
  have rowok : ∀ a : Int, 0 ≤ a → a < n → ∀ H, Ev T (.call (.func (.func 196) [] []) [partI ya yu yo, sl (at' t a), .func (.func 197) [] []] H) (.call (.int .i64 (mixI (nth (at' t a)) ya yu yo)) H) := by
    intro a h0 h1 H
    have hr := row_len ht h0 h1
    exact mixed_ok (row := at' t a) (by rw [hr]; exact y) (by omega) (by omega) (fun k hk => hb a.toNat k (by omega) (by omega)) H
  have hv : vat t xa xu xo ya yu yo = (xo - xu) * mixI (nth (at' t xa)) ya yu yo + (if 0 < xu then xu * mixI (nth (at' t (xa + 1))) ya yu yo else 0) := rfl
  rw [hv]
  obtain ⟨s0, s1, s2, s3, s4⟩ := x
  have b1 := rowb xa s0 (by omega)
  have o1 := rowok xa s0 (by omega)
  have m1 := mul_le3 (show 0 ≤ xo - xu by omega) (show xo - xu ≤ 2000000 by omega) b1.1 b1.2
  generalize mixI (nth (at' t xa)) ya yu yo = v at *
  conv => whnf
  refine CallP.inl T194 rfl ?_
  repeat' ((conv => whnf); first | (first | refine condP.dec (fun h => ?_) (fun h => ?_) | refine condP.eq (fun h => ?_) (fun h => ?_) | refine condP.ne (fun h => ?_) (fun h => ?_)) | (refine .i64 (by omega) (by omega) ?_) | (refine onSome.intro (idx_fs rfl rfl (by omega) (by omega) (fun _ => rfl)) ?_) | (refine onSome.intro (load_fs rfl (by omega) (by omega) rfl) ?_) | (refine And.intro rfl ?_))
  conv => whnf
  refine CallP.inl T195 rfl ?_
  conv => whnf
  refine CallP.pure o1 ?_
  (repeat ((conv => whnf); refine And.intro rfl ?_)); conv => whnf
  refine .i64 (by omega) (by omega) ?_
  conv => whnf
  refine condP.dec (fun h => ?_) (fun h => ?_)
  · have s2 := s2 h
    have b2 := rowb (xa + 1) (by omega) (by omega)
    have o2 := rowok (xa + 1) (by omega) (by omega)
    have m2 := mul_le3 (show 0 ≤ xu by omega) (show xu ≤ 2000000 by omega) b2.1 b2.2
    rw [if_pos h]
    have m3 : (xo - xu) * v + xu * mixI (nth (at' t (xa + 1))) ya yu yo ≤ xo * 1000000000000 := by
      have e1 := Int.mul_le_mul_of_nonneg_left b1.2 (show 0 ≤ xo - xu by omega)
      have e2 := Int.mul_le_mul_of_nonneg_left b2.2 (show 0 ≤ xu by omega)
      rw [Int.sub_mul] at e1
      rw [Int.sub_mul] at *
      omega
    generalize mixI (nth (at' t (xa + 1))) ya yu yo = w at *
    repeat' ((conv => whnf); first | (first | refine condP.dec (fun h => ?_) (fun h => ?_) | refine condP.eq (fun h => ?_) (fun h => ?_) | refine condP.ne (fun h => ?_) (fun h => ?_)) | (refine .i64 (by omega) (by omega) ?_) | (refine onSome.intro (idx_fs rfl rfl (by omega) (by omega) (fun _ => rfl)) ?_) | (refine onSome.intro (load_fs rfl (by omega) (by omega) rfl) ?_) | (refine And.intro rfl ?_))
    conv => whnf
    refine CallP.inl T195 rfl ?_
    conv => whnf
    refine CallP.pure o2 ?_
    (repeat ((conv => whnf); refine And.intro rfl ?_)); conv => whnf
    refine .i64 (by omega) (by omega) ?_
    conv => whnf
    refine .i64 (by omega) (by omega) ?_
    conv => whnf
    exact .intro (.int .i64 ((xo - xu) * v + xu * w)) (.inl rfl) rfl (.refl _)
  · rw [if_neg h]
    conv => whnf
    exact .intro (.int .i64 ((xo - xu) * v)) (.inl rfl) rfl (frz_int (by omega))

theorem cnan_ok (n : Int) (H : Heap) : Ev T (.call (.func (.func 202) [] []) [.int .i64 n] H) (.call (.bool false) H) := by
  refine run_pure T202 (nn_bool _) (nn_cons (nn_int _ _) nn_none) ?_ H
  conv => whnf
  refine condP.ne (fun h => absurd rfl h) (fun _ => ?_)
  conv => whnf
  exact .intro (.bool false) (.inl rfl) rfl (.refl _)
theorem snan_ok (n : Int) (H : Heap) : Ev T (.call (.func (.func 201) [] []) [.int .i64 n] H) (.call (.bool false) H) := by
  refine run_pure T201 (nn_bool _) (nn_cons (nn_int _ _) nn_none) ?_ H
  conv => whnf
  refine condP.ne (fun h => absurd rfl h) (fun _ => ?_)
  conv => whnf
  exact .intro (.bool false) (.inl rfl) rfl (.refl _)
theorem less_ok (a b : Int) (H : Heap) : Ev T (.call (.func (.func 200) [] []) [.int .i64 a, .int .i64 b] H) (.call (.bool (decide (a < b))) H) := by
  refine run_pure T200 (nn_bool _) (nn_cons (nn_int _ _) (nn_cons (nn_int _ _) nn_none)) ?_ H
  conv => whnf
  refine CallP.pure (cnan_ok _) ?_
  conv => whnf
  refine condP.dec (fun h => ?_) (fun h => ?_)
  · conv => whnf
    exact .intro (.bool true) (.inl rfl) rfl (frz_bool (decide_eq_true h).symm)
  · conv => whnf
    exact .intro (.bool false) (.inl rfl) rfl (frz_bool (decide_eq_false h).symm)
theorem fd1 (x : Int) : x.fdiv (2 ^ min (Int.toNat 1) IntKind.u64.bits) = x / 2 := Int.fdiv_eq_ediv_of_nonneg x (b := 2) (by omega)
/-- Looked for by halving. -/
theorem bs_ok {l : List Int} (ha : Asc l) (hl : l.length ≤ 1000) (v : Int) : ∃ (p : Nat) (b : Bool), p ≤ l.length ∧ (∀ q, q < p → nth l q < v) ∧ (∀ q, p ≤ q → q < l.length → v ≤ nth l q) ∧ (b = true ↔ p < l.length ∧ nth l p = v) ∧
    ∀ H, Ev T (.call (.func (.func 193) [] []) [sl l, .int .i64 v] H) (.call (.tuple [.int .i64 p, .bool b]) H) := by
  have key : ∃ x, (∃ (p : Nat) (b : Bool), x = .tuple [.int .i64 p, .bool b] ∧ p ≤ l.length ∧ (∀ q, q < p → nth l q < v) ∧ (∀ q, p ≤ q → q < l.length → v ≤ nth l q) ∧ (b = true ↔ p < l.length ∧ nth l p = v)) ∧ Noname x ∧
      ∀ H, Ev T (.call (.func (.func 193) [] []) [sl l, .int .i64 v] H) (.call x H) := by
    refine run_some T193 (nn_cons (sl_no _) (nn_cons (nn_int _ _) nn_none)) ?_
    conv => whnf
    refine loop_rule (X := Nat × Nat) (fun x => [(0, sl l), (1, .int .i64 v), (6, .int .i64 l.length), (7, .int .i64 x.1), (8, .int .i64 x.2)]) (fun _ => []) (fun x => x.2 - x.1)
      (fun x => x.1 ≤ x.2 ∧ x.2 ≤ l.length ∧ (∀ q, q < x.1 → nth l q < v) ∧ (∀ q, x.2 ≤ q → q < l.length → v ≤ nth l q)) (0, l.length)
      ⟨Nat.zero_le _, Nat.le_refl _, fun q hq => by simp at hq, fun q h1 h2 => by simp at h1; omega⟩ ⟨rfl, rfl, by simp [sl, List.length_map]; rfl, rfl, by simp [sl, List.length_map]; rfl, trivial⟩ rfl (fun _ _ => rfl) (fun x hx => ?_)
    obtain ⟨i, j⟩ := x
    obtain ⟨h1, h2, h3, h4⟩ := hx
    dsimp only at h1 h2 h3 h4 ⊢
    conv => whnf
    refine condP.dec (fun h => ?_) (fun h => ?_)
    · conv => whnf
      refine .i64 (by omega) (by omega) ?_
      conv => whnf
      refine .u64 (by omega) (by omega) ?_
      conv => whnf
      rw [fd1]
      obtain ⟨m, hm⟩ : ∃ m : Nat, ((i : Int) + j) / 2 = m := ⟨(i + j) / 2, by omega⟩
      rw [hm]
      refine .i64 (by omega) (by omega) ?_
      conv => whnf
      refine onSome.intro (idx_fs rfl rfl (by omega) (by omega) (fun _ => rfl)) ?_
      conv => whnf
      refine onSome.intro (load_fs (v := .int .i64 (nth l m)) rfl (by omega) (by omega) rfl) ?_
      conv => whnf
      refine CallP.dec (less_ok _ _) (fun hv => ?_) (fun hv => ?_)
      · conv => whnf
        refine .i64 (by omega) (by omega) ?_
        conv => whnf
        refine .more (m + 1, j) rfl ⟨by dsimp only; omega, h2, fun q hq => ?_, h4⟩ (by dsimp only; omega) ⟨rfl, rfl, rfl, rfl, rfl, trivial⟩ rfl ⟨(sl_no _).inn _, .int _ _, .int _ _, .int _ _, .int _ _, trivial⟩ trivial
        rcases Nat.lt_or_ge q m with c | c
        · have := ha q m c (by omega); omega
        · obtain rfl : q = m := by dsimp only at hq; omega
          exact hv
      · conv => whnf
        refine .more (i, m) rfl ⟨by dsimp only; omega, by dsimp only; omega, h3, fun q hq hq2 => ?_⟩ (by dsimp only; omega) ⟨rfl, rfl, rfl, rfl, rfl, trivial⟩ rfl ⟨(sl_no _).inn _, .int _ _, .int _ _, .int _ _, .int _ _, trivial⟩ trivial
        dsimp only at hq
        rcases Nat.lt_or_ge m q with c | c
        · have := ha m q c hq2; omega
        · obtain rfl : q = m := by omega
          omega
    · obtain rfl : i = j := by omega
      conv => whnf
      refine .done (by simp) ?_
      conv => whnf
      refine condP.dec (fun h => ?_) (fun h => ?_)
      · have hlt : i < l.length := by simpa using h
        conv => whnf
        refine onSome.intro (idx_fs rfl rfl (by omega) (by omega) (fun _ => rfl)) ?_
        conv => whnf
        refine onSome.intro (load_fs (i := (i : Int)) (v := .int .i64 (nth l i)) rfl (by omega) (by omega) rfl) ?_
        conv => whnf
        refine condP.eq (fun he => ?_) (fun he => ?_)
        · conv => whnf
          exact .intro (.tuple [.int .i64 i, .bool true]) (.tuple [.int .i64 i, .bool true]) ⟨i, true, rfl, h2, h3, h4, by simp; exact ⟨by omega, by simpa using he⟩⟩ (nn_tuple (nn_cons (nn_int _ _) (nn_cons (nn_bool _) nn_none))) (.inl rfl) rfl (.refl _)
        · conv => whnf
          refine onSome.intro (idx_fs rfl rfl (by omega) (by omega) (fun _ => rfl)) ?_
          conv => whnf
          refine onSome.intro (load_fs (i := (i : Int)) (v := .int .i64 (nth l i)) rfl (by omega) (by omega) rfl) ?_
          conv => whnf
          refine CallP.pure (snan_ok _) ?_
          conv => whnf
          exact .intro (.tuple [.int .i64 i, .bool false]) (.tuple [.int .i64 i, .bool false]) ⟨i, false, rfl, h2, h3, h4, by simp; exact fun _ => by simpa using he⟩ (nn_tuple (nn_cons (nn_int _ _) (nn_cons (nn_bool _) nn_none))) (.inl rfl) rfl (.refl _)
      · have hlt : ¬ i < l.length := by simpa using h
        conv => whnf
        exact .intro (.tuple [.int .i64 i, .bool false]) (.tuple [.int .i64 i, .bool false]) ⟨i, false, rfl, h2, h3, h4, by simp; omega⟩ (nn_tuple (nn_cons (nn_int _ _) (nn_cons (nn_bool _) nn_none))) (.inl rfl) rfl (.refl _)
  obtain ⟨x, ⟨p, b, rfl, q1, q2, q3, q4⟩, _, h⟩ := key
  exact ⟨p, b, q1, q2, q3, q4, h⟩

theorem voltages_any (g p : Int) : ∃ b : Bool, (b = true ↔ Volts g p) ∧ ∀ H, Ev T (.call (.func (.func 176) [] []) [.int .i64 g, .int .i64 p] H) (.call (.bool b) H) := ⟨decide (Volts g p), by simp, voltages_ok g p⟩
theorem lines_ok (g p : List Int) (hg : g.length ≤ 9000000000000000000) (hp : p.length ≤ 9000000000000000000) (H : Heap) : Ev T (.call (.func (.func 161) [] []) [sl g, sl p] H) (.call (.int .i64 (linesErr g p)) H) := by
  refine run_pure T161 (nn_int _ _) (nn_cons (sl_no _) (nn_cons (sl_no _) nn_none)) ?_ H
  have e1 : (g.map ei).length = g.length := List.length_map ..
  have e2 : (p.map ei).length = p.length := List.length_map ..
  by_cases c1 : g.length = 0 ∨ p.length = 0
  · have hL : linesErr g p = 6 := by unfold linesErr; rw [if_pos c1]
    rw [hL]
    repeat' ((conv => whnf); refine condP.eq (fun h => ?_) (fun h => ?_))
    all_goals first | (exfalso; omega) | skip
    all_goals conv => whnf
    all_goals exact .intro (.int .i64 6) (.inl rfl) rfl (.refl _)
  by_cases c2 : 40 < g.length ∨ 40 < p.length
  · have hL : linesErr g p = 8 := by unfold linesErr; rw [if_neg c1, if_pos c2]
    rw [hL]
    conv => whnf
    refine condP.eq (fun h => absurd h (by omega)) (fun h => ?_)
    conv => whnf
    refine condP.eq (fun h => absurd h (by omega)) (fun h2 => ?_)
    conv => whnf
    refine condP.dec (fun h3 => ?_) (fun h3 => ?_)
    · conv => whnf
      exact .intro (.int .i64 8) (.inl rfl) rfl (.refl _)
    · conv => whnf
      refine condP.dec (fun h4 => ?_) (fun h4 => absurd h4 (by omega))
      conv => whnf
      exact .intro (.int .i64 8) (.inl rfl) rfl (.refl _)
  · have hx : ∃ r, r = linesErr g p := ⟨_, rfl⟩
    obtain ⟨r, hr⟩ := hx
    rw [← hr]
    unfold linesErr at hr
    rw [if_neg c1, if_neg c2] at hr
    conv => whnf
    refine condP.eq (fun h => absurd h (by omega)) (fun h => ?_)
    conv => whnf
    refine condP.eq (fun h => absurd h (by omega)) (fun h2 => ?_)
    conv => whnf
    refine condP.dec (fun h3 => absurd h3 (by omega)) (fun h3 => ?_)
    conv => whnf
    refine condP.dec (fun h4 => absurd h4 (by omega)) (fun h4 => ?_)
    conv => whnf
    refine loop_step ?_
    conv => whnf
    refine loop_rule (X := Nat) (fun i => [(29, .agg [sl g, sl p]), (30, .int .i64 0), (5, .int .i64 0), (6, sl g), (34, sl g), (35, .int .i64 (g).length), (36, .int .i64 i)]) (fun _ => []) (fun i => (g).length - i) (fun i => i ≤ (g).length ∧ firstErr (lineE (-1000000) 1000000 g) i = 0) 0
      ⟨Nat.zero_le _, rfl⟩ ⟨rfl, rfl, rfl, rfl, rfl, by simp [sl, List.length_map]; rfl, rfl, trivial⟩ rfl (fun _ _ => rfl) (fun i hi => ?_)
    obtain ⟨hi, h0⟩ := hi
    conv => whnf
    refine condP.dec (fun hlt => ?_) (fun hlt => ?_)
    · have hnext : lineE (-1000000) 1000000 g i = 0 → firstErr (lineE (-1000000) 1000000 g) (i + 1) = 0 := fun h => firstErr_succ h0 h
      have hstop : lineE (-1000000) 1000000 g i ≠ 0 → firstErr (lineE (-1000000) 1000000 g) (g).length = lineE (-1000000) 1000000 g i := fun h => firstErr_stop h0 h (by omega)
      conv => whnf
      refine onSome.intro (idx_fs rfl rfl (by omega) (by omega) (fun _ => rfl)) ?_
      conv => whnf
      refine onSome.intro (load_fs (i := (i : Int)) (v := .int .i64 (nth g i)) rfl (by omega) (by omega) rfl) ?_
      conv => whnf
      refine Exists.elim (voltages_any (nth g i) 0) (fun b hbc => ?_)
      have hb := hbc.1
      refine CallP.pure hbc.2 ?_
      clear hbc
      cases b
      · have hE : lineE (-1000000) 1000000 g i = 2 := by
          have hv : ¬ Volts (nth g i) 0 := by simpa using hb
          unfold lineE; rw [if_neg (by unfold Volts at hv; omega)]
        conv => whnf
        refine .done (by simp) ?_
        conv => whnf
        refine .intro (.int .i64 2) (.inl rfl) rfl (frz_int ?_)
        have := hstop (by omega)
        rw [hr, if_pos (by omega)]; omega
      · have hv : Volts (nth g i) 0 := by simpa using hb
        unfold Volts at hv
        conv => whnf
        refine condP.dec (fun h => ?_) (fun h => ?_)
        · conv => whnf
          refine .i64 (by omega) (by omega) ?_
          rw [show ((i : Int) - 1) = ((i - 1 : Nat) : Int) by omega]
          conv => whnf
          refine onSome.intro (idx_fs rfl rfl (by omega) (by omega) (fun _ => rfl)) ?_
          conv => whnf
          refine onSome.intro (load_fs (i := ((i - 1 : Nat) : Int)) (v := .int .i64 (nth g (i - 1))) rfl (by omega) (by omega) rfl) ?_
          conv => whnf
          refine condP.dec (fun h2 => ?_) (fun h2 => ?_)
          · have hE : lineE (-1000000) 1000000 g i = 11 := by unfold lineE; rw [if_pos (by omega), if_pos (by omega)]
            conv => whnf
            refine .done (by simp) ?_
            conv => whnf
            refine .intro (.int .i64 11) (.inl rfl) rfl (frz_int ?_)
            have := hstop (by omega)
            rw [hr, if_pos (by omega)]; omega
          · have hE : lineE (-1000000) 1000000 g i = 0 := by unfold lineE; rw [if_pos (by omega), if_neg (by omega)]
            conv => whnf
            refine .i64 (by omega) (by omega) ?_
            conv => whnf
            exact .more (i + 1) rfl ⟨by omega, hnext hE⟩ (by omega) ⟨rfl, rfl, rfl, rfl, rfl, rfl, rfl, trivial⟩ rfl ⟨(nn_agg (nn_cons (sl_no _) (nn_cons (sl_no _) nn_none))).inn _, .int _ _, .int _ _, (sl_no _).inn _, (sl_no _).inn _, .int _ _, .int _ _, trivial⟩ trivial
        · have hE : lineE (-1000000) 1000000 g i = 0 := by unfold lineE; rw [if_pos (by omega), if_neg (by omega)]
          conv => whnf
          refine .i64 (by omega) (by omega) ?_
          conv => whnf
          exact .more (i + 1) rfl ⟨by omega, hnext hE⟩ (by omega) ⟨rfl, rfl, rfl, rfl, rfl, rfl, rfl, trivial⟩ rfl ⟨(nn_agg (nn_cons (sl_no _) (nn_cons (sl_no _) nn_none))).inn _, .int _ _, .int _ _, (sl_no _).inn _, (sl_no _).inn _, .int _ _, .int _ _, trivial⟩ trivial
    · obtain rfl : i = (g).length := by omega
      conv => whnf
      refine .done (by simp) ?_
      conv => whnf
      refine .i64 (by omega) (by omega) ?_
      conv => whnf
      refine loop_step ?_
      conv => whnf
      refine loop_rule (X := Nat) (fun i => [(29, .agg [sl g, sl p]), (30, .int .i64 1), (5, .int .i64 1), (6, sl p), (34, sl p), (35, .int .i64 (p).length), (36, .int .i64 i)]) (fun _ => []) (fun i => (p).length - i) (fun i => i ≤ (p).length ∧ firstErr (lineE (0) 1000000 p) i = 0) 0
        ⟨Nat.zero_le _, rfl⟩ ⟨rfl, rfl, rfl, rfl, rfl, by simp [sl, List.length_map]; rfl, rfl, trivial⟩ rfl (fun _ _ => rfl) (fun i hi => ?_)
      obtain ⟨hi, h0⟩ := hi
      conv => whnf
      refine condP.dec (fun hlt => ?_) (fun hlt => ?_)
      · have hnext : lineE (0) 1000000 p i = 0 → firstErr (lineE (0) 1000000 p) (i + 1) = 0 := fun h => firstErr_succ h0 h
        have hstop : lineE (0) 1000000 p i ≠ 0 → firstErr (lineE (0) 1000000 p) (p).length = lineE (0) 1000000 p i := fun h => firstErr_stop h0 h (by omega)
        conv => whnf
        refine onSome.intro (idx_fs rfl rfl (by omega) (by omega) (fun _ => rfl)) ?_
        conv => whnf
        refine onSome.intro (load_fs (i := (i : Int)) (v := .int .i64 (nth p i)) rfl (by omega) (by omega) rfl) ?_
        conv => whnf
        refine Exists.elim (voltages_any 0 (nth p i)) (fun b hbc => ?_)
        have hb := hbc.1
        refine CallP.pure hbc.2 ?_
        clear hbc
        cases b
        · have hE : lineE (0) 1000000 p i = 2 := by
            have hv : ¬ Volts 0 (nth p i) := by simpa using hb
            unfold lineE; rw [if_neg (by unfold Volts at hv; omega)]
          conv => whnf
          refine .done (by simp) ?_
          conv => whnf
          refine .intro (.int .i64 2) (.inl rfl) rfl (frz_int ?_)
          have := hstop (by omega)
          rw [hr, if_neg (by omega)]; omega
        · have hv : Volts 0 (nth p i) := by simpa using hb
          unfold Volts at hv
          conv => whnf
          refine condP.dec (fun h => ?_) (fun h => ?_)
          · conv => whnf
            refine .i64 (by omega) (by omega) ?_
            rw [show ((i : Int) - 1) = ((i - 1 : Nat) : Int) by omega]
            conv => whnf
            refine onSome.intro (idx_fs rfl rfl (by omega) (by omega) (fun _ => rfl)) ?_
            conv => whnf
            refine onSome.intro (load_fs (i := ((i - 1 : Nat) : Int)) (v := .int .i64 (nth p (i - 1))) rfl (by omega) (by omega) rfl) ?_
            conv => whnf
            refine condP.dec (fun h2 => ?_) (fun h2 => ?_)
            · have hE : lineE (0) 1000000 p i = 11 := by unfold lineE; rw [if_pos (by omega), if_pos (by omega)]
              conv => whnf
              refine .done (by simp) ?_
              conv => whnf
              refine .intro (.int .i64 11) (.inl rfl) rfl (frz_int ?_)
              have := hstop (by omega)
              rw [hr, if_neg (by omega)]; omega
            · have hE : lineE (0) 1000000 p i = 0 := by unfold lineE; rw [if_pos (by omega), if_neg (by omega)]
              conv => whnf
              refine .i64 (by omega) (by omega) ?_
              conv => whnf
              exact .more (i + 1) rfl ⟨by omega, hnext hE⟩ (by omega) ⟨rfl, rfl, rfl, rfl, rfl, rfl, rfl, trivial⟩ rfl ⟨(nn_agg (nn_cons (sl_no _) (nn_cons (sl_no _) nn_none))).inn _, .int _ _, .int _ _, (sl_no _).inn _, (sl_no _).inn _, .int _ _, .int _ _, trivial⟩ trivial
          · have hE : lineE (0) 1000000 p i = 0 := by unfold lineE; rw [if_pos (by omega), if_neg (by omega)]
            conv => whnf
            refine .i64 (by omega) (by omega) ?_
            conv => whnf
            exact .more (i + 1) rfl ⟨by omega, hnext hE⟩ (by omega) ⟨rfl, rfl, rfl, rfl, rfl, rfl, rfl, trivial⟩ rfl ⟨(nn_agg (nn_cons (sl_no _) (nn_cons (sl_no _) nn_none))).inn _, .int _ _, .int _ _, (sl_no _).inn _, (sl_no _).inn _, .int _ _, .int _ _, trivial⟩ trivial
      · obtain rfl : i = (p).length := by omega
        conv => whnf
        refine .done (by simp) ?_
        conv => whnf
        refine .i64 (by omega) (by omega) ?_
        conv => whnf
        refine loop_step ?_
        conv => whnf
        exact .intro (.int .i64 0) (.inl rfl) rfl (frz_int (by rw [hr, if_neg (by omega)]; omega))

theorem not_shaped {t : List (List Int)} {n m i : Nat} (hi : i < t.length) (h : ((t.getD i []).length : Int) ≠ m) : ¬ Shaped t n m := by
  rintro ⟨h1, h2⟩
  refine h ?_
  rw [List.getD_eq_getElem?_getD, List.getElem?_eq_getElem hi, Option.getD_some, h2 _ (List.getElem_mem hi)]
theorem is_shaped {t : List (List Int)} {n m : Nat} (h1 : t.length = n) (h : ∀ j, j < t.length → ((t.getD j []).length : Int) = m) : Shaped t n m := by
  refine ⟨h1, fun r hr => ?_⟩
  obtain ⟨i, hi, rfl⟩ := List.getElem_of_mem hr
  have := h i hi
  rw [List.getD_eq_getElem?_getD, List.getElem?_eq_getElem hi, Option.getD_some] at this
  omega
theorem inn_cap {S : Nat → Prop} {f : FuncId} (h : S 0) : Inn S (.func (.func f) [] [.ptr 0 0 0]) := .func _ _ _ (fun i h => by simp at h) (fun i hi => by
  obtain rfl : i = 0 := by simpa using hi
  exact .ptr _ _ _ h)
theorem shaped_ok (t : List (List Int)) (n m : Nat) (ht : t.length ≤ 9000000000000000000) (H : Heap) : Ev T (.call (.func (.func 162) [] []) [sll t, .int .i64 n, .int .i64 m] H) (.call (.bool (decide (Shaped t n m))) H) := by
  refine run_pure T162 (nn_bool _) (nn_cons (sll_no _) (nn_cons (nn_int _ _) (nn_cons (nn_int _ _) nn_none))) ?_ H
  have hx : ∃ b, b = decide (Shaped t n m) := ⟨_, rfl⟩
  obtain ⟨b, hb⟩ := hx
  rw [← hb]
  have e1 : (t.map el).length = t.length := List.length_map ..
  conv => whnf
  refine condP.eq (fun h => ?_) (fun h => ?_)
  · conv => whnf
    refine CallP.inl T186 rfl ?_
    conv => whnf
    refine CallP.inl T198 rfl ?_
    conv => whnf
    refine loop_rule (X := Nat) (fun i => [(0, sll t), (1, .func (.func 187) [] [.ptr 0 0 0]), (7, .int .i64 t.length), (8, .int .i64 i)]) (fun _ => [.live 1 [[.int .i64 m]]]) (fun i => t.length - i)
      (fun i => i ≤ t.length ∧ ∀ j, j < i → ((t.getD j []).length : Int) = m) 0
      ⟨Nat.zero_le _, fun j hj => by omega⟩ ⟨rfl, rfl, by rw [← e1]; rfl, rfl, trivial⟩ rfl (fun _ _ => rfl) (fun i hi => ?_)
    obtain ⟨hi, h0⟩ := hi
    conv => whnf
    refine condP.dec (fun hlt => ?_) (fun hlt => ?_)
    · have e2 : ((at' t (i : Int)).map ei).length = (t.getD i []).length := List.length_map ..
      conv => whnf
      refine onSome.intro (idx_fs rfl rfl (by omega) (by omega) (fun _ => rfl)) ?_
      conv => whnf
      refine onSome.intro (load_fs (i := (i : Int)) (v := sl (at' t i)) rfl (by omega) (by omega) rfl) ?_
      conv => whnf
      refine CallP.inl T187 rfl ?_
      conv => whnf
      refine condP.ne (fun hne => ?_) (fun heq => ?_)
      · have hS : b = false := by rw [hb]; exact decide_eq_false (not_shaped (i := i) (by omega) (by rw [← e2]; exact hne))
        conv => whnf
        refine .done (by simp) ?_
        conv => whnf
        exact .intro (.bool false) (.inl rfl) rfl (frz_bool hS.symm)
      · conv => whnf
        refine .i64 (by omega) (by omega) ?_
        conv => whnf
        refine .more (i + 1) rfl ⟨by omega, fun j hj => ?_⟩ (by omega) ⟨rfl, rfl, rfl, rfl, trivial⟩ rfl ⟨(sll_no _).inn _, inn_cap (by simp), .int _ _, .int _ _, trivial⟩ ⟨fun j k h h' => ?_, trivial⟩
        · rcases Nat.lt_or_ge j i with c | c
          · exact h0 j c
          · obtain rfl : j = i := by omega
            rw [← e2]; exact heq
        · obtain rfl : j = 0 := by simpa using h
          obtain rfl : k = 0 := by simpa using h'
          exact .int _ _
    · have hS : b = true := by rw [hb]; exact decide_eq_true (is_shaped (by omega) (fun j hj => h0 j (by omega)))
      conv => whnf
      refine .done (by simp) ?_
      conv => whnf
      exact .intro (.bool true) (.inl rfl) rfl (frz_bool hS.symm)
  · have hS : b = false := by rw [hb]; exact decide_eq_false (fun q => h (by have := q.1; omega))
    conv => whnf
    exact .intro (.bool false) (.inl rfl) rfl (frz_bool hS.symm)

/-- A family, as the program has it. -/
def famI (g p : List Int) (lo hi : List (List Int)) : IV := .agg [sl g, sl p, sll lo, sll hi]
theorem famI_no (g p : List Int) (lo hi : List (List Int)) : Noname (famI g p lo hi) := nn_agg (nn_cons (sl_no _) (nn_cons (sl_no _) (nn_cons (sll_no _) (nn_cons (sll_no _) nn_none))))
/-- A block with a family. -/
def SF (g p : List Int) (lo hi : List (List Int)) : Slot := .live 4 [[sl g, sl p, sll lo, sll hi]]
theorem SF_chk {S : Nat → Prop} (g p : List Int) (lo hi : List (List Int)) {l : List Slot} (h : chkS S l) : chkS S (SF g p lo hi :: l) := by
  refine ⟨fun j k hj hk => ?_, h⟩
  obtain rfl : j = 0 := by simpa using hj
  have : ∀ x ∈ [sl g, sl p, sll lo, sll hi], Noname x := nn_cons (sl_no _) (nn_cons (sl_no _) (nn_cons (sll_no _) (nn_cons (sll_no _) nn_none)))
  exact (this _ (List.getElem_mem hk)).inn _

theorem tabErr_stop {n m : Nat} {lo hi : List (List Int)} {i k : Nat} (hr : firstErr (fun i => firstErr (fun k => cellE lo hi i k) m) i = 0) (h0 : firstErr (fun k => cellE lo hi i k) k = 0) (h1 : cellE lo hi i k ≠ 0) (hi' : i < n) (hk : k < m) : tabErr n m lo hi = cellE lo hi i k := by
  have e := firstErr_stop (e := fun k => cellE lo hi i k) h0 h1 hk
  unfold tabErr
  rw [firstErr_stop hr (by show firstErr (fun k => cellE lo hi i k) m ≠ 0; rw [e]; exact h1) hi']
  exact e
set_option maxRecDepth 100000 in
theorem Check_ok (g p : List Int) (lo hi : List (List Int)) (hg : g.length ≤ 9000000000000000000) (hp : p.length ≤ 9000000000000000000) (hlo : lo.length ≤ 9000000000000000000) (hhi : hi.length ≤ 9000000000000000000) (H : Heap) :
    Ev T (.call (.func (.func 106) [] []) [famI g p lo hi] H) (.call (.int .i64 (famErr g p lo hi)) H) := by
  refine run_pure T106 (nn_int _ _) (nn_cons (famI_no ..) nn_none) ?_ H
  have hL := lines_ok g p hg hp
  have hz : linesErr g p = 0 → g.length ≤ 40 ∧ p.length ≤ 40 := fun h => ⟨(linesErr_zero h).2.2.2.1, (linesErr_zero h).2.2.2.2.2⟩
  have hx : ∃ r e, r = famErr g p lo hi ∧ e = linesErr g p := ⟨_, _, rfl, rfl⟩
  obtain ⟨r, e, hr, he⟩ := hx
  rw [← hr]
  rw [← he] at hL hz
  unfold famErr at hr
  rw [← he] at hr
  conv => whnf
  refine CallP.pure hL ?_
  conv => whnf
  refine condP.ne (fun h => ?_) (fun h => ?_)
  · rw [if_pos h] at hr
    conv => whnf
    exact .intro (.int .i64 e) (.inl rfl) rfl (frz_int hr.symm)
  have hz := hz h
  rw [if_neg (by simpa using h)] at hr
  have s1 := shaped_ok lo g.length p.length hlo
  have s2 := shaped_ok hi g.length p.length hhi
  have l1 : (g.map ei).length = g.length := List.length_map ..
  have l2 : (p.map ei).length = p.length := List.length_map ..
  rw [← l1, ← l2] at s1 s2
  conv => whnf
  refine CallP.dec s1 (fun h1 => ?_) (fun h1 => ?_)
  rotate_left
  · rw [if_neg (fun q => h1 (by rw [l1, l2]; exact q.1))] at hr
    conv => whnf
    exact .intro (.int .i64 3) (.inl rfl) rfl (frz_int hr.symm)
  conv => whnf
  refine CallP.dec s2 (fun h2 => ?_) (fun h2 => ?_)
  rotate_left
  · rw [if_neg (fun q => h2 (by rw [l1, l2]; exact q.2))] at hr
    conv => whnf
    exact .intro (.int .i64 3) (.inl rfl) rfl (frz_int hr.symm)
  rw [l1, l2] at h1 h2
  rw [if_pos ⟨h1, h2⟩] at hr
  have tl := h1.tab
  have th := h2.tab
  have ll := tl.len
  have lh := th.len
  conv => whnf
  refine loop_rule (X := Nat) (fun i => [(1, .ptr 0 0 0), (39, .int .i64 g.length), (40, .int .i64 i)]) (fun _ => [SF g p lo hi]) (fun i => g.length - i)
    (fun i => i ≤ g.length ∧ firstErr (fun i => firstErr (fun k => cellE lo hi i k) p.length) i = 0) 0
    ⟨Nat.zero_le _, rfl⟩ ⟨rfl, by rw [← l1]; rfl, rfl, trivial⟩ rfl (fun _ _ => rfl) (fun i hi' => ?_)
  obtain ⟨hi', hr0⟩ := hi'
  conv => whnf
  refine condP.dec (fun hlt => ?_) (fun hlt => ?_)
  · have rl := row_len tl (a := (i : Int)) (by omega) (by omega)
    have rh := row_len th (a := (i : Int)) (by omega) (by omega)
    conv => whnf
    refine loop_rule (X := Nat) (fun k => [(1, .ptr 0 0 0), (39, .int .i64 g.length), (40, .int .i64 i), (4, .int .i64 i), (45, .int .i64 p.length), (46, .int .i64 k)]) (fun _ => [SF g p lo hi]) (fun k => p.length - k)
      (fun k => k ≤ p.length ∧ firstErr (fun k => cellE lo hi i k) k = 0) 0
      ⟨Nat.zero_le _, rfl⟩ ⟨rfl, rfl, rfl, rfl, by rw [← l2]; rfl, rfl, trivial⟩ rfl (fun _ _ => rfl) (fun k hk' => ?_)
    obtain ⟨hk', h0⟩ := hk'
    conv => whnf
    refine condP.dec (fun hkt => ?_) (fun hkt => ?_)
    · have stop := tabErr_stop (n := g.length) hr0 h0
      have next := firstErr_succ (e := fun k => cellE lo hi i k) h0
      have hce : ∃ c, c = cellE lo hi i k := ⟨_, rfl⟩
      obtain ⟨c, hc⟩ := hce
      rw [← hc] at stop next
      unfold cellE at hc
      have f1 : at' (at' lo (i : Int)) (k : Int) = vc lo i k := rfl
      have f2 : at' (at' hi (i : Int)) (k : Int) = vc hi i k := rfl
      have f3 : i = 0 ∨ (at' (at' lo ((i : Int) - 1)) (k : Int) = vc lo (i - 1) k ∧ at' (at' hi ((i : Int) - 1)) (k : Int) = vc hi (i - 1) k ∧ (at' lo ((i : Int) - 1)).length = p.length ∧ (at' hi ((i : Int) - 1)).length = p.length) := by
        rcases Nat.eq_zero_or_pos i with q | q
        · exact .inl q
        · rw [show ((i : Int) - 1) = ((i - 1 : Nat) : Int) by omega]
          exact .inr ⟨rfl, rfl, row_len tl (by omega) (by omega), row_len th (by omega) (by omega)⟩
      have f4 : k = 0 ∨ (at' (at' lo (i : Int)) ((k : Int) - 1) = vc lo i (k - 1) ∧ at' (at' hi (i : Int)) ((k : Int) - 1) = vc hi i (k - 1)) := by
        rcases Nat.eq_zero_or_pos k with q | q
        · exact .inl q
        · rw [show ((k : Int) - 1) = ((k - 1 : Nat) : Int) by omega]
          exact .inr ⟨rfl, rfl⟩
      have leaf : ∀ n : Int, n ≠ 0 → c = n → r = n := fun n h1 h2 => by rw [hr, stop (by omega) (by omega) (by omega)]; exact h2
      repeat' ((conv => whnf); first | (first | refine condP.dec (fun h => ?_) (fun h => ?_) | refine condP.eq (fun h => ?_) (fun h => ?_) | refine condP.ne (fun h => ?_) (fun h => ?_)) | (refine .i64 (by omega) (by omega) ?_) | (refine onSome.intro (idx_fs rfl rfl (by omega) (by omega) (fun _ => rfl)) ?_) | (refine onSome.intro (load_fs rfl (by omega) (by omega) rfl) ?_) | (refine And.intro rfl ?_))
      all_goals conv => whnf
      all_goals first
        | (refine .done (by simp) ?_
           conv => whnf
           refine .done (by simp) ?_
           conv => whnf
           refine .intro (.int .i64 _) (.inl rfl) rfl (frz_int (leaf _ (by omega) ?_).symm)
           rw [hc]
           repeat' split
           all_goals omega)
        | (have hc0 : c = 0 := by
             rw [hc]
             repeat' split
             all_goals omega
           exact .more (k + 1) rfl ⟨by omega, next hc0⟩ (by omega) ⟨rfl, rfl, rfl, rfl, rfl, rfl, trivial⟩ rfl ⟨.ptr _ _ _ (by simp), .int _ _, .int _ _, .int _ _, .int _ _, .int _ _, trivial⟩ (SF_chk _ _ _ _ trivial))
    · obtain rfl : k = p.length := by omega
      conv => whnf
      refine .done (by simp) ?_
      conv => whnf
      refine .i64 (by omega) (by omega) ?_
      conv => whnf
      exact .more (i + 1) rfl ⟨by omega, firstErr_succ hr0 h0⟩ (by omega) ⟨rfl, rfl, rfl, trivial⟩ rfl ⟨.ptr _ _ _ (by simp), .int _ _, .int _ _, trivial⟩ (SF_chk _ _ _ _ trivial)
  · obtain rfl : i = g.length := by omega
    conv => whnf
    refine .done (by simp) ?_
    conv => whnf
    exact .intro (.int .i64 0) (.inl rfl) rfl (frz_int (by rw [hr]; exact hr0.symm))

end Go.Proofs.YtlfaglkkeahamaaGreat.I
