/- More of this, less of that: growth, strains and verdicts compared. -/
import Derived.Test.YtpbadgghhiommaaGkit2
set_option linter.unusedVariables false
set_option maxHeartbeats 8000000
set_option linter.unusedSimpArgs false
namespace Go.Proofs.Ytpbadgghhiommaa.I
open Go.Ideal

theorem stepLo_mono {z z' : Zone} {k k' lo lo' y : Int} (hg0 : 0 ≤ z.gl) (hg : z.gl ≤ z'.gl) (hr0 : 0 ≤ z'.rh) (hr : z'.rh ≤ z.rh) (hr1 : z.rh ≤ 1000000) (hk : 0 ≤ k) (hkk : k ≤ k') (hl0 : 0 ≤ lo) (hl : lo ≤ lo') (hy : 0 ≤ y) : stepLo z k lo y ≤ stepLo z' k' lo' y := by
  have a1 : y * k ≤ y * k' := Int.mul_le_mul_of_nonneg_left hkk hy
  have a0 : 0 ≤ y * k := Int.mul_nonneg hy hk
  have a2 : y * k * z.gl ≤ y * k' * z'.gl := Int.mul_le_mul a1 hg hg0 (by omega)
  have a3 := Int.ediv_le_ediv (show (0 : Int) < 100 by omega) a2
  have a4 := left_lo hl (show 0 ≤ z.rh by omega) hr1
  have a5 := up_mono (d := 1000000) (by omega) (Int.mul_le_mul_of_nonneg_left hr (show 0 ≤ lo' by omega))
  unfold stepLo
  omega
theorem stepHi_mono {z z' : Zone} {k k' hi hi' y : Int} (hg0 : 0 ≤ z.gh) (hg : z.gh ≤ z'.gh) (hr0 : 0 ≤ z'.rl) (hr : z'.rl ≤ z.rl) (hr1 : z.rl ≤ 1000000) (hk : 0 ≤ k) (hkk : k ≤ k') (hl0 : 0 ≤ hi) (hl : hi ≤ hi') (hy : 0 ≤ y) : stepHi z k hi y ≤ stepHi z' k' hi' y := by
  have a1 : y * k ≤ y * k' := Int.mul_le_mul_of_nonneg_left hkk hy
  have a0 : 0 ≤ y * k := Int.mul_nonneg hy hk
  have a2 : y * k * z.gh ≤ y * k' * z'.gh := Int.mul_le_mul a1 hg hg0 (by omega)
  have a3 := up_mono (d := 100) (by omega) a2
  have a4 := left_hi hl (show 0 ≤ z.rl by omega) hr1
  have a5 := Int.ediv_le_ediv (show (0 : Int) < 1000000 by omega) (Int.mul_le_mul_of_nonneg_left hr (show 0 ≤ hi' by omega))
  unfold stepHi
  omega
theorem rs_lo {zs zs' : List Zone} {k k' : Int} {hs : List Int} {N : Nat} (hz : ZOk zs) (hz' : ZOk zs') (hk : 0 ≤ k) (hkk : k ≤ k') (hg : ∀ t, (zoneOf zs t).gl ≤ (zoneOf zs' t).gl) (hr : ∀ t, (zoneOf zs' t).rh ≤ (zoneOf zs t).rh) (h0 : ∀ m, m ≤ N → 0 ≤ (rs zs k hs m).1) : ∀ m, m ≤ N → (rs zs k hs m).1 ≤ (rs zs' k' hs m).1
  | 0, _ => Int.le_refl _
  | m + 1, hm => by
    have ih := rs_lo hz hz' hk hkk hg hr h0 m (by omega)
    have a := zoneOf_gr hz (at' hs ((m : Int) + 1))
    have b := zoneOf_re hz (at' hs ((m : Int) + 1))
    have c := zoneOf_re hz' (at' hs ((m : Int) + 1))
    rw [rs, rs]
    exact stepLo_mono a.1 (hg _) (by omega) (hr _) b.2.2 hk hkk (h0 m (by omega)) ih (by omega)
theorem rs_hi {zs zs' : List Zone} {k k' : Int} {hs : List Int} {N : Nat} (hz : ZOk zs) (hz' : ZOk zs') (hk : 0 ≤ k) (hkk : k ≤ k') (hg : ∀ t, (zoneOf zs t).gh ≤ (zoneOf zs' t).gh) (hr : ∀ t, (zoneOf zs' t).rl ≤ (zoneOf zs t).rl) (h0 : ∀ m, m ≤ N → 0 ≤ (rs zs k hs m).2) : ∀ m, m ≤ N → (rs zs k hs m).2 ≤ (rs zs' k' hs m).2
  | 0, _ => Int.le_refl _
  | m + 1, hm => by
    have ih := rs_hi hz hz' hk hkk hg hr h0 m (by omega)
    have a := zoneOf_gr hz (at' hs ((m : Int) + 1))
    have b := zoneOf_re hz (at' hs ((m : Int) + 1))
    have c := zoneOf_re hz' (at' hs ((m : Int) + 1))
    rw [rs, rs]
    exact stepHi_mono (by omega) (hg _) c.1 (hr _) (by omega) hk hkk (h0 m (by omega)) ih (by omega)
theorem rs_in {zs : List Zone} (hz : ZOk zs) {k f : Int} {ls : List Leg} (hk : 0 ≤ k) (hk1 : k ≤ 1000) (h : OOk f ls) (m : Nat) (hm : m ≤ totT ls ls.length) : (0 ≤ (rs zs k (allH f ls ls.length) m).1 ∧ (rs zs k (allH f ls ls.length) m).1 ≤ 1099511627776) ∧ (0 ≤ (rs zs k (allH f ls ls.length) m).2 ∧ (rs zs k (allH f ls ls.length) m).2 ≤ 1099511627776) := by
  have := gS_ok hz hk hk1 h ls.length (Nat.le_refl _) m hm
  exact ⟨this.lo, this.hi⟩
theorem strL_rs (zs : List Zone) (k f : Int) (ls : List Leg) (h : OOk f ls) {m : Nat} (hm : m < ls.length) : at' (strL zs k f ls ls.length) (m : Int) = rs zs k (allH f ls ls.length) (totT ls (m + 1)) := by
  rw [strL_at zs k f ls hm, gS_oven h (m + 1) (by omega)]
  rfl

/-! ### Verdicts on programmes -/
theorem jG_facts (p : Nat → Int × Int) (b left : Int) (N : Nat) : ∀ (n m : Nat) (v a : Int), v = 1 ∨ v = 3 →
    ((jG p b left N n m v a).1 = 1 → v = 1 ∧ ∀ i, m ≤ i → i < m + n → (p i).1 ≤ limA b left N i ∧ (p i).2 ≤ limA b left N i) ∧
    (v = 1 → (∀ i, m ≤ i → i < m + n → (p i).1 ≤ limA b left N i ∧ (p i).2 ≤ limA b left N i) → jG p b left N n m v a = (1, a)) ∧
    ((jG p b left N n m v a).1 = 2 → ∃ i : Nat, m ≤ i ∧ i < m + n ∧ (jG p b left N n m v a).2 = i ∧ limA b left N i < (p i).1) ∧
    ((∃ i, m ≤ i ∧ i < m + n ∧ limA b left N i < (p i).1) → (jG p b left N n m v a).1 = 2) ∧
    ((jG p b left N n m v a).1 = 1 ∨ (jG p b left N n m v a).1 = 2 ∨ (jG p b left N n m v a).1 = 3)
  | 0, m, v, a, hv => by
    simp only [jG]
    refine ⟨fun h => ⟨h, fun i h1 h2 => by omega⟩, fun h _ => by rw [h], fun h => by omega, fun ⟨i, h1, h2, _⟩ => by omega, by omega⟩
  | n + 1, m, v, a, hv => by
    by_cases c1 : limA b left N m < (p m).1
    · have e : jG p b left N (n + 1) m v a = (2, (m : Int)) := if_pos c1
      rw [e]
      refine ⟨fun h => by simp at h, fun _ h => ?_, fun _ => ⟨m, Nat.le_refl _, by omega, rfl, c1⟩, fun _ => rfl, .inr (.inl rfl)⟩
      have := (h m (Nat.le_refl _) (by omega)).1
      omega
    · have e0 : jG p b left N (n + 1) m v a = if v = 1 ∧ limA b left N m < (p m).2 then jG p b left N n (m + 1) 3 m else jG p b left N n (m + 1) v a := if_neg c1
      by_cases c2 : v = 1 ∧ limA b left N m < (p m).2
      · rw [if_pos c2] at e0
        have ih := jG_facts p b left N n (m + 1) 3 m (.inr rfl)
        rw [← e0] at ih
        obtain ⟨h1, h2, h3, h4, h5⟩ := ih
        refine ⟨fun h => by have := (h1 h).1; omega, fun _ h => ?_, fun h => ?_, fun ⟨i, q1, q2, q3⟩ => ?_, h5⟩
        · have := (h m (Nat.le_refl _) (by omega)).2
          omega
        · obtain ⟨i, q1, q2, q3, q4⟩ := h3 h
          exact ⟨i, by omega, by omega, q3, q4⟩
        · have : i ≠ m := fun z => by subst z; exact c1 q3
          exact h4 ⟨i, by omega, by omega, q3⟩
      · rw [if_neg c2] at e0
        have ih := jG_facts p b left N n (m + 1) v a hv
        rw [← e0] at ih
        obtain ⟨h1, h2, h3, h4, h5⟩ := ih
        refine ⟨fun h => ?_, fun hv1 h => h2 hv1 (fun i q1 q2 => h i (by omega) (by omega)), fun h => ?_, fun ⟨i, q1, q2, q3⟩ => ?_, h5⟩
        · obtain ⟨g1, g2⟩ := h1 h
          refine ⟨g1, fun i q1 q2 => ?_⟩
          by_cases z : i = m
          · subst z; exact ⟨by omega, by omega⟩
          · exact g2 i (by omega) (by omega)
        · obtain ⟨i, q1, q2, q3, q4⟩ := h3 h
          exact ⟨i, by omega, by omega, q3, q4⟩
        · have : i ≠ m := fun z => by subst z; exact c1 q3
          exact h4 ⟨i, by omega, by omega, q3⟩
/-- A verdict that is Sure stays so, one that is Never too. -/
theorem judge_stays {b left left' : Int} {zs zs' : List Zone} {k k' f : Int} {ls : List Leg} (hlo : ∀ m, m ≤ totT ls ls.length → (rs zs k (allH f ls ls.length) m).1 ≤ (rs zs' k' (allH f ls ls.length) m).1) (hhi : ∀ m, m ≤ totT ls ls.length → (rs zs' k' (allH f ls ls.length) m).2 ≤ (rs zs k (allH f ls ls.length) m).2)
    (hle : ∀ m, m ≤ totT ls ls.length → (rs zs' k' (allH f ls ls.length) m).1 ≤ (rs zs' k' (allH f ls ls.length) m).2) (hll : left ≤ left') : ((judgeV b zs k f ls left).1 = 1 → (judgeV b zs' k' f ls left').1 = 1) ∧ (left = left' → (judgeV b zs k f ls left).1 = 2 → (judgeV b zs' k' f ls left').1 = 2) ∧
      ((judgeV b zs k f ls left).1 = 1 ∨ (judgeV b zs k f ls left).1 = 2 ∨ (judgeV b zs k f ls left).1 = 3) := by
  have f1 := jG_facts (rs zs k (allH f ls ls.length)) b left (totT ls ls.length) (totT ls ls.length) 1 1 0 (.inl rfl)
  have f2 := jG_facts (rs zs' k' (allH f ls ls.length)) b left' (totT ls ls.length) (totT ls ls.length) 1 1 0 (.inl rfl)
  have lm : ∀ m, limA b left (totT ls ls.length) m ≤ limA b left' (totT ls ls.length) m := fun m => by unfold limA; split <;> omega
  refine ⟨fun h => ?_, fun e h => ?_, f1.2.2.2.2⟩
  · have g := (f1.1 h).2
    show (jG _ _ _ _ _ _ _ _).1 = 1
    rw [f2.2.1 rfl (fun i q1 q2 => ?_)]
    have a1 := g i q1 q2
    have a2 := hhi i (by omega)
    have a3 := lm i
    have a4 := hle i (by omega)
    omega
  · subst e
    obtain ⟨i, q1, q2, q3, q4⟩ := f1.2.2.1 h
    have a1 := hlo i (by omega)
    exact f2.2.2.2.1 ⟨i, q1, q2, by omega⟩
theorem rs_le {zs : List Zone} (hz : ZOk zs) {k : Int} {hs : List Int} {N : Nat} (hk : 0 ≤ k) (h0 : ∀ m, m ≤ N → 0 ≤ (rs zs k hs m).1) : ∀ m, m ≤ N → (rs zs k hs m).1 ≤ (rs zs k hs m).2
  | 0, _ => Int.le_refl _
  | m + 1, hm => by
    have ih := rs_le hz hk h0 m (by omega)
    have a := zoneOf_gr hz (at' hs ((m : Int) + 1))
    have c := zoneOf_re hz (at' hs ((m : Int) + 1))
    have b0 := h0 m (by omega)
    rw [rs]
    generalize zoneOf zs (at' hs ((m : Int) + 1)) = z at *
    have hd : ∃ d, d = max (at' hs ((m : Int) + 1) - at' hs (m : Int)) (at' hs (m : Int) - at' hs ((m : Int) + 1)) := ⟨_, rfl⟩
    obtain ⟨d, hd⟩ := hd
    rw [← hd]
    have hd0 : 0 ≤ d := by omega
    clear hd
    generalize rs zs k hs m = p at *
    dsimp only
    have s1 := stepLo_mono (z := z) (z' := z) (k := k) (k' := k) a.1 (Int.le_refl _) (show 0 ≤ z.rh by omega) (Int.le_refl _) c.2.2 hk (Int.le_refl _) b0 ih hd0
    have e1 : d * k * z.gl / 100 ≤ up (d * k * z.gh) 100 := by
      have h1 := up_ge (d * k * z.gh) (d := 100) (by omega)
      have : d * k * z.gl ≤ d * k * z.gh := Int.mul_le_mul_of_nonneg_left a.2.1 (Int.mul_nonneg hd0 hk)
      omega
    have e2 := loss_le (a := p.2) (r := z.rl) (q := z.rh) (by omega) (by omega)
    have s2 : stepLo z k p.2 d ≤ stepHi z k p.2 d := by unfold stepLo stepHi; omega
    omega

/-! ### Verdicts on seals -/
theorem sealG_more {x y : List Zone} {s lim : Int} : ∀ (n : Nat) (t v a : Int), v = 1 ∨ v = 3 → ((∀ t', t - n < t' → t' ≤ t → Hld x y s lim t' ∧ ¬ Brk x y s lim t') → sealG x y s lim n t v a = (v, a)) ∧ ((∃ t', t - n < t' ∧ t' ≤ t ∧ Brk x y s lim t') → (sealG x y s lim n t v a).1 = 2)
  | 0, t, v, a, hv => ⟨fun _ => rfl, fun ⟨t', h1, h2, _⟩ => by omega⟩
  | n + 1, t, v, a, hv => by
    by_cases c : Brk x y s lim t
    · have e : sealG x y s lim (n + 1) t v a = (2, t) := if_pos c
      rw [e]
      exact ⟨fun h => absurd c (h t (by omega) (Int.le_refl _)).2, fun _ => rfl⟩
    · have e0 : sealG x y s lim (n + 1) t v a = if v = 1 ∧ ¬ Hld x y s lim t then sealG x y s lim n (t - 1) 3 t else sealG x y s lim n (t - 1) v a := if_neg c
      by_cases d : v = 1 ∧ ¬ Hld x y s lim t
      · rw [if_pos d] at e0
        have ih := sealG_more (x := x) (y := y) (s := s) (lim := lim) n (t - 1) 3 t (.inr rfl)
        rw [e0]
        refine ⟨fun h => absurd (h t (by omega) (Int.le_refl _)).1 d.2, fun ⟨t', h1, h2, h3⟩ => ?_⟩
        have : t' ≠ t := fun q => by subst q; exact c h3
        exact ih.2 ⟨t', by omega, by omega, h3⟩
      · rw [if_neg d] at e0
        have ih := sealG_more (x := x) (y := y) (s := s) (lim := lim) n (t - 1) v a hv
        rw [e0]
        refine ⟨fun h => ih.1 (fun t' h1 h2 => h t' (by omega) (by omega)), fun ⟨t', h1, h2, h3⟩ => ?_⟩
        have : t' ≠ t := fun q => by subst q; exact c h3
        exact ih.2 ⟨t', by omega, by omega, h3⟩
theorem gUp_le {f g : Zone → Int} {zs ys : List Zone} (h : ∀ t, f (zoneOf zs t) ≤ g (zoneOf ys t)) (a b : Int) : gUp f zs a b ≤ gUp g ys a b := by
  have key : ∀ k, sumG f zs a k ≤ sumG g ys a k := by
    intro k
    induction k with
    | zero => exact Int.le_refl _
    | succ k ih => rw [sumG, sumG]; have := h (a + k); omega
  exact key _
theorem gLo_le {zs ys : List Zone} (h1 : ∀ t, (zoneOf zs t).gl ≤ (zoneOf ys t).gl) (h2 : ∀ t, (zoneOf ys t).gh ≤ (zoneOf zs t).gh) (u v : Int) : gLo zs u v ≤ gLo ys u v ∧ gHi ys u v ≤ gHi zs u v := by
  have a := gUp_le (f := Zone.gl) (g := Zone.gl) h1 u v
  have b := gUp_le (f := Zone.gh) (g := Zone.gh) h2 u v
  have c := gUp_le (f := Zone.gl) (g := Zone.gl) h1 v u
  have d := gUp_le (f := Zone.gh) (g := Zone.gh) h2 v u
  unfold gLo gHi
  split <;> omega
theorem gLo_gHi {zs : List Zone} (hz : ZOk zs) (u v : Int) : gLo zs u v ≤ gHi zs u v := by
  have a := gUp_le (f := Zone.gl) (g := Zone.gh) (zs := zs) (ys := zs) (fun t => (zoneOf_gr hz t).2.1) u v
  have b := gUp_le (f := Zone.gl) (g := Zone.gh) (zs := zs) (ys := zs) (fun t => (zoneOf_gr hz t).2.1) v u
  unfold gLo gHi
  split <;> omega
theorem seal_stays {a b : Int} {x y n m : List Zone} (hn : ZOk n) (hm : ZOk m) (x1 : ∀ t, (zoneOf x t).gl ≤ (zoneOf n t).gl) (x2 : ∀ t, (zoneOf n t).gh ≤ (zoneOf x t).gh) (y1 : ∀ t, (zoneOf y t).gl ≤ (zoneOf m t).gl) (y2 : ∀ t, (zoneOf m t).gh ≤ (zoneOf y t).gh) {s f : Int} (hfs : f ≤ s) :
    ((sealV a x b y s f).1 = 1 → (sealV a n b m s f).1 = 1) ∧ ((sealV a x b y s f).1 = 2 → (sealV a n b m s f).1 = 2) := by
  have g := sealV_facts a x b y hfs
  have q := sealG_more (x := n) (y := m) (s := s) (lim := min a b) (s - f + 1).toNat s 1 0 (.inl rfl)
  have le : ∀ t, mLo x y s t ≤ mLo n m s t ∧ mHi n m s t ≤ mHi x y s t ∧ mLo n m s t ≤ mHi n m s t := fun t => by
    have a1 := gLo_le x1 x2 s t
    have a2 := gLo_le y1 y2 s t
    have a3 := gLo_gHi hn s t
    have a4 := gLo_gHi hm s t
    unfold mLo mHi
    omega
  refine ⟨fun h => ?_, fun h => ?_⟩
  · show (sealG _ _ _ _ _ _ _ _).1 = 1
    rw [q.1 (fun t' h1 h2 => ?_)]
    have := g.1 h t' (by omega) h2
    have l := le t'
    unfold Hld at this
    unfold Hld Brk
    omega
  · have g2 := g.2.1 h
    have l := le (sealV a x b y s f).2
    refine q.2 ⟨(sealV a x b y s f).2, by omega, g2.2.1, ?_⟩
    have := g2.2.2
    unfold Brk at this ⊢
    omega

end Go.Proofs.Ytpbadgghhiommaa.I
