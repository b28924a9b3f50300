/- The reference's seals; matches. -/
import Derived.Test.YtpbadgghhiommaaGat
set_option linter.unusedVariables false
set_option maxHeartbeats 16000000
set_option linter.unusedSimpArgs false
namespace Go.Proofs.Ytpbadgghhiommaa.I
open Go.Ideal

/-- The first heat, downwards, with something. -/
def descB (x y : List Zone) (s lim : Int) : Nat → Int → Int
  | 0, _ => -1
  | n + 1, t => if Brk x y s lim t then t else descB x y s lim n (t - 1)
def descH (x y : List Zone) (s lim : Int) : Nat → Int → Int
  | 0, _ => -1
  | n + 1, t => if ¬ Hld x y s lim t then t else descH x y s lim n (t - 1)
theorem sealG_desc {x y : List Zone} {s lim : Int} : ∀ (n : Nat) (t v a : Int), (n : Int) ≤ t + 1 → v = 1 ∨ v = 3 → sealG x y s lim n t v a = if 0 ≤ descB x y s lim n t then (2, descB x y s lim n t) else if v = 1 ∧ 0 ≤ descH x y s lim n t then (3, descH x y s lim n t) else (v, a)
  | 0, t, v, a, _, hv => by simp [sealG, descB, descH]
  | n + 1, t, v, a, ht, hv => by
    by_cases h : Brk x y s lim t
    · have eB : descB x y s lim (n + 1) t = t := if_pos h
      have eS : sealG x y s lim (n + 1) t v a = (2, t) := if_pos h
      rw [eB, eS, if_pos (by omega)]
    · have eB : descB x y s lim (n + 1) t = descB x y s lim n (t - 1) := if_neg h
      have eS : sealG x y s lim (n + 1) t v a = if v = 1 ∧ ¬ Hld x y s lim t then sealG x y s lim n (t - 1) 3 t else sealG x y s lim n (t - 1) v a := if_neg h
      by_cases h2 : Hld x y s lim t
      · have eH : descH x y s lim (n + 1) t = descH x y s lim n (t - 1) := if_neg (fun q => q h2)
        rw [eB, eH, eS, if_neg (fun q => q.2 h2), sealG_desc n (t - 1) v a (by omega) hv]
      · have eH : descH x y s lim (n + 1) t = t := if_pos h2
        rw [eB, eH, eS]
        by_cases h3 : v = 1
        · rw [if_pos ⟨h3, h2⟩, sealG_desc n (t - 1) 3 t (by omega) (.inr rfl)]
          split
          · rfl
          · rw [if_neg (by omega), if_pos ⟨h3, by omega⟩]
        · rw [if_neg (fun q => h3 q.1), sealG_desc n (t - 1) v a (by omega) hv]
          split
          · rfl
          · rw [if_neg (fun q => h3 q.1), if_neg (fun q => h3 q.1)]
theorem mLo_down {x y : List Zone} {s t : Int} (h : t < s) : mLo x y s t = mLo x y s (t + 1) - (zoneOf x t).gh + (zoneOf y t).gl ∧ mHi x y s t = mHi x y s (t + 1) - (zoneOf x t).gl + (zoneOf y t).gh := by
  have one : ∀ (f : Zone → Int) (zs : List Zone), gUp f zs t s = f (zoneOf zs t) + gUp f zs (t + 1) s := fun f zs => by
    rw [gUp_add f zs (show t ≤ t + 1 by omega) (show t + 1 ≤ s by omega), gUp_succ f zs (Int.le_refl t), gUp_nil]; omega
  unfold mLo mHi
  rw [gLo_down (show t ≤ s by omega), gHi_down (show t ≤ s by omega), gLo_down (show t ≤ s by omega), gHi_down (show t ≤ s by omega), gLo_down (show t + 1 ≤ s by omega), gHi_down (show t + 1 ≤ s by omega), gLo_down (show t + 1 ≤ s by omega), gHi_down (show t + 1 ≤ s by omega), one, one, one, one]
  constructor <;> omega
theorem m_self (x y : List Zone) (s : Int) : mLo x y s s = 0 ∧ mHi x y s s = 0 := by
  unfold mLo mHi gLo gHi
  rw [if_pos (Int.le_refl _), if_pos (Int.le_refl _), if_pos (Int.le_refl _), if_pos (Int.le_refl _), gUp_nil, gUp_nil, gUp_nil, gUp_nil]
  omega

theorem rseal_ok (a : Int) (x : List Zone) (b : Int) (y : List Zone) (ha : 0 ≤ a) (ha1 : a ≤ 1000000000) (hb : 0 ≤ b) (hb1 : b ≤ 1000000000) (hx : ZOk x) (hy : ZOk y) (s f : Int) (hs1 : s ≤ 2000) (hf : 0 ≤ f) (hfs : f ≤ s) (H : Heap) :
    Ev T (.call (.func (.func 97) [] []) [stuffI a x, stuffI b y, .int .i64 s, .int .i64 f] H) (.call (.tuple [.int .i64 (sealV a x b y s f).1, .int .i64 (sealV a x b y s f).2]) H) := by
  have hV : sealV a x b y s f = if 0 ≤ descB x y s (min a b) (s - f + 1).toNat s then (2, descB x y s (min a b) (s - f + 1).toNat s) else if 0 ≤ descH x y s (min a b) (s - f + 1).toNat s then (3, descH x y s (min a b) (s - f + 1).toNat s) else (1, 0) := by
    show sealG x y s (min a b) (s - f + 1).toNat s 1 0 = _
    rw [sealG_desc _ _ _ _ (by omega) (.inl rfl)]
    simp only [true_and]
  have hB : ∃ B, B = descB x y s (min a b) (s - f + 1).toNat s := ⟨_, rfl⟩
  obtain ⟨B, hB⟩ := hB
  have hD : ∃ D, D = descH x y s (min a b) (s - f + 1).toNat s := ⟨_, rfl⟩
  obtain ⟨D, hD⟩ := hD
  rw [← hB, ← hD] at hV
  have e1 : ∃ V, V = sealV a x b y s f := ⟨_, rfl⟩
  obtain ⟨V, e1⟩ := e1
  rw [← e1] at hV ⊢
  clear e1
  refine run_pure T97 (nn_tuple (nn_cons (.int _ _) (nn_cons (.int _ _) nn_none))) (nn_cons (stuffI_no _ _) (nn_cons (stuffI_no _ _) (nn_cons (nn_int _ _) (nn_cons (nn_int _ _) nn_none)))) ?_ H
  conv => whnf
  refine loop_rule (X := Int × Int × Int) (fun q => [(2, .int .i64 s), (3, .int .i64 f), (4, .ptr 0 0 0), (5, .ptr 1 0 0), (10, .int .i64 (min a b)), (11, .ptr 2 0 0), (12, .int .i64 q.2.1), (13, .int .i64 q.2.2), (14, .int .i64 q.1)])
    (fun q => [.live 2 [[.int .i64 a, zsl x]], .live 2 [[.int .i64 b, zsl y]], .live 2 [[.int .i64 (if q.1 = s then 0 else mLo x y s (q.1 + 1)), .int .i64 (if q.1 = s then 0 else mHi x y s (q.1 + 1))]]])
    (fun q => (q.1 + 1 - f).toNat) (fun q => f - 1 ≤ q.1 ∧ q.1 ≤ s ∧ -1 ≤ q.2.1 ∧ -1 ≤ q.2.2 ∧ (B = if q.2.1 < 0 then descB x y s (min a b) (q.1 + 1 - f).toNat q.1 else q.2.1) ∧ (D = if q.2.2 < 0 then descH x y s (min a b) (q.1 + 1 - f).toNat q.1 else q.2.2)) (s, -1, -1)
    ⟨by dsimp only; omega, by dsimp only; omega, by dsimp only; omega, by dsimp only; omega, by dsimp only; rw [if_pos (by omega), hB]; congr 1; omega, by dsimp only; rw [if_pos (by omega), hD]; congr 1; omega⟩ ⟨rfl, rfl, rfl, rfl, rfl, rfl, rfl, rfl, rfl, trivial⟩ (by dsimp only; rw [if_pos rfl, if_pos rfl]; rfl) (fun _ _ => rfl) (fun q hq => ?_)
  obtain ⟨t, nv, db⟩ := q
  have h1 := hq.1
  have h2 := hq.2.1
  have h3 := hq.2.2.1
  have h4 := hq.2.2.2.1
  have h5 := hq.2.2.2.2.1
  have h6 := hq.2.2.2.2.2
  dsimp only at h1 h2 h3 h4 h5 h6 ⊢
  clear hq
  by_cases hge : f ≤ t
  · have bm := m_bound hx hy (show 0 ≤ s by omega) hs1 (show 0 ≤ t by omega) (show t ≤ 2000 by omega)
    rw [show (t + 1 - f).toNat = (t - f).toNat + 1 by omega] at h5 h6
    simp only [descB, descH] at h5 h6
    have chk : ∀ (p q t' : Int), chkI (fun b : Nat => b < 3) [(2, .int .i64 s), (3, .int .i64 f), (4, .ptr 0 0 0), (5, .ptr 1 0 0), (10, .int .i64 (min a b)), (11, .ptr 2 0 0), (12, .int .i64 p), (13, .int .i64 q), (14, .int .i64 t')] := fun p q t' => ⟨.int _ _, .int _ _, .ptr _ _ _ (by omega), .ptr _ _ _ (by omega), .int _ _, .ptr _ _ _ (by omega), .int _ _, .int _ _, .int _ _, trivial⟩
    have chs : ∀ (p q : Int), chkS (fun b : Nat => b < 3) [.live 2 [[.int .i64 a, zsl x]], .live 2 [[.int .i64 b, zsl y]], .live 2 [[.int .i64 p, .int .i64 q]]] := fun p q => ⟨row_inn (stuff_row _ _), row_inn (stuff_row _ _), row_inn (rg_row _ _), trivial⟩
    have fin : ∀ (L1 : List Slot) (E1 : Env) (p q : Int) (Q : IEx → Env → List Slot → Prop), L1.take 3 = [.live 2 [[.int .i64 a, zsl x]], .live 2 [[.int .i64 b, zsl y]], .live 2 [[.int .i64 (mLo x y s t), .int .i64 (mHi x y s t)]]] →
        chkE E1 [(2, .int .i64 s), (3, .int .i64 f), (4, .ptr 0 0 0), (5, .ptr 1 0 0), (10, .int .i64 (min a b)), (11, .ptr 2 0 0), (12, .int .i64 p), (13, .int .i64 q), (14, .int .i64 (t - 1))] →
        (p = if nv < 0 ∧ Brk x y s (min a b) t then t else nv) → (q = if db < 0 ∧ ¬ Hld x y s (min a b) t then t else db) → BodyP (X := Int × Int × Int) (fun q => [(2, .int .i64 s), (3, .int .i64 f), (4, .ptr 0 0 0), (5, .ptr 1 0 0), (10, .int .i64 (min a b)), (11, .ptr 2 0 0), (12, .int .i64 q.2.1), (13, .int .i64 q.2.2), (14, .int .i64 q.1)])
          (fun q => [.live 2 [[.int .i64 a, zsl x]], .live 2 [[.int .i64 b, zsl y]], .live 2 [[.int .i64 (if q.1 = s then 0 else mLo x y s (q.1 + 1)), .int .i64 (if q.1 = s then 0 else mHi x y s (q.1 + 1))]]])
          (fun q => (q.1 + 1 - f).toNat) (fun q => f - 1 ≤ q.1 ∧ q.1 ≤ s ∧ -1 ≤ q.2.1 ∧ -1 ≤ q.2.2 ∧ (B = if q.2.1 < 0 then descB x y s (min a b) (q.1 + 1 - f).toNat q.1 else q.2.1) ∧ (D = if q.2.2 < 0 then descH x y s (min a b) (q.1 + 1 - f).toNat q.1 else q.2.2)) (t, nv, db) Q .normal E1 L1 := by
      intro L1 E1 p q Q hL hE hp hq
      have hp1 : -1 ≤ p := by rw [hp]; split <;> omega
      have hq1 : -1 ≤ q := by rw [hq]; split <;> omega
      refine .more (t - 1, p, q) rfl ⟨by dsimp only; omega, by dsimp only; omega, hp1, hq1, ?_, ?_⟩ (by dsimp only; omega) hE ?_ (chk _ _ _) (chs _ _)
      · dsimp only
        rw [h5]
        by_cases c1 : nv < 0
        · by_cases c2 : Brk x y s (min a b) t
          · have e : p = t := by rw [hp]; exact if_pos ⟨c1, c2⟩
            rw [e, if_pos c1, if_pos c2, if_neg (by omega)]
          · have e : p = nv := by rw [hp]; exact if_neg (fun z => c2 z.2)
            rw [e, if_pos c1, if_neg c2, if_pos c1, show t - 1 + 1 - f = t - f by omega]
        · have e : p = nv := by rw [hp]; exact if_neg (fun z => c1 z.1)
          rw [e, if_neg c1, if_neg c1]
      · dsimp only
        rw [h6]
        by_cases c1 : db < 0
        · by_cases c2 : ¬ Hld x y s (min a b) t
          · have e : q = t := by rw [hq]; exact if_pos ⟨c1, c2⟩
            rw [e, if_pos c1, if_pos c2, if_neg (by omega)]
          · have e : q = db := by rw [hq]; exact if_neg (fun z => c2 z.2)
            rw [e, if_pos c1, if_neg c2, if_pos c1, show t - 1 + 1 - f = t - f by omega]
        · have e : q = db := by rw [hq]; exact if_neg (fun z => c1 z.1)
          rw [e, if_neg c1, if_neg c1]
      · show List.take 3 L1 = _
        dsimp only
        rw [if_neg (by omega), if_neg (by omega), show t - 1 + 1 = t by omega]
        exact hL
    have hpq : ∀ p q : Int, (p = if nv < 0 ∧ Brk x y s (min a b) t then t else nv) → True := fun _ _ _ => trivial
    unfold Brk Hld at fin
    by_cases hts : t = s
    · subst hts
      have z0 := m_self x y t
      rw [z0.1, z0.2] at fin bm
      rw [if_pos rfl, if_pos rfl]
      repeat' ((conv => whnf); first | (refine condP.dec (fun h => ?_) (fun h => ?_)) | (first | refine condP.dec (fun h => ?_) (fun h => ?_) | refine condP.eq (fun h => ?_) (fun h => ?_) | refine condP.ne (fun h => ?_) (fun h => ?_)) | (refine .i64 (by omega) (by omega) ?_) | (refine onSome.intro (idx_fs rfl rfl (by omega) (by omega) (fun _ => rfl)) ?_) | (refine onSome.intro (load_fs rfl (by omega) (by omega) rfl) ?_) | (refine And.intro rfl ?_))
      all_goals first | (exfalso; omega) | skip
      all_goals conv => whnf
      all_goals refine fin _ _ _ _ _ rfl ⟨rfl, rfl, rfl, rfl, rfl, rfl, rfl, rfl, rfl, trivial⟩ ?_ ?_
      all_goals first | rw [if_pos (by omega)] | rw [if_neg (by omega)]
    · have md := mLo_down (x := x) (y := y) (show t < s by omega)
      have bm1 := m_bound hx hy (show 0 ≤ s by omega) hs1 (show 0 ≤ t + 1 by omega) (show t + 1 ≤ 2000 by omega)
      have g1 := zoneOf_gr hx t
      have g2 := zoneOf_gr hy t
      have k1 := ZoneOf_ok a x hx.pos (by have := hx.len; omega) t
      have k2 := ZoneOf_ok b y hy.pos (by have := hy.len; omega) t
      rw [if_neg hts, if_neg hts]
      rw [md.1, md.2] at fin bm
      generalize mLo x y s (t + 1) = m1 at *
      generalize mHi x y s (t + 1) = m2 at *
      generalize zoneOf x t = zx at *
      generalize zoneOf y t = zy at *
      repeat' ((conv => whnf); first | (refine condP.dec (fun h => ?_) (fun h => ?_)) | (refine CallP.pure k1 ?_) | (refine CallP.pure k2 ?_) | (first | refine condP.dec (fun h => ?_) (fun h => ?_) | refine condP.eq (fun h => ?_) (fun h => ?_) | refine condP.ne (fun h => ?_) (fun h => ?_)) | (refine .i64 (by omega) (by omega) ?_) | (refine onSome.intro (idx_fs rfl rfl (by omega) (by omega) (fun _ => rfl)) ?_) | (refine onSome.intro (load_fs rfl (by omega) (by omega) rfl) ?_) | (refine And.intro rfl ?_))
      all_goals first | (exfalso; omega) | skip
      all_goals conv => whnf
      all_goals refine fin _ _ _ _ _ rfl ⟨rfl, rfl, rfl, rfl, rfl, rfl, rfl, rfl, rfl, trivial⟩ ?_ ?_
      all_goals first | rw [if_pos (by omega)] | rw [if_neg (by omega)]
  · have e0 : (t + 1 - f).toNat = 0 := by omega
    rw [e0] at h5 h6
    simp only [descB, descH] at h5 h6
    have e5 : B = nv := by rw [h5]; split <;> omega
    have e6 : D = db := by rw [h6]; split <;> omega
    rw [e5, e6] at hV
    clear h5 h6
    repeat' ((conv => whnf); first | (refine condP.dec (fun h => ?_) (fun h => ?_)) | (first | refine condP.dec (fun h => ?_) (fun h => ?_) | refine condP.eq (fun h => ?_) (fun h => ?_) | refine condP.ne (fun h => ?_) (fun h => ?_)) | (refine .i64 (by omega) (by omega) ?_) | (refine onSome.intro (idx_fs rfl rfl (by omega) (by omega) (fun _ => rfl)) ?_) | (refine onSome.intro (load_fs rfl (by omega) (by omega) rfl) ?_) | (refine And.intro rfl ?_))
    all_goals first | (exfalso; omega) | skip
    refine .done (by simp) ?_
    repeat' ((conv => whnf); first | (refine condP.dec (fun h => ?_) (fun h => ?_)) | (first | refine condP.dec (fun h => ?_) (fun h => ?_) | refine condP.eq (fun h => ?_) (fun h => ?_) | refine condP.ne (fun h => ?_) (fun h => ?_)) | (refine .i64 (by omega) (by omega) ?_) | (refine onSome.intro (idx_fs rfl rfl (by omega) (by omega) (fun _ => rfl)) ?_) | (refine onSome.intro (load_fs rfl (by omega) (by omega) rfl) ?_) | (refine And.intro rfl ?_))
    all_goals first | (exfalso; omega) | skip
    all_goals conv => whnf
    · rw [if_pos (by omega)] at hV
      exact .intro (.tuple [.int .i64 2, .int .i64 nv]) (.inl rfl) rfl (frz_eq (by rw [hV]))
    · rw [if_neg (by omega), if_pos (by omega)] at hV
      exact .intro (.tuple [.int .i64 3, .int .i64 db]) (.inl rfl) rfl (frz_eq (by rw [hV]))
    · rw [if_neg (by omega), if_neg (by omega)] at hV
      exact .intro (.tuple [.int .i64 1, .int .i64 0]) (.inl rfl) rfl (frz_eq (by rw [hV]))

theorem checkFrom_ok (a : Int) (x : List Zone) (b : Int) (y : List Zone) (hx : x.length ≤ 9000000000000000000) (hy : y.length ≤ 9000000000000000000) (s f : Int) (H : Heap) :
    Ev T (.call (.func (.func 96) [] []) [stuffI a x, stuffI b y, .int .i64 s, .int .i64 f] H) (.call (.int .i64 (sealE a x b y s f)) H) := by
  refine run_pure T96 (nn_int _ _) (nn_cons (stuffI_no _ _) (nn_cons (stuffI_no _ _) (nn_cons (nn_int _ _) (nn_cons (nn_int _ _) nn_none)))) ?_ H
  have k1 := checkSeal_ok a x b y hx hy s f
  unfold sealE
  generalize pairE a x b y s f = c at *
  repeat' ((conv => whnf); first | (refine CallP.pure k1 ?_) | (first | refine condP.dec (fun h => ?_) (fun h => ?_) | refine condP.eq (fun h => ?_) (fun h => ?_) | refine condP.ne (fun h => ?_) (fun h => ?_)) | (refine .i64 (by omega) (by omega) ?_) | (refine onSome.intro (idx_fs rfl rfl (by omega) (by omega) (fun _ => rfl)) ?_) | (refine onSome.intro (load_fs rfl (by omega) (by omega) rfl) ?_) | (refine And.intro rfl ?_))
  all_goals conv => whnf
  all_goals refine .intro (.int .i64 _) (.inl rfl) rfl (frz_int ?_)
  all_goals repeat' split
  all_goals omega
theorem seal_zero {a : Int} {x : List Zone} {b : Int} {y : List Zone} {s f : Int} (h : sealE a x b y s f = 0) : (1 ≤ a ∧ a ≤ 1000000000) ∧ (1 ≤ b ∧ b ≤ 1000000000) ∧ ZOk x ∧ ZOk y ∧ 0 ≤ f ∧ f ≤ s ∧ s ≤ 2000 := by
  unfold sealE at h
  split at h
  · contradiction
  · rename_i q
    split at h
    · cases h
    · have := pair_zero (Classical.byContradiction q : pairE a x b y s f = 0)
      have h1 := check_zero this.1
      have h2 := check_zero this.2.1
      exact ⟨h1.1, h2.1, h1.2, h2.2, by omega, by omega, by omega⟩
theorem rSeal_ok (a : Int) (x : List Zone) (b : Int) (y : List Zone) (hx : x.length ≤ 9000000000000000000) (hy : y.length ≤ 9000000000000000000) (s f : Int) (H : Heap) : Ev T (.call (.func (.func 49) [] []) [stuffI a x, stuffI b y, .int .i64 s, .int .i64 f] H)
    (.call (ierr (zif (sealE a x b y s f) (sealV a x b y s f).1) (zif (sealE a x b y s f) (sealV a x b y s f).2) (sealE a x b y s f)) H) := by
  refine run_pure T49 (ierr_no _ _ _) (nn_cons (stuffI_no _ _) (nn_cons (stuffI_no _ _) (nn_cons (nn_int _ _) (nn_cons (nn_int _ _) nn_none)))) ?_ H
  have k1 := checkFrom_ok a x b y hx hy s f
  have kz := fun q => seal_zero (a := a) (x := x) (b := b) (y := y) (s := s) (f := f) q
  have k2 := fun q => rseal_ok a x b y (by have := kz q; omega) (by have := kz q; omega) (by have := kz q; omega) (by have := kz q; omega) (kz q).2.2.1 (kz q).2.2.2.1 s f (by have := kz q; omega) (by have := kz q; omega) (by have := kz q; omega)
  generalize sealE a x b y s f = e at *
  generalize sealV a x b y s f = v at *
  clear kz
  conv => whnf
  refine CallP.pure k1 ?_
  conv => whnf
  refine condP.ne (fun h => ?_) (fun h => ?_)
  · have z1 : ∀ n, zif e n = 0 := fun n => if_neg h
    conv => whnf
    exact .intro (ierr 0 0 e) (.inl rfl) rfl (frz_eq (by rw [z1, z1]))
  · have k3 := k2 h
    clear k2
    subst h
    conv => whnf
    refine CallP.pure k3 ?_
    conv => whnf
    exact .intro (ierr v.1 v.2 0) (.inl rfl) rfl (.refl _)

/-! ### Matches -/
abbrev stn (l : List (Int × List Zone)) (i : Nat) : Int × List Zone := l.getD i default
def mchE (l : List (Int × List Zone)) (b : Int) (y : List Zone) (s f : Int) (i : Nat) : Int := sealE (stn l i).1 (stn l i).2 b y s f
def matchE (l : List (Int × List Zone)) (b : Int) (y : List Zone) (s f : Int) : Int := if 12 < l.length then 8 else firstErr (mchE l b y s f) l.length
def matchN (l : List (Int × List Zone)) (b : Int) (y : List Zone) (s f : Int) : Nat → List Int
  | 0 => []
  | n + 1 => if (sealV (stn l n).1 (stn l n).2 b y s f).1 = 1 then matchN l b y s f n ++ [(n : Int)] else matchN l b y s f n
theorem matchN_len (l : List (Int × List Zone)) (b : Int) (y : List Zone) (s f : Int) : ∀ n, (matchN l b y s f n).length ≤ n
  | 0 => Nat.le_refl _
  | n + 1 => by
    have := matchN_len l b y s f n
    simp only [matchN]
    split
    · rw [List.length_append, List.length_singleton]; omega
    · omega
def slE (l : List Int) (e : Int) : IV := .tuple [sl l, .int .i64 e]
theorem slE_no (l : List Int) (e : Int) : Noname (slE l e) := nn_tuple (nn_cons (sl_no _) (nn_cons (.int _ _) nn_none))
theorem ei_no (a : Int) : ∀ x ∈ ei a, Noname x := nn_cons (.int _ _) nn_none
def matchL (l : List (Int × List Zone)) (b : Int) (y : List Zone) (s f : Int) : List Int := if matchE l b y s f = 0 then matchN l b y s f l.length else []
theorem Matches_ok (l : List (Int × List Zone)) (hl : l.length ≤ 9000000000000000000) (hlz : ∀ p ∈ l, p.2.length ≤ 9000000000000000000) (b : Int) (y : List Zone) (hy : y.length ≤ 9000000000000000000) (s f : Int) (H : Heap) :
    Ev T (.call (.func (.func 50) [] []) [stsl l, stuffI b y, .int .i64 s, .int .i64 f] H) (.call (slE (matchL l b y s f) (matchE l b y s f)) H) := by
  refine run_pure T50 (slE_no _ _) (nn_cons (stsl_no _) (nn_cons (stuffI_no _ _) (nn_cons (nn_int _ _) (nn_cons (nn_int _ _) nn_none)))) ?_ H
  have e1 : (l.map stR).length = l.length := List.length_map ..
  unfold matchL
  have hx : ∃ r, r = matchE l b y s f := ⟨_, rfl⟩
  obtain ⟨r, hr⟩ := hx
  rw [← hr]
  unfold matchE at hr
  by_cases h12 : 12 < l.length
  · rw [if_pos h12] at hr
    repeat' ((conv => whnf); first | (first | refine condP.dec (fun h => ?_) (fun h => ?_) | refine condP.eq (fun h => ?_) (fun h => ?_) | refine condP.ne (fun h => ?_) (fun h => ?_)) | (refine .i64 (by omega) (by omega) ?_) | (refine onSome.intro (idx_fs rfl rfl (by omega) (by omega) (fun _ => rfl)) ?_) | (refine onSome.intro (load_fs rfl (by omega) (by omega) rfl) ?_) | (refine And.intro rfl ?_))
    all_goals first | (exfalso; omega) | skip
    all_goals conv => whnf
    exact .intro (.tuple [.nilslice, .int .i64 8]) (.inl rfl) rfl (by rw [hr]; exact .tupleL (.cons .nil (.cons (.refl _) .nil)))
  rw [if_neg h12] at hr
  repeat' ((conv => whnf); first | (first | refine condP.dec (fun h => ?_) (fun h => ?_) | refine condP.eq (fun h => ?_) (fun h => ?_) | refine condP.ne (fun h => ?_) (fun h => ?_)) | (refine .i64 (by omega) (by omega) ?_) | (refine onSome.intro (idx_fs rfl rfl (by omega) (by omega) (fun _ => rfl)) ?_) | (refine onSome.intro (load_fs rfl (by omega) (by omega) rfl) ?_) | (refine And.intro rfl ?_))
  all_goals first | (exfalso; omega) | skip
  refine .pad 1 ?_
  refine loop_grow (X := Nat × List Int) (fun q => [(0, stsl l), (2, .int .i64 s), (3, .int .i64 f), (5, .ptr 0 0 0), (10, omsl 1 q.2), (19, stsl l), (20, .int .i64 l.length), (21, .int .i64 q.1)]) (fun q => [.live 2 [[.int .i64 b, zsl y]], lsS 1 ei q.2]) (fun q => l.length - q.1)
    (fun q => q.1 ≤ l.length ∧ firstErr (mchE l b y s f) q.1 = 0 ∧ q.2 = matchN l b y s f q.1) (0, []) ⟨Nat.zero_le _, rfl, rfl⟩ ⟨rfl, rfl, rfl, rfl, rfl, rfl, by show i6 _ = i6 _; rw [e1], rfl, trivial⟩ rfl (fun q hq => ?_)
  obtain ⟨i, out⟩ := q
  have hi := hq.1
  have h0 := hq.2.1
  have ho := hq.2.2
  dsimp only at hi h0 ho ⊢
  clear hq
  have hol := matchN_len l b y s f i
  rw [← ho] at hol
  rcases Nat.lt_or_ge i l.length with hlt | hge
  · have hnext : mchE l b y s f i = 0 → firstErr (mchE l b y s f) (i + 1) = 0 := fun h => firstErr_succ h0 h
    have hstop : mchE l b y s f i ≠ 0 → firstErr (mchE l b y s f) l.length = mchE l b y s f i := fun h => firstErr_stop h0 h (by omega)
    have f1 : at' l (i : Int) = stn l i := rfl
    have hmem : stn l i ∈ l := by unfold stn; rw [List.getD_eq_getElem?_getD, List.getElem?_eq_getElem hlt]; exact List.getElem_mem hlt
    have ks := Seal_ok (stn l i).1 (stn l i).2 b y (hlz _ hmem) hy s f
    have hN : matchN l b y s f (i + 1) = if (sealV (stn l i).1 (stn l i).2 b y s f).1 = 1 then matchN l b y s f i ++ [(i : Int)] else matchN l b y s f i := rfl
    rw [← ho] at hN
    unfold mchE at hnext hstop
    generalize sealE (stn l i).1 (stn l i).2 b y s f = e at *
    generalize sealV (stn l i).1 (stn l i).2 b y s f = V at *
    rw [← f1] at ks
    conv => whnf
    refine condP.dec (fun _ => ?_) (fun h => absurd (by omega) h)
    conv => whnf
    refine onSome.intro (idx_fs rfl rfl (by omega) (by omega) (fun _ => rfl)) ?_
    conv => whnf
    refine onSome.intro (load_fs (i := (i : Int)) (v := .agg (stR (at' l (i : Int)))) rfl (by omega) (by omega) rfl) ?_
    conv => whnf
    refine CallP.pure ks ?_
    conv => whnf
    refine condP.ne (fun hne => ?_) (fun heq => ?_)
    · conv => whnf
      refine .done (by simp) ?_
      conv => whnf
      have hre : r = e := hr.trans (hstop hne)
      exact .intro (.tuple [.nilslice, .int .i64 e]) (.inl rfl) rfl (by rw [hre, if_neg hne]; exact .tupleL (.cons .nil (.cons (.refl _) .nil)))
    · subst heq
      rw [zif_0]
      conv => whnf
      refine condP.eq (fun hv => ?_) (fun hv => ?_)
      · rw [if_pos hv] at hN
        (repeat' ((conv => whnf); first | (refine force_om ?_) | (refine forceC_om ?_) | (refine And.intro rfl ?_))); conv => whnf
        refine .snoc (enc := ei) (l := out) (b := 1) (r := [.int .i64 i]) rfl rfl rfl rfl (fun c hc => by simp at hc; subst hc; rfl) (by omega) ?_
        conv => whnf
        refine .i64 (by omega) (by omega) ?_
        conv => whnf
        exact .more (i + 1, out ++ [(i : Int)]) [0, 4] rfl ⟨by dsimp only; omega, hnext rfl, hN.symm⟩ (by dsimp only; omega) rfl
          ⟨.same (stsl_no _), .same (.int _ _), .same (.int _ _), .pt rfl, .grown rfl (by simp) (by simp), .same (stsl_no _), .same (.int _ _), .same (.int _ _), trivial⟩
          ⟨.same (noS_row (stuff_row _ _)), .snocL ei_no (.cons (.same (.int _ _)) .nil), trivial⟩
      · rw [if_neg hv] at hN
        conv => whnf
        refine .i64 (by omega) (by omega) ?_
        conv => whnf
        exact .more (i + 1, out) [0, 1] rfl ⟨by dsimp only; omega, hnext rfl, hN.symm⟩ (by dsimp only; omega) rfl
          ⟨.same (stsl_no _), .same (.int _ _), .same (.int _ _), .pt rfl, .omsl rfl, .same (stsl_no _), .same (.int _ _), .same (.int _ _), trivial⟩
          ⟨.same (noS_row (stuff_row _ _)), .same (lsS_no ei_no), trivial⟩
  · obtain rfl : i = l.length := by omega
    conv => whnf
    refine condP.dec (fun h => absurd h (by omega)) (fun _ => ?_)
    conv => whnf
    refine .done (by simp) ?_
    (repeat' ((conv => whnf); first | (refine force_om ?_) | (refine forceC_om ?_) | (refine And.intro rfl ?_))); conv => whnf
    have hr0 : r = 0 := hr.trans h0
    exact .intro (.tuple [omsl 1 out, .int .i64 0]) (.inl rfl) rfl (by rw [hr0, if_pos rfl, ← ho]; exact .tupleL (.cons (.oml (sz := 1) (enc := ei) rfl (fun _ _ h => by cases h)) (.cons (.refl _) .nil)))
theorem rMatches_ok (l : List (Int × List Zone)) (hl : l.length ≤ 9000000000000000000) (hlz : ∀ p ∈ l, p.2.length ≤ 9000000000000000000) (b : Int) (y : List Zone) (hy : y.length ≤ 9000000000000000000) (s f : Int) (H : Heap) :
    Ev T (.call (.func (.func 51) [] []) [stsl l, stuffI b y, .int .i64 s, .int .i64 f] H) (.call (slE (matchL l b y s f) (matchE l b y s f)) H) := by
  refine run_pure T51 (slE_no _ _) (nn_cons (stsl_no _) (nn_cons (stuffI_no _ _) (nn_cons (nn_int _ _) (nn_cons (nn_int _ _) nn_none)))) ?_ H
  have e1 : (l.map stR).length = l.length := List.length_map ..
  unfold matchL
  have hx : ∃ r, r = matchE l b y s f := ⟨_, rfl⟩
  obtain ⟨r, hr⟩ := hx
  rw [← hr]
  unfold matchE at hr
  by_cases h12 : 12 < l.length
  · rw [if_pos h12] at hr
    repeat' ((conv => whnf); first | (first | refine condP.dec (fun h => ?_) (fun h => ?_) | refine condP.eq (fun h => ?_) (fun h => ?_) | refine condP.ne (fun h => ?_) (fun h => ?_)) | (refine .i64 (by omega) (by omega) ?_) | (refine onSome.intro (idx_fs rfl rfl (by omega) (by omega) (fun _ => rfl)) ?_) | (refine onSome.intro (load_fs rfl (by omega) (by omega) rfl) ?_) | (refine And.intro rfl ?_))
    all_goals first | (exfalso; omega) | skip
    all_goals conv => whnf
    exact .intro (.tuple [.nilslice, .int .i64 8]) (.inl rfl) rfl (by rw [hr]; exact .tupleL (.cons .nil (.cons (.refl _) .nil)))
  rw [if_neg h12] at hr
  repeat' ((conv => whnf); first | (first | refine condP.dec (fun h => ?_) (fun h => ?_) | refine condP.eq (fun h => ?_) (fun h => ?_) | refine condP.ne (fun h => ?_) (fun h => ?_)) | (refine .i64 (by omega) (by omega) ?_) | (refine onSome.intro (idx_fs rfl rfl (by omega) (by omega) (fun _ => rfl)) ?_) | (refine onSome.intro (load_fs rfl (by omega) (by omega) rfl) ?_) | (refine And.intro rfl ?_))
  all_goals first | (exfalso; omega) | skip
  refine loop_rule (X := Nat) (fun i => [(0, stsl l), (2, .int .i64 s), (3, .int .i64 f), (5, .ptr 0 0 0), (10, .int .i64 i)]) (fun q => [.live 2 [[.int .i64 b, zsl y]]]) (fun q => l.length - q)
    (fun i => i ≤ l.length ∧ firstErr (mchE l b y s f) i = 0) 0 ⟨Nat.zero_le _, rfl⟩ ⟨rfl, rfl, rfl, rfl, rfl, trivial⟩ rfl (fun _ _ => rfl) (fun i hq => ?_)
  have hi := hq.1
  have h0 := hq.2
  clear hq
  rcases Nat.lt_or_ge i l.length with hlt | hge
  · have hnext : mchE l b y s f i = 0 → firstErr (mchE l b y s f) (i + 1) = 0 := fun h => firstErr_succ h0 h
    have hstop : mchE l b y s f i ≠ 0 → firstErr (mchE l b y s f) l.length = mchE l b y s f i := fun h => firstErr_stop h0 h (by omega)
    have f1 : at' l (i : Int) = stn l i := rfl
    have hmem : stn l i ∈ l := by unfold stn; rw [List.getD_eq_getElem?_getD, List.getElem?_eq_getElem hlt]; exact List.getElem_mem hlt
    have ks := checkFrom_ok (stn l i).1 (stn l i).2 b y (hlz _ hmem) hy s f
    unfold mchE at hnext hstop
    generalize sealE (stn l i).1 (stn l i).2 b y s f = e at *
    rw [← f1] at ks
    conv => whnf
    refine condP.dec (fun _ => ?_) (fun h => absurd (by omega) h)
    conv => whnf
    refine onSome.intro (idx_fs rfl rfl (by omega) (by omega) (fun _ => rfl)) ?_
    conv => whnf
    refine onSome.intro (load_fs (i := (i : Int)) (v := .agg (stR (at' l (i : Int)))) rfl (by omega) (by omega) rfl) ?_
    conv => whnf
    refine CallP.pure ks ?_
    repeat' ((conv => whnf); first | (refine And.intro (idx_fs rfl rfl (by omega) (by omega) (fun _ => rfl)) ?_) | (refine And.intro (load_fs (i := (i : Int)) (v := .agg (stR (at' l (i : Int)))) rfl (by omega) (by omega) rfl) ?_) | (first | refine condP.dec (fun h => ?_) (fun h => ?_) | refine condP.eq (fun h => ?_) (fun h => ?_) | refine condP.ne (fun h => ?_) (fun h => ?_)) | (refine .i64 (by omega) (by omega) ?_) | (refine onSome.intro (idx_fs rfl rfl (by omega) (by omega) (fun _ => rfl)) ?_) | (refine onSome.intro (load_fs rfl (by omega) (by omega) rfl) ?_) | (refine And.intro rfl ?_))
    all_goals conv => whnf
    · refine .done (by simp) ?_
      conv => whnf
      have hne : e ≠ 0 := by assumption
      have hre : r = e := hr.trans (hstop hne)
      exact .intro (.tuple [.nilslice, .int .i64 e]) (.inl rfl) rfl (by rw [hre, if_neg hne]; exact .tupleL (.cons .nil (.cons (.refl _) .nil)))
    · exact .more (i + 1) rfl ⟨by omega, hnext (by assumption)⟩ (by omega) ⟨rfl, rfl, rfl, rfl, rfl, trivial⟩ rfl ⟨(stsl_no _).inn _, .int _ _, .int _ _, .ptr _ _ _ (by simp), .int _ _, trivial⟩ ⟨row_inn (stuff_row _ _), trivial⟩
  obtain rfl : i = l.length := by omega
  have hr0 : r = 0 := hr.trans h0
  have hall := firstErr_zero.mp h0
  conv => whnf
  refine condP.dec (fun h => absurd h (by omega)) (fun _ => ?_)
  conv => whnf
  refine .done (by simp) ?_
  conv => whnf
  refine .pad 1 ?_
  refine loop_grow (X := Nat × List Int) (fun q => [(0, stsl l), (2, .int .i64 s), (3, .int .i64 f), (5, .ptr 0 0 0), (12, omsl 1 q.2), (13, .int .i64 q.1)]) (fun q => [.live 2 [[.int .i64 b, zsl y]], lsS 1 ei q.2]) (fun q => l.length - q.1)
    (fun q => q.1 ≤ l.length ∧ q.2 = matchN l b y s f q.1) (0, []) ⟨Nat.zero_le _, rfl⟩ ⟨rfl, rfl, rfl, rfl, rfl, rfl, trivial⟩ rfl (fun q hq => ?_)
  obtain ⟨i, out⟩ := q
  have hi := hq.1
  have ho := hq.2
  dsimp only at hi ho ⊢
  clear hq
  have hol := matchN_len l b y s f i
  rw [← ho] at hol
  rcases Nat.lt_or_ge i l.length with hlt | hge
  · have f1 : at' l (i : Int) = stn l i := rfl
    have hz := seal_zero (hall i hlt)
    have ks := rseal_ok (stn l i).1 (stn l i).2 b y (by omega) (by omega) (by omega) (by omega) hz.2.2.1 hz.2.2.2.1 s f (by omega) (by omega) (by omega)
    have hN : matchN l b y s f (i + 1) = if (sealV (stn l i).1 (stn l i).2 b y s f).1 = 1 then matchN l b y s f i ++ [(i : Int)] else matchN l b y s f i := rfl
    rw [← ho] at hN
    generalize sealV (stn l i).1 (stn l i).2 b y s f = V at *
    rw [← f1] at ks
    clear hz
    conv => whnf
    refine condP.dec (fun _ => ?_) (fun h => absurd (by omega) h)
    conv => whnf
    refine onSome.intro (idx_fs rfl rfl (by omega) (by omega) (fun _ => rfl)) ?_
    conv => whnf
    refine onSome.intro (load_fs (i := (i : Int)) (v := .agg (stR (at' l (i : Int)))) rfl (by omega) (by omega) rfl) ?_
    conv => whnf
    refine CallP.pure ks ?_
    repeat' ((conv => whnf); first | (refine And.intro (idx_fs rfl rfl (by omega) (by omega) (fun _ => rfl)) ?_) | (refine And.intro (load_fs (i := (i : Int)) (v := .agg (stR (at' l (i : Int)))) rfl (by omega) (by omega) rfl) ?_) | (refine force_om ?_) | (refine .snoc (enc := ei) (l := out) (b := 1) (r := [.int .i64 i]) rfl rfl rfl rfl (fun c hc => by simp at hc; subst hc; rfl) (by omega) ?_) | (first | refine condP.dec (fun h => ?_) (fun h => ?_) | refine condP.eq (fun h => ?_) (fun h => ?_) | refine condP.ne (fun h => ?_) (fun h => ?_)) | (refine .i64 (by omega) (by omega) ?_) | (refine onSome.intro (idx_fs rfl rfl (by omega) (by omega) (fun _ => rfl)) ?_) | (refine onSome.intro (load_fs rfl (by omega) (by omega) rfl) ?_) | (refine And.intro rfl ?_))
    all_goals conv => whnf
    · rw [if_pos (by assumption)] at hN
      exact .more (i + 1, out ++ [(i : Int)]) [0, 3] rfl ⟨by dsimp only; omega, hN.symm⟩ (by dsimp only; omega) rfl
        ⟨.same (stsl_no _), .same (.int _ _), .same (.int _ _), .pt rfl, .grown rfl (by simp) (by simp), .same (.int _ _), trivial⟩
        ⟨.same (noS_row (stuff_row _ _)), .snocL ei_no (.cons (.same (.int _ _)) .nil), trivial⟩
    · rw [if_neg (by assumption)] at hN
      exact .more (i + 1, out) [0, 1] rfl ⟨by dsimp only; omega, hN.symm⟩ (by dsimp only; omega) rfl
        ⟨.same (stsl_no _), .same (.int _ _), .same (.int _ _), .pt rfl, .omsl rfl, .same (.int _ _), trivial⟩
        ⟨.same (noS_row (stuff_row _ _)), .same (lsS_no ei_no), trivial⟩
  · obtain rfl : i = l.length := by omega
    conv => whnf
    refine condP.dec (fun h => absurd h (by omega)) (fun _ => ?_)
    conv => whnf
    refine .done (by simp) ?_
    (repeat' ((conv => whnf); first | (refine force_om ?_) | (refine forceC_om ?_) | (refine And.intro rfl ?_))); conv => whnf
    exact .intro (.tuple [omsl 1 out, .int .i64 0]) (.inl rfl) rfl (by rw [hr0, if_pos rfl, ← ho]; exact .tupleL (.cons (.oml (sz := 1) (enc := ei) rfl (fun _ _ h => by cases h)) (.cons (.refl _) .nil)))

end Go.Proofs.Ytpbadgghhiommaa.I
