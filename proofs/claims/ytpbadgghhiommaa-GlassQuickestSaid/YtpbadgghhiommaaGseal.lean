/- Seals. -/
import Derived.Test.YtpbadgghhiommaaGmis
import Derived.Test.YtpbadgghhiommaaI3
set_option linter.unusedVariables false
set_option maxHeartbeats 8000000
set_option linter.unusedSimpArgs false
namespace Go.Proofs.Ytpbadgghhiommaa.I
open Go.Ideal

abbrev Brk (x y : List Zone) (s lim t : Int) : Prop := lim < mLo x y s t ∨ mHi x y s t < -lim
abbrev Hld (x y : List Zone) (s lim t : Int) : Prop := -lim ≤ mLo x y s t ∧ mHi x y s t ≤ lim
def sealG (x y : List Zone) (s lim : Int) : Nat → Int → Int → Int → Int × Int
  | 0, _, v, a => (v, a)
  | n + 1, t, v, a => if Brk x y s lim t then (2, t) else if v = 1 ∧ ¬ Hld x y s lim t then sealG x y s lim n (t - 1) 3 t else sealG x y s lim n (t - 1) v a

theorem seal_ok (a : Int) (x : List Zone) (b : Int) (y : List Zone) (ha : 0 ≤ a) (ha1 : a ≤ 1000000000) (hb : 0 ≤ b) (hb1 : b ≤ 1000000000) (hx : ZOk x) (hy : ZOk y) (s f : Int) (hs1 : s ≤ 2000) (hf : 0 ≤ f) (hfs : f ≤ s) (H : Heap) :
    Ev T (.call (.func (.func 93) [] []) [stuffI a x, stuffI b y, .int .i64 s, .int .i64 f] H) (.call (.tuple [.int .i64 (sealG x y s (min a b) (s - f + 1).toNat s 1 0).1, .int .i64 (sealG x y s (min a b) (s - f + 1).toNat s 1 0).2]) H) := by
  refine run_pure T93 (nn_tuple (nn_cons (.int _ _) (nn_cons (.int _ _) nn_none))) (nn_cons (stuffI_no _ _) (nn_cons (stuffI_no _ _) (nn_cons (nn_int _ _) (nn_cons (nn_int _ _) nn_none)))) ?_ H
  conv => whnf
  refine CallP.inl T120 rfl ?_
  conv => whnf
  refine CallP.inl T119 rfl ?_
  conv => whnf
  refine range_rule [(4, .ptr 7 0 0), (5, .ptr 8 0 0), (6, .ptr 9 0 0), (7, .ptr 10 0 0)] ⟨rfl, rfl, rfl, rfl, trivial⟩ rfl T137 (fun ls hls => ?_)
  conv => whnf
  refine CallP.inl T137 (by simp [Slot.used, hls]) ?_
  conv => whnf
  refine loop_rule (X := Int × Int × Int) (fun q => [(0, .yield 11), (1, .ptr 5 0 0), (2, .ptr 6 0 0), (3, .ptr 3 0 0), (4, .ptr 4 0 0), (6, .int .i64 q.1)])
    (fun q => [.live 2 [[.int .i64 a, zsl x]], .live 2 [[.int .i64 b, zsl y]], .live 1 [[.int .i64 (min a b)]], .live 2 [[.int .i64 a, zsl x]], .live 2 [[.int .i64 b, zsl y]], .live 1 [[.int .i64 s]], .live 1 [[.int .i64 f]],
      .live 1 [[.func (.func 121) [] [.ptr 2 0 0]]], .live 1 [[.func (.func 122) [] [.ptr 2 0 0]]], .live 1 [[.int .i64 q.2.1]], .live 1 [[.int .i64 q.2.2]], ls .ready .normal])
    (fun q => (q.1 + 1 - f).toNat) (fun q => f - 1 ≤ q.1 ∧ q.1 ≤ s ∧ sealG x y s (min a b) (s - f + 1).toNat s 1 0 = sealG x y s (min a b) (q.1 + 1 - f).toNat q.1 q.2.1 q.2.2) (s, 1, 0)
    ⟨by dsimp only; omega, by dsimp only; omega, by dsimp only; rw [show s - f + 1 = s + 1 - f by omega]⟩ ⟨rfl, rfl, rfl, rfl, rfl, rfl, trivial⟩ rfl (fun _ _ => rfl) (fun q hq => ?_)
  have inT : ∀ (n : Nat) (u : Int), 11 < n → chkI (fun b => b < n) [(0, .yield 11), (1, .ptr 5 0 0), (2, .ptr 6 0 0), (3, .ptr 3 0 0), (4, .ptr 4 0 0), (6, .int .i64 u)] := fun n u hn => ⟨.yield _ hn, .ptr _ _ _ (by omega), .ptr _ _ _ (by omega), .ptr _ _ _ (by omega), .ptr _ _ _ (by omega), .int _ _, trivial⟩
  have inS : ∀ (n : Nat) (v' a' : Int), 11 < n → chkS (fun b => b < n) [.live 2 [[.int .i64 a, zsl x]], .live 2 [[.int .i64 b, zsl y]], .live 1 [[.int .i64 (min a b)]], .live 2 [[.int .i64 a, zsl x]], .live 2 [[.int .i64 b, zsl y]], .live 1 [[.int .i64 s]], .live 1 [[.int .i64 f]],
      .live 1 [[.func (.func 121) [] [.ptr 2 0 0]]], .live 1 [[.func (.func 122) [] [.ptr 2 0 0]]], .live 1 [[.int .i64 v']], .live 1 [[.int .i64 a']], ls .ready .normal] := fun n v' a' hn =>
    ⟨row_inn (stuff_row _ _), row_inn (stuff_row _ _), inn_row (in_one (.int _ _)), row_inn (stuff_row _ _), row_inn (stuff_row _ _), inn_row (in_one (.int _ _)), inn_row (in_one (.int _ _)), inn_row (in_one (inn_func (in_one (.ptr _ _ _ (by omega))))), inn_row (in_one (inn_func (in_one (.ptr _ _ _ (by omega))))),
      inn_row (in_one (.int _ _)), inn_row (in_one (.int _ _)), chkS_ls hls ⟨.ptr _ _ _ (by omega), .ptr _ _ _ (by omega), .ptr _ _ _ (by omega), .ptr _ _ _ (by omega), trivial⟩ trivial⟩
  obtain ⟨t, v, at_⟩ := q
  obtain ⟨h1, h2, h3⟩ := hq
  dsimp only at h1 h2 h3 ⊢
  conv => whnf
  refine condP.dec (fun hge => ?_) (fun hlt => ?_)
  · have k := mismatch_ok a x b y hx hy s t (by omega) hs1 (by omega) (by omega)
    have b1 := gLo_bound hx (show 0 ≤ s by omega) hs1 (show 0 ≤ t by omega) (show t ≤ 2000 by omega)
    have b2 := gLo_bound hy (show 0 ≤ s by omega) hs1 (show 0 ≤ t by omega) (show t ≤ 2000 by omega)
    have hm : -400000000 ≤ mLo x y s t ∧ mLo x y s t ≤ 400000000 ∧ -400000000 ≤ mHi x y s t ∧ mHi x y s t ≤ 400000000 := by unfold mLo mHi; omega
    rw [show (t + 1 - f).toNat = (t - f).toNat + 1 by omega, sealG] at h3
    unfold Brk Hld at h3
    have e1 : ∃ p, p = mLo x y s t := ⟨_, rfl⟩
    obtain ⟨p1, e1⟩ := e1
    have e2 : ∃ p, p = mHi x y s t := ⟨_, rfl⟩
    obtain ⟨p2, e2⟩ := e2
    rw [← e1, ← e2] at k hm h3
    conv => whnf
    refine CallP.pure k ?_
    conv => whnf
    refine CallP.yield hls rfl rfl (by simp [Slot.used, hls]) rfl ?_
    conv => whnf
    refine ⟨rfl, ?_⟩
    conv => whnf
    repeat' ((conv => whnf); first | (refine CallP.inl T121 (by simp [Slot.used, hls]) ?_) | (refine CallP.inl T122 (by simp [Slot.used, hls]) ?_) | (first | refine condP.dec (fun h => ?_) (fun h => ?_) | refine condP.eq (fun h => ?_) (fun h => ?_) | refine condP.ne (fun h => ?_) (fun h => ?_)) | (refine .i64 (by omega) (by omega) ?_) | (refine onSome.intro (idx_fs rfl rfl (by omega) (by omega) (fun _ => rfl)) ?_) | (refine onSome.intro (load_fs rfl (by omega) (by omega) rfl) ?_) | (refine And.intro rfl ?_))
    all_goals conv => whnf
    all_goals first
      | (rw [if_pos (by omega)] at h3
         refine .done (by simp) ?_
         conv => whnf
         refine .intro .done .ret rfl (by simp) ?_
         (repeat ((conv => whnf); refine And.intro rfl ?_)); conv => whnf
         exact .intro (.tuple [.int .i64 2, .int .i64 t]) (.inl rfl) rfl (frz_eq (by rw [h3])))
      | (rw [if_neg (by omega), if_neg (by omega)] at h3
         exact .more (t - 1, v, at_) rfl ⟨by dsimp only; omega, by dsimp only; omega, by dsimp only; rw [h3, show t - 1 + 1 - f = t - f by omega]⟩ (by dsimp only; omega) ⟨rfl, rfl, rfl, rfl, rfl, rfl, trivial⟩ rfl (inT 12 _ (by decide)) (inS 12 _ _ (by decide)))
      | (rw [if_neg (by omega), if_pos (by omega)] at h3
         exact .more (t - 1, 3, t) rfl ⟨by dsimp only; omega, by dsimp only; omega, by dsimp only; rw [h3, show t - 1 + 1 - f = t - f by omega]⟩ (by dsimp only; omega) ⟨rfl, rfl, rfl, rfl, rfl, rfl, trivial⟩ rfl (inT 12 _ (by decide)) (inS 12 _ _ (by decide)))
  · conv => whnf
    refine .done (by simp) ?_
    conv => whnf
    refine .intro .ready .normal rfl (by simp) ?_
    (repeat ((conv => whnf); refine And.intro rfl ?_)); conv => whnf
    refine .intro (.tuple [.int .i64 v, .int .i64 at_]) (.inl rfl) rfl (frz_eq ?_)
    rw [h3, show (t + 1 - f).toNat = 0 by omega]
    rfl

def sealE (a : Int) (x : List Zone) (b : Int) (y : List Zone) (s f : Int) : Int := if pairE a x b y s f ≠ 0 then pairE a x b y s f else if s < f then 2 else 0
def sealV (a : Int) (x : List Zone) (b : Int) (y : List Zone) (s f : Int) : Int × Int := sealG x y s (min a b) (s - f + 1).toNat s 1 0
def ierr (v w e : Int) : IV := .tuple [.int .i64 v, .int .i64 w, .int .i64 e]
theorem ierr_no (v w e : Int) : Noname (ierr v w e) := nn_tuple (nn_cons (.int _ _) (nn_cons (.int _ _) (nn_cons (.int _ _) nn_none)))
theorem Seal_ok (a : Int) (x : List Zone) (b : Int) (y : List Zone) (hx : x.length ≤ 9000000000000000000) (hy : y.length ≤ 9000000000000000000) (s f : Int) (H : Heap) : Ev T (.call (.func (.func 41) [] []) [stuffI a x, stuffI b y, .int .i64 s, .int .i64 f] H)
    (.call (ierr (zif (sealE a x b y s f) (sealV a x b y s f).1) (zif (sealE a x b y s f) (sealV a x b y s f).2) (sealE a x b y s f)) H) := by
  refine run_pure T41 (ierr_no _ _ _) (nn_cons (stuffI_no _ _) (nn_cons (stuffI_no _ _) (nn_cons (nn_int _ _) (nn_cons (nn_int _ _) nn_none)))) ?_ H
  have k1 := checkPair_ok a x b y hx hy s f
  have kz := fun q => pair_zero (a := a) (x := x) (b := b) (y := y) (s := s) (h := f) q
  have hE : ∃ e, e = sealE a x b y s f := ⟨_, rfl⟩
  obtain ⟨e, he⟩ := hE
  rw [← he]
  unfold sealE at he
  generalize pairE a x b y s f = c at *
  conv => whnf
  refine CallP.pure k1 ?_
  conv => whnf
  refine condP.ne (fun h => ?_) (fun h => ?_)
  · rw [if_pos h] at he
    subst he
    have z1 : ∀ n, zif e n = 0 := fun n => if_neg h
    conv => whnf
    exact .intro (ierr 0 0 e) (.inl rfl) rfl (frz_eq (by rw [z1, z1]))
  · rw [if_neg (by omega)] at he
    have kk := kz h
    obtain ⟨z1, z2, z3, z4, z5, z6⟩ := kk
    conv => whnf
    refine condP.dec (fun h2 => ?_) (fun h2 => ?_)
    · rw [if_pos (by omega)] at he
      subst he
      conv => whnf
      exact .intro (ierr 0 0 2) (.inl rfl) rfl (.refl _)
    · rw [if_neg (by omega)] at he
      subst he
      have k2 := seal_ok a x b y (by have := (check_zero z1).1; omega) (by have := (check_zero z1).1; omega) (by have := (check_zero z2).1; omega) (by have := (check_zero z2).1; omega) (check_zero z1).2 (check_zero z2).2 s f z4 z5 (by omega)
      have hV : sealG x y s (min a b) (s - f + 1).toNat s 1 0 = sealV a x b y s f := rfl
      rw [hV] at k2
      generalize sealV a x b y s f = v at *
      conv => whnf
      refine CallP.pure k2 ?_
      conv => whnf
      exact .intro (ierr v.1 v.2 0) (.inl rfl) rfl (.refl _)

end Go.Proofs.Ytpbadgghhiommaa.I
