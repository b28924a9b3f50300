/- Verdicts on programmes. -/
import Derived.Test.YtpbadgghhiommaaGjm
import Derived.Test.YtpbadgghhiommaaGat
set_option linter.unusedVariables false
set_option maxHeartbeats 32000000
set_option linter.unusedSimpArgs false
namespace Go.Proofs.Ytpbadgghhiommaa.I
open Go.Ideal

theorem gS_step {zs : List Zone} {k f : Int} {ls : List Leg} (h : OOk f ls) {n : Nat} (hn : n < ls.length) {j : Nat} (hj : j < (ln ls n).ti.toNat) : gS zs k f ls (totT ls n + j + 1) = tickS zs k (gS zs k f ls (totT ls n)).t (ln ls n).he (ln ls n).ti (j + 1) (gS zs k f ls (totT ls n + j)) := by
  have ho := gS_oven (zs := zs) (k := k) h n (by omega)
  have e1 := gS_leg (zs := zs) (k := k) h hn ho (j + 1) (by omega)
  have e2 := gS_leg (zs := zs) (k := k) h hn ho j (by omega)
  rw [show totT ls n + j + 1 = totT ls n + (j + 1) by omega, ← e1, legS, e2, ho]
def jS (b : Int) (zs : List Zone) (k f : Int) (ls : List Leg) (left N : Int) (lsA lsB : Slot) (v a lo hi : Int) : List Slot :=
  [.live 2 [[.int .i64 b, zsl zs]], .live 1 [[.int .i64 k]], .live 2 [[.int .i64 f, lsl ls]], .live 1 [[.int .i64 left]], .live 1 [[.int .i64 N]], .live 1 [[.func (.func 132) [] []]], .live 1 [[.func (.func 133) [] []]], .live 1 [[.int .i64 v]], .live 1 [[.int .i64 a]],
    lsA, .live 1 [[.yield 9]], .live 2 [[.int .i64 b, zsl zs]], .live 1 [[.int .i64 k]], .live 2 [[.int .i64 f, lsl ls]], lsB, .live 2 [[.int .i64 lo, .int .i64 hi]]]
def jL (b : Int) (zs : List Zone) (k f : Int) (ls : List Leg) (left N : Int) (lsA lsB : Slot) (v a lo hi : Int) (l : Leg) : List Slot :=
  [.live 2 [[.int .i64 b, zsl zs]], .live 1 [[.int .i64 k]], .live 2 [[.int .i64 f, lsl ls]], .live 1 [[.int .i64 left]], .live 1 [[.int .i64 N]], .live 1 [[.func (.func 132) [] []]], .live 1 [[.func (.func 133) [] []]], .live 1 [[.int .i64 v]], .live 1 [[.int .i64 a]],
    lsA, .live 1 [[.yield 9]], .live 2 [[.int .i64 b, zsl zs]], .live 1 [[.int .i64 k]], .live 2 [[.int .i64 f, lsl ls]], lsB, .live 2 [[.int .i64 lo, .int .i64 hi]], .live 2 [lr l]]
theorem one_no (n : Int) : ∀ x ∈ [IV.int .i64 n], Noname x := nn_cons (.int _ _) nn_none

theorem judge_ok (b : Int) (zs : List Zone) (hb0 : 0 ≤ b) (hb1 : b ≤ 1000000000) (hZ : ZOk zs) (k f : Int) (hk : 1 ≤ k) (hk1 : k ≤ 1000) (ls : List Leg) (hO : OOk f ls) (left : Int) (hl0 : 0 ≤ left) (hl1 : left ≤ 1099511627776) (H : Heap) :
    Ev T (.call (.func (.func 109) [] []) [stuffI b zs, .int .i64 k, ovenI f ls, .int .i64 left] H) (.call (.tuple [.int .i64 (judgeV b zs k f ls left).1, .int .i64 (judgeV b zs k f ls left).2]) H) := by
  refine run_pure T109 (nn_tuple (nn_cons (.int _ _) (nn_cons (.int _ _) nn_none))) (nn_cons (stuffI_no _ _) (nn_cons (nn_int _ _) (nn_cons (ovenI_no _ _) (nn_cons (nn_int _ _) nn_none)))) ?_ H
  have e1 : (ls.map lr).length = ls.length := List.length_map ..
  have hOl := hO.len
  have tle := totT_le hO ls.length (Nat.le_refl _)
  have hV : ∃ V, V = judgeV b zs k f ls left := ⟨_, rfl⟩
  obtain ⟨V, hV⟩ := hV
  rw [← hV]
  unfold judgeV at hV
  conv => whnf
  refine loop_rule (X := Nat) (fun i => [(4, .ptr 0 0 0), (5, .ptr 1 0 0), (6, .ptr 2 0 0), (7, .ptr 3 0 0), (10, .ptr 4 0 0), (15, lsl ls), (16, .int .i64 ls.length), (17, .int .i64 i)])
    (fun i => [.live 2 [[.int .i64 b, zsl zs]], .live 1 [[.int .i64 k]], .live 2 [[.int .i64 f, lsl ls]], .live 1 [[.int .i64 left]], .live 1 [[.int .i64 (totT ls i : Int)]]]) (fun i => ls.length - i) (fun i => i ≤ ls.length) 0
    (Nat.zero_le _) ⟨rfl, rfl, rfl, rfl, rfl, rfl, by show i6 _ = i6 _; rw [e1], rfl, trivial⟩ rfl (fun _ _ => rfl) (fun i hi => ?_)
  rcases Nat.lt_or_ge i ls.length with hlt | hge
  · have hleg := hO.leg i hlt
    have fl : at' ls (i : Int) = ln ls i := rfl
    have t1 := totT_le hO i hi
    have ts : totT ls (i + 1) = totT ls i + (ln ls i).ti.toNat := rfl
    rw [← fl] at hleg ts
    conv => whnf
    refine condP.dec (fun _ => ?_) (fun h => absurd (by omega) h)
    conv => whnf
    refine onSome.intro (idx_fs rfl rfl (by omega) (by omega) (fun _ => rfl)) ?_
    conv => whnf
    refine onSome.intro (load_fs (i := (i : Int)) (v := .agg (lr (at' ls (i : Int)))) rfl (by omega) (by omega) rfl) ?_
    conv => whnf
    refine .i64 (by omega) (by omega) ?_
    conv => whnf
    refine .i64 (by omega) (by omega) ?_
    conv => whnf
    refine .more (i + 1) rfl (by omega) (by omega) ⟨rfl, rfl, rfl, rfl, rfl, rfl, rfl, rfl, trivial⟩ ?_ ⟨.ptr _ _ _ (by simp), .ptr _ _ _ (by simp), .ptr _ _ _ (by simp), .ptr _ _ _ (by simp), .ptr _ _ _ (by simp), (lsl_no _).inn _, .int _ _, .int _ _, trivial⟩
      ⟨row_inn (stuff_row _ _), row_inn (nn_cons (.int _ _) nn_none), row_inn (oven_row _ _), row_inn (nn_cons (.int _ _) nn_none), row_inn (nn_cons (.int _ _) nn_none), trivial⟩
    show List.take 5 _ = _
    rw [show ((totT ls (i + 1) : Nat) : Int) = (totT ls i : Int) + (at' ls (i : Int)).ti by rw [ts]; omega]
    rfl
  obtain rfl : i = ls.length := by omega
  conv => whnf
  refine condP.dec (fun h => absurd h (by omega)) (fun _ => ?_)
  conv => whnf
  refine .done (by simp) ?_
  conv => whnf
  refine CallP.inl T119 rfl ?_
  conv => whnf
  refine range_rule [(4, .ptr 5 0 0), (5, .ptr 6 0 0), (6, .ptr 7 0 0), (7, .ptr 8 0 0)] ⟨rfl, rfl, rfl, rfl, trivial⟩ rfl T131 (fun lsA hA => ?_)
  conv => whnf
  refine CallP.inl T131 (by simp [Slot.used, hA]) ?_
  conv => whnf
  refine CallP.inl T108 (by simp [Slot.used, hA]) ?_
  conv => whnf
  refine range_rule [(1, .ptr 0 0 0), (4, .ptr 4 0 0), (5, .ptr 3 0 0), (6, .ptr 10 0 0)] ⟨rfl, rfl, rfl, rfl, trivial⟩ rfl T130 (fun lsB hB => ?_)
  conv => whnf
  refine CallP.inl T130 (by simp [Slot.used, hA, hB]) ?_
  (repeat ((conv => whnf); refine And.intro rfl ?_)); conv => whnf
  have hg : ∃ g, g = gS zs k f ls := ⟨_, rfl⟩
  obtain ⟨g, hg⟩ := hg
  have g0 : (g 0).lo = 0 ∧ (g 0).hi = 0 ∧ (g 0).t = f := by
    rw [hg]
    have := gS_oven (zs := zs) (k := k) hO 0 (Nat.zero_le _)
    rw [totT] at this
    rw [← this]
    exact ⟨rfl, rfl, rfl⟩
  have hok : ∀ m, m ≤ totT ls ls.length → StOk (g m) := fun m hm => by rw [hg]; exact gS_ok hZ (by omega) hk1 hO ls.length (Nat.le_refl _) m hm
  have hpg : ∀ m, rs zs k (allH f ls ls.length) m = ((g m).lo, (g m).hi) := fun m => by rw [hg]; rfl
  have hst : ∀ n, n < ls.length → ∀ j, j < (ln ls n).ti.toNat → g (totT ls n + j + 1) = tickS zs k (g (totT ls n)).t (ln ls n).he (ln ls n).ti (j + 1) (g (totT ls n + j)) := fun n hn j hj => by rw [hg]; exact gS_step hO hn hj
  clear hg
  generalize rs zs k (allH f ls ls.length) = p at *
  generalize hN : totT ls ls.length = N at *
  have inA : ∀ n, 8 < n → chkI (fun b => b < n) [(4, .ptr 5 0 0), (5, .ptr 6 0 0), (6, .ptr 7 0 0), (7, .ptr 8 0 0)] := fun n h => ⟨.ptr _ _ _ (by omega), .ptr _ _ _ (by omega), .ptr _ _ _ (by omega), .ptr _ _ _ (by omega), trivial⟩
  have inB : ∀ n, 10 < n → chkI (fun b => b < n) [(1, .ptr 0 0 0), (4, .ptr 4 0 0), (5, .ptr 3 0 0), (6, .ptr 10 0 0)] := fun n h => ⟨.ptr _ _ _ (by omega), .ptr _ _ _ (by omega), .ptr _ _ _ (by omega), .ptr _ _ _ (by omega), trivial⟩
  have chS : ∀ v a lo hi, chkS (fun b => b < 16) (jS b zs k f ls left N (lsA .ready .normal) (lsB .ready .normal) v a lo hi) := fun v a lo hi =>
    ⟨row_inn (stuff_row _ _), row_inn (one_no _), row_inn (oven_row _ _), row_inn (one_no _), row_inn (one_no _), inn_row (in_one (inn_func in_nil)), inn_row (in_one (inn_func in_nil)), row_inn (one_no _), row_inn (one_no _), chkS_ls hA (inA 16 (by decide)) ⟨inn_row (in_one (.yield _ (by decide))), row_inn (stuff_row _ _), row_inn (one_no _), row_inn (oven_row _ _), chkS_ls hB (inB 16 (by decide)) ⟨row_inn (rg_row _ _), trivial⟩⟩⟩
  have chL : ∀ v a lo hi l, chkS (fun b => b < 17) (jL b zs k f ls left N (lsA .ready .normal) (lsB .ready .normal) v a lo hi l) := fun v a lo hi l =>
    ⟨row_inn (stuff_row _ _), row_inn (one_no _), row_inn (oven_row _ _), row_inn (one_no _), row_inn (one_no _), inn_row (in_one (inn_func in_nil)), inn_row (in_one (inn_func in_nil)), row_inn (one_no _), row_inn (one_no _), chkS_ls hA (inA 17 (by decide)) ⟨inn_row (in_one (.yield _ (by decide))), row_inn (stuff_row _ _), row_inn (one_no _), row_inn (oven_row _ _), chkS_ls hB (inB 17 (by decide)) ⟨row_inn (rg_row _ _), row_inn (lr_no _), trivial⟩⟩⟩
  refine loop_rule (X := Nat × Int × Int) (fun x => [(0, .yield 14), (1, .ptr 13 0 0), (2, .ptr 11 0 0), (3, .ptr 12 0 0), (5, .int .i64 (totT ls x.1 : Int)), (6, .int .i64 (g (totT ls x.1)).t), (7, .ptr 15 0 0), (16, lsl ls), (17, .int .i64 ls.length), (18, .int .i64 x.1)])
    (fun x => jS b zs k f ls left N (lsA .ready .normal) (lsB .ready .normal) x.2.1 x.2.2 (g (totT ls x.1)).lo (g (totT ls x.1)).hi) (fun x => ls.length - x.1) (fun x => x.1 ≤ ls.length ∧ V = jG p b left N (N - totT ls x.1) (totT ls x.1 + 1) x.2.1 x.2.2) (0, 1, 0)
    ⟨Nat.zero_le _, hV⟩ ⟨rfl, rfl, rfl, rfl, rfl, (by show i6 _ = i6 _; congr 1; exact g0.2.2.symm), rfl, rfl, by show i6 _ = i6 _; rw [e1], rfl, trivial⟩ (by dsimp only; rw [totT, g0.1, g0.2.1]; rfl) (fun _ _ => rfl) (fun x hx => ?_)
  obtain ⟨i, v, a⟩ := x
  have hi := hx.1
  have hVi := hx.2
  dsimp only at hi hVi ⊢
  clear hx
  have hmono := totT_mono ls hi
  rw [hN] at hmono
  rcases Nat.lt_or_ge i ls.length with hlt | hge
  rotate_left
  · obtain rfl : i = ls.length := by omega
    rw [hN, show N - N = 0 by omega, jG] at hVi
    conv => whnf
    refine condP.dec (fun h => absurd h (by omega)) (fun _ => ?_)
    conv => whnf
    refine .done (by simp) ?_
    conv => whnf
    refine .intro .ready .normal rfl (by simp) ?_
    (repeat ((conv => whnf); refine And.intro rfl ?_)); conv => whnf
    refine .intro .ready .normal rfl (by simp) ?_
    (repeat ((conv => whnf); refine And.intro rfl ?_)); conv => whnf
    exact .intro (.tuple [.int .i64 v, .int .i64 a]) (.inl rfl) rfl (frz_eq (by rw [hVi]))
  have hleg := hO.leg i hlt
  have fl : at' ls (i : Int) = ln ls i := rfl
  have hst := hst i hlt
  have t2 : totT ls (i + 1) = totT ls i + (ln ls i).ti.toNat := rfl
  have t3 := totT_mono ls (show i + 1 ≤ ls.length by omega)
  rw [hN] at t3
  have hs0 := hok (totT ls i) (by omega)
  have hs0t := hs0.t
  generalize ln ls i = l at *
  obtain ⟨hl1', hl2', hl3', hl4'⟩ := hleg
  have hfr : ∃ fr, fr = (g (totT ls i)).t := ⟨_, rfl⟩
  obtain ⟨fr, hfr⟩ := hfr
  rw [← hfr] at hst hs0t
  conv => whnf
  refine condP.dec (fun _ => ?_) (fun h => absurd (by omega) h)
  conv => whnf
  refine onSome.intro (idx_fs rfl rfl (by omega) (by omega) (fun _ => rfl)) ?_
  conv => whnf
  refine onSome.intro (load_fs (l := ls) (enc := lr) (i := (i : Int)) (v := .agg (lr l)) rfl (by omega) (by omega) (by rw [fl]; rfl)) ?_
  conv => whnf
  refine loop_rule (X := Nat × Int × Int) (fun x => [(0, .yield 14), (1, .ptr 13 0 0), (2, .ptr 11 0 0), (3, .ptr 12 0 0), (5, .int .i64 ((totT ls i + x.1 : Nat) : Int)), (6, .int .i64 (g (totT ls i + x.1)).t), (7, .ptr 15 0 0), (9, .ptr 16 0 0), (10, .int .i64 fr), (11, .int .i64 ((x.1 : Int) + 1)), (16, lsl ls), (17, .int .i64 ls.length), (18, .int .i64 i)])
    (fun x => jL b zs k f ls left N (lsA .ready .normal) (lsB .ready .normal) x.2.1 x.2.2 (g (totT ls i + x.1)).lo (g (totT ls i + x.1)).hi l) (fun x => l.ti.toNat - x.1) (fun x => x.1 ≤ l.ti.toNat ∧ V = jG p b left N (N - (totT ls i + x.1)) (totT ls i + x.1 + 1) x.2.1 x.2.2) (0, v, a)
    ⟨Nat.zero_le _, hVi⟩ ⟨rfl, rfl, rfl, rfl, rfl, rfl, rfl, rfl, (by show i6 _ = i6 _; rw [hfr]), rfl, rfl, rfl, rfl, trivial⟩ rfl (fun _ _ => rfl) (fun x hx => ?_)
  clear hVi
  obtain ⟨j, v, a⟩ := x
  have hj := hx.1
  have hVj := hx.2
  dsimp only at hj hVj ⊢
  clear hx
  have inL : ∀ (c t q : Int), chkI (fun b => b < 17) [(0, .yield 14), (1, .ptr 13 0 0), (2, .ptr 11 0 0), (3, .ptr 12 0 0), (5, .int .i64 c), (6, .int .i64 t), (7, .ptr 15 0 0), (9, .ptr 16 0 0), (10, .int .i64 fr), (11, .int .i64 q), (16, lsl ls), (17, .int .i64 ls.length), (18, .int .i64 i)] := fun c t q =>
    ⟨.yield _ (by omega), .ptr _ _ _ (by omega), .ptr _ _ _ (by omega), .ptr _ _ _ (by omega), .int _ _, .int _ _, .ptr _ _ _ (by omega), .ptr _ _ _ (by omega), .int _ _, .int _ _, (lsl_no _).inn _, .int _ _, .int _ _, trivial⟩
  have inO : ∀ (c t q : Int), chkI (fun b => b < 16) [(0, .yield 14), (1, .ptr 13 0 0), (2, .ptr 11 0 0), (3, .ptr 12 0 0), (5, .int .i64 c), (6, .int .i64 t), (7, .ptr 15 0 0), (16, lsl ls), (17, .int .i64 ls.length), (18, .int .i64 q)] := fun c t q =>
    ⟨.yield _ (by omega), .ptr _ _ _ (by omega), .ptr _ _ _ (by omega), .ptr _ _ _ (by omega), .int _ _, .int _ _, .ptr _ _ _ (by omega), (lsl_no _).inn _, .int _ _, .int _ _, trivial⟩
  rcases Nat.lt_or_ge j l.ti.toNat with hjl | hjl
  rotate_left
  · obtain rfl : j = l.ti.toNat := by omega
    rw [← t2] at hVj
    conv => whnf
    refine condP.dec (fun h => absurd h (by omega)) (fun _ => ?_)
    conv => whnf
    refine .done (by simp) ?_
    conv => whnf
    refine .i64 (by omega) (by omega) ?_
    conv => whnf
    exact .more (i + 1, v, a) rfl ⟨by dsimp only; omega, hVj⟩ (by dsimp only; omega) ⟨rfl, rfl, rfl, rfl, (by show i6 _ = i6 _; rw [t2]), (by show i6 _ = i6 _; rw [t2]), rfl, rfl, rfl, rfl, trivial⟩ (by dsimp only; rw [t2]; rfl) (inO _ _ _) (chS _ _ _ _)
  have hst := hst j hjl
  have hs := hok (totT ls i + j) (by omega)
  have hs' := hok (totT ls i + j + 1) (by omega)
  have hh := heat_in (j := (j : Int) + 1) hl1' hl2' (by omega) (by omega) hs0t.1 hs0t.2 hl3' hl4'
  unfold heatAt at hh
  obtain ⟨g1, g2, g3⟩ := hh
  unfold tickS heatAt at hst
  rw [show (((j + 1 : Nat)) : Int) = (j : Int) + 1 by omega] at hst
  have hpm := hpg (totT ls i + j + 1)
  rw [show N - (totT ls i + j) = (N - (totT ls i + j + 1)) + 1 by omega, jG, hpm] at hVj
  dsimp only at hVj
  have l1 : totT ls i + j + 1 = N → limA b left N (totT ls i + j + 1) = min b left := fun q => if_pos q
  have l2 : totT ls i + j + 1 ≠ N → limA b left N (totT ls i + j + 1) = b := fun q => if_neg q
  have l3 : totT ls i + j + 1 = N ∨ totT ls i + j + 1 ≠ N := by omega
  have hLx : ∃ L, L = limA b left N (totT ls i + j + 1) := ⟨_, rfl⟩
  obtain ⟨L, hLx⟩ := hLx
  rw [← hLx] at l1 l2 hVj
  clear hLx hpm
  have okt := hs.t
  have okl := hs.lo
  have okh := hs.hi
  have okl' := hs'.lo
  have okh' := hs'.hi
  have kst := step_ok b zs hZ k (g (totT ls i + j)).lo (g (totT ls i + j)).hi (fr + (l.he - fr) * ((j : Int) + 1) / l.ti) (max (fr + (l.he - fr) * ((j : Int) + 1) / l.ti - (g (totT ls i + j)).t) ((g (totT ls i + j)).t - (fr + (l.he - fr) * ((j : Int) + 1) / l.ti))) (by omega) hk1 okl.1 okl.2 okh.1 okh.2 (by omega) (by omega)
  have n1 : ∃ n, n = stepLo (zoneOf zs (fr + (l.he - fr) * ((j : Int) + 1) / l.ti)) k (g (totT ls i + j)).lo (max (fr + (l.he - fr) * ((j : Int) + 1) / l.ti - (g (totT ls i + j)).t) ((g (totT ls i + j)).t - (fr + (l.he - fr) * ((j : Int) + 1) / l.ti))) := ⟨_, rfl⟩
  obtain ⟨n1, hn1⟩ := n1
  have n2 : ∃ n, n = stepHi (zoneOf zs (fr + (l.he - fr) * ((j : Int) + 1) / l.ti)) k (g (totT ls i + j)).hi (max (fr + (l.he - fr) * ((j : Int) + 1) / l.ti - (g (totT ls i + j)).t) ((g (totT ls i + j)).t - (fr + (l.he - fr) * ((j : Int) + 1) / l.ti))) := ⟨_, rfl⟩
  obtain ⟨n2, hn2⟩ := n2
  rw [← hn1, ← hn2] at kst hst
  rw [hst] at hVj okl' okh'
  dsimp only at hVj okl' okh'
  have fin1 : L < n1 → V = (2, ((totT ls i + j + 1 : Nat) : Int)) := fun q => by rw [hVj, if_pos q]
  have fin2 : ¬ L < n1 → v = 1 → L < n2 → V = jG p b left N (N - (totT ls i + (j + 1))) (totT ls i + (j + 1) + 1) 3 ((totT ls i + j + 1 : Nat) : Int) := fun q1 q2 q3 => by rw [hVj, if_neg q1, if_pos ⟨q2, q3⟩]; rfl
  have fin3 : ¬ L < n1 → ¬ (v = 1 ∧ L < n2) → V = jG p b left N (N - (totT ls i + (j + 1))) (totT ls i + (j + 1) + 1) v a := fun q1 q2 => by rw [hVj, if_neg q1, if_neg q2]; rfl
  have cast1 : ((totT ls i + j : Nat) : Int) + 1 = ((totT ls i + j + 1 : Nat) : Int) := by omega
  have chE : ∀ (E : Env), E 0 = .yield 14 → E 1 = .ptr 13 0 0 → E 2 = .ptr 11 0 0 → E 3 = .ptr 12 0 0 → E 5 = .int .i64 (((totT ls i + j : Nat) : Int) + 1) → E 6 = .int .i64 (fr + (l.he - fr) * ((j : Int) + 1) / l.ti) → E 7 = .ptr 15 0 0 → E 9 = .ptr 16 0 0 → E 10 = .int .i64 fr → E 11 = .int .i64 ((j : Int) + 1 + 1) → E 16 = lsl ls → E 17 = .int .i64 ls.length → E 18 = .int .i64 i →
      chkE E [(0, .yield 14), (1, .ptr 13 0 0), (2, .ptr 11 0 0), (3, .ptr 12 0 0), (5, .int .i64 ((totT ls i + (j + 1) : Nat) : Int)), (6, .int .i64 (g (totT ls i + (j + 1))).t), (7, .ptr 15 0 0), (9, .ptr 16 0 0), (10, .int .i64 fr), (11, .int .i64 (((j + 1 : Nat) : Int) + 1)), (16, lsl ls), (17, .int .i64 ls.length), (18, .int .i64 i)] := by
    intro E q0 q1 q2 q3 q5 q6 q7 q9 q10 q11 q16 q17 q18
    refine ⟨q0, q1, q2, q3, by rw [q5]; congr 1, ?_, q7, q9, q10, by rw [q11]; congr 1, q16, q17, q18, trivial⟩
    show E 6 = .int .i64 (g (totT ls i + j + 1)).t
    rw [q6, hst]
  have chH : ∀ (L1 : List Slot) (v' a' : Int), L1.take 17 = jL b zs k f ls left N (lsA .ready .normal) (lsB .ready .normal) v' a' n1 n2 l → L1.take 17 = jL b zs k f ls left N (lsA .ready .normal) (lsB .ready .normal) v' a' (g (totT ls i + (j + 1))).lo (g (totT ls i + (j + 1))).hi l := by
    intro L1 v' a' q
    show L1.take 17 = jL b zs k f ls left N (lsA .ready .normal) (lsB .ready .normal) v' a' (g (totT ls i + j + 1)).lo (g (totT ls i + j + 1)).hi l
    rw [q, hst]
  repeat' ((conv => whnf); first | (refine condP.dec (fun h => absurd h (by omega)) (fun _ => ?_)) | (refine condP.dec (fun _ => ?_) (fun h => absurd (by omega) h)) | (refine CallP.pure (down_ok (by omega) (by omega) (by omega) (by omega)) ?_) | (refine CallP.pure kst ?_) | (refine CallP.yield hB rfl rfl (by simp [Slot.used, hA, hB, jL]) rfl ?_) | (refine CallP.yield hA rfl rfl (by simp [Slot.used, hA, hB, jL]) rfl ?_) | (refine CallP.inl T132 (by simp [Slot.used, hA, hB, jL]) ?_) | (refine CallP.inl T133 (by simp [Slot.used, hA, hB, jL]) ?_) | (first | refine condP.dec (fun h => ?_) (fun h => ?_) | refine condP.eq (fun h => ?_) (fun h => ?_) | refine condP.ne (fun h => ?_) (fun h => ?_)) | (refine .i64 (by omega) (by omega) ?_) | (refine onSome.intro (idx_fs rfl rfl (by omega) (by omega) (fun _ => rfl)) ?_) | (refine onSome.intro (load_fs rfl (by omega) (by omega) rfl) ?_) | (refine And.intro rfl ?_))
  all_goals first | (exfalso; omega) | skip
  all_goals conv => whnf
  all_goals first
    | exact .more (j + 1, v, a) rfl ⟨by dsimp only; omega, fin3 (by omega) (by omega)⟩ (by dsimp only; omega) (chE _ rfl rfl rfl rfl rfl rfl rfl rfl rfl rfl rfl rfl rfl) (chH _ _ _ rfl) (inL _ _ _) (chL _ _ _ _ _)
    | exact .more (j + 1, 3, ((totT ls i + j + 1 : Nat) : Int)) rfl ⟨by dsimp only; omega, fin2 (by omega) (by omega) (by omega)⟩ (by dsimp only; omega) (chE _ rfl rfl rfl rfl rfl rfl rfl rfl rfl rfl rfl rfl rfl) (chH _ _ _ rfl) (inL _ _ _) (chL _ _ _ _ _)
    | (refine .done (by simp) ?_
       conv => whnf
       refine .done (by simp) ?_
       conv => whnf
       refine .intro .done .ret rfl (by simp) ?_
       (repeat ((conv => whnf); refine And.intro rfl ?_)); conv => whnf
       refine .intro .done .ret rfl (by simp) ?_
       (repeat ((conv => whnf); refine And.intro rfl ?_)); conv => whnf
       exact .intro (.tuple [.int .i64 2, .int .i64 (((totT ls i + j : Nat) : Int) + 1)]) (.inl rfl) rfl (frz_eq (by rw [fin1 (by omega)]; rfl)))

end Go.Proofs.Ytpbadgghhiommaa.I
