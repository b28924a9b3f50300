/- Strain after each leg. -/
import Derived.Test.YtpbadgghhiommaaGoven
set_option linter.unusedVariables false
set_option maxHeartbeats 16000000
set_option linter.unusedSimpArgs false
namespace Go.Proofs.Ytpbadgghhiommaa.I
open Go.Ideal

def resL (e : Int) (l : List (Int × Int)) : IV := .tuple [.fslice (l.map er), .int .i64 e]
theorem resL_no (e : Int) (l : List (Int × Int)) : Noname (resL e l) := nn_tuple (nn_cons (nn_fs (fun _ _ => nn_cons (.int _ _) (nn_cons (.int _ _) nn_none))) (nn_cons (.int _ _) nn_none))
theorem Strain_ok (b : Int) (zs : List Zone) (hz : zs.length ≤ 9000000000000000000) (k f : Int) (ls : List Leg) (hl : ls.length ≤ 9000000000000000000) (H : Heap) : Ev T (.call (.func (.func 68) [] []) [stuffI b zs, .int .i64 k, ovenI f ls] H)
    (.call (resL (wallE b zs k f ls) (if wallE b zs k f ls = 0 then strL zs k f ls ls.length else [])) H) := by
  refine run_pure T68 (resL_no _ _) (nn_cons (stuffI_no _ _) (nn_cons (nn_int _ _) (nn_cons (ovenI_no _ _) nn_none))) ?_ H
  have k1 := checkWall_ok b zs hz k f ls hl
  have kz := fun q => wall_zero (b := b) (zs := zs) (k := k) (f := f) (ls := ls) q
  have e1 : (ls.map lr).length = ls.length := List.length_map ..
  generalize wallE b zs k f ls = c at *
  conv => whnf
  refine CallP.pure k1 ?_
  conv => whnf
  refine condP.ne (fun h => ?_) (fun h => ?_)
  · rw [if_neg h]
    conv => whnf
    exact .intro (.tuple [.nilslice, .int .i64 c]) (.inl rfl) rfl (.tupleL (.cons .nil (.cons (.refl _) .nil)))
  · subst h
    rw [if_pos rfl]
    have kk := kz rfl
    obtain ⟨z1, z2, z3⟩ := kk
    have hO := oven_zero z3
    have hZ := (check_zero z1).2
    conv => whnf
    refine CallP.inl T108 rfl ?_
    conv => whnf
    refine range_rule [(9, .ptr 2 0 0)] ⟨rfl, trivial⟩ rfl T130 (fun lo hlo => ?_)
    conv => whnf
    refine CallP.inl T130 (by simp [Slot.used, hlo]) ?_
    (repeat ((conv => whnf); refine And.intro rfl ?_)); conv => whnf
    have bk : ∀ n, n ≤ ls.length → StOk (ovenS zs k f ls n) := ovenS_ok hZ (by omega) z2.2 hO
    have hOl := hO.len
    refine loop_grow (X := Nat × Int) (fun x => [(0, .yield 6), (1, .ptr 5 0 0), (2, .ptr 3 0 0), (3, .ptr 4 0 0), (5, .int .i64 x.2), (6, .int .i64 (ovenS zs k f ls x.1).t), (7, .ptr 7 0 0), (16, lsl ls), (17, .int .i64 ls.length), (18, .int .i64 x.1)])
      (fun x => match x.1 with
        | 0 => [.live 2 [[.int .i64 b, zsl zs]], .live 2 [[.int .i64 f, lsl ls]], .live 1 [[.nilslice]], .live 2 [[.int .i64 b, zsl zs]], .live 1 [[.int .i64 k]], .live 2 [[.int .i64 f, lsl ls]], lo .ready .normal, .live 2 [[.int .i64 (ovenS zs k f ls 0).lo, .int .i64 (ovenS zs k f ls 0).hi]]]
        | i + 1 => [.live 2 [[.int .i64 b, zsl zs]], .live 2 [[.int .i64 f, lsl ls]], .live 1 [[.mslice 8 0 (i + 1) (i + 1) false]], .live 2 [[.int .i64 b, zsl zs]], .live 1 [[.int .i64 k]], .live 2 [[.int .i64 f, lsl ls]], lo .ready .normal, .live 2 [[.int .i64 (ovenS zs k f ls (i + 1)).lo, .int .i64 (ovenS zs k f ls (i + 1)).hi]], .live 2 ((strL zs k f ls (i + 1)).map er)])
      (fun x => ls.length - x.1) (fun x => x.1 ≤ ls.length ∧ 0 ≤ x.2 ∧ x.2 ≤ 2000 * x.1) (0, 0)
      ⟨Nat.zero_le _, Int.le_refl _, Int.le_refl _⟩ ⟨rfl, rfl, rfl, rfl, rfl, rfl, rfl, rfl, by show i6 _ = i6 _; rw [e1], rfl, trivial⟩ rfl (fun x hx => ?_)
    obtain ⟨i, c0⟩ := x
    obtain ⟨hi, hc0, hc1⟩ := hx
    dsimp only at hi hc0 hc1 ⊢
    rcases Nat.lt_or_ge i ls.length with hlt | hge
    rotate_left
    · obtain rfl : i = ls.length := by omega
      generalize hgn : ls.length = gn at *
      have sl := strL_len (zs := zs) (k := k) (f := f) (ls := ls) gn
      cases gn with
      | zero =>
        dsimp only
        conv => whnf
        refine .done (by simp) ?_
        conv => whnf
        refine .intro .ready .normal rfl (by simp) ?_
        (repeat ((conv => whnf); refine And.intro rfl ?_)); conv => whnf
        exact .intro (.tuple [.nilslice, .int .i64 0]) (.inl rfl) rfl (.tupleL (.cons .nil (.cons (.refl _) .nil)))
      | succ i =>
        dsimp only
        conv => whnf
        refine condP.dec (fun h => absurd h (by omega)) (fun _ => ?_)
        conv => whnf
        refine .done (by simp) ?_
        conv => whnf
        refine .intro .ready .normal rfl (by simp) ?_
        (repeat ((conv => whnf); refine And.intro rfl ?_)); conv => whnf
        exact .intro (.tuple [.mslice 8 0 (i + 1) (i + 1) false, .int .i64 0]) (.inl rfl) rfl (.tupleL (.cons (.whole (sz := 2) rfl (fun _ _ h => by cases h) (by rw [List.length_map, sl]) (.refl _)) (.cons (.refl _) .nil)))
    have hleg := hO.leg i hlt
    have fl : at' ls (i : Int) = ln ls i := rfl
    have hs0 := bk i (by omega)
    have hnx : ovenS zs k f ls (i + 1) = legS zs k (ovenS zs k f ls i).t (ln ls i).he (ln ls i).ti (ln ls i).ti.toNat (ovenS zs k f ls i) := rfl
    have hsl : strL zs k f ls (i + 1) = strL zs k f ls i ++ [((ovenS zs k f ls (i + 1)).lo, (ovenS zs k f ls (i + 1)).hi)] := rfl
    have sl := strL_len (zs := zs) (k := k) (f := f) (ls := ls) i
    rw [← fl] at hleg hnx
    have hsx : ∃ s, s = ovenS zs k f ls i := ⟨_, rfl⟩
    obtain ⟨s, hsx⟩ := hsx
    have hsy : ∃ s, s = ovenS zs k f ls (i + 1) := ⟨_, rfl⟩
    obtain ⟨sn, hsy⟩ := hsy
    have hll : ∃ l, l = at' ls (i : Int) := ⟨_, rfl⟩
    obtain ⟨l, hll⟩ := hll
    rw [← hsx] at hs0 hnx
    rw [← hsy] at hnx hsl
    rw [← hll] at hleg hnx
    obtain ⟨hl1, hl2, hl3, hl4⟩ := hleg
    have lg : ∀ j : Nat, (j : Int) ≤ l.ti → StOk (legS zs k s.t l.he l.ti j s) := fun j hj => leg_ok hZ (by omega) z2.2 hl1 hl2 hs0.t.1 hs0.t.2 hl3 hl4 hs0 j hj
    rcases i with _ | i
    · dsimp only
      rw [← hsx]
      conv => whnf
      refine condP.dec (fun _ => ?_) (fun h => absurd (by omega) h)
      conv => whnf
      refine onSome.intro (idx_fs rfl rfl (by omega) (by omega) (fun _ => rfl)) ?_
      conv => whnf
      refine onSome.intro (load_fs (i := 0) (v := .agg (lr l)) rfl (by omega) (by omega) (by rw [hll]; rfl)) ?_
      conv => whnf
      refine loop_grow (X := Nat × Int × St × Bool) (fun x => match x.2.2.2 with
          | false => [(0, .yield 6), (1, .ptr 5 0 0), (2, .ptr 3 0 0), (3, .ptr 4 0 0), (5, .int .i64 x.2.1), (6, .int .i64 x.2.2.1.t), (7, .ptr 7 0 0), (9, .ptr 8 0 0), (10, .int .i64 s.t), (11, .int .i64 ((x.1 : Int) + 1)), (16, lsl ls), (17, .int .i64 ls.length), (18, .int .i64 0)]
          | true => [(0, .yield 6), (1, .ptr 5 0 0), (2, .ptr 3 0 0), (3, .ptr 4 0 0), (5, .int .i64 x.2.1), (6, .int .i64 x.2.2.1.t), (7, .ptr 7 0 0), (9, .ptr 8 0 0), (10, .int .i64 s.t), (11, .int .i64 ((x.1 : Int) + 1)), (16, lsl ls), (17, .int .i64 ls.length), (18, .int .i64 0)])
        (fun x => match x.2.2.2 with
          | false => [.live 2 [[.int .i64 b, zsl zs]], .live 2 [[.int .i64 f, lsl ls]], .live 1 [[.nilslice]], .live 2 [[.int .i64 b, zsl zs]], .live 1 [[.int .i64 k]], .live 2 [[.int .i64 f, lsl ls]], lo .ready .normal, .live 2 [[.int .i64 x.2.2.1.lo, .int .i64 x.2.2.1.hi]], .live 2 [lr l]]
          | true => [.live 2 [[.int .i64 b, zsl zs]], .live 2 [[.int .i64 f, lsl ls]], .live 1 [[.mslice 9 0 1 1 false]], .live 2 [[.int .i64 b, zsl zs]], .live 1 [[.int .i64 k]], .live 2 [[.int .i64 f, lsl ls]], lo .ready .normal, .live 2 [[.int .i64 x.2.2.1.lo, .int .i64 x.2.2.1.hi]], .live 2 [lr l], .live 2 ((strL zs k f ls (0 + 1)).map er)])
        (fun x => l.ti.toNat - x.1) (fun x => x.1 ≤ l.ti.toNat ∧ (0 ≤ x.2.1 ∧ x.2.1 ≤ 2000 * 0 + x.1) ∧ x.2.2.1 = legS zs k s.t l.he l.ti x.1 s ∧ (x.2.2.2 = decide (x.1 = l.ti.toNat))) (0, c0, s, false)
        ⟨Nat.zero_le _, ⟨hc0, by dsimp only; omega⟩, rfl, by dsimp only; rw [decide_eq_false (by omega)]⟩ ⟨rfl, rfl, rfl, rfl, rfl, rfl, rfl, rfl, rfl, rfl, rfl, rfl, rfl, trivial⟩ rfl (fun x hx => ?_)
      obtain ⟨j, c, s', fin⟩ := x
      obtain ⟨hj, hc, hs', hfin⟩ := hx
      dsimp only at hj hc hs' hfin ⊢
      have ok := lg j (by omega)
      rw [← hs'] at ok
      have okt := ok.t
      have okl := ok.lo
      have okh := ok.hi
      rcases Nat.lt_or_ge j l.ti.toNat with hjl | hjl
      · rw [decide_eq_false (by omega)] at hfin
        subst hfin
        dsimp only
        have hh := heat_in (j := (j : Int) + 1) hl1 hl2 (by omega) (by omega) hs0.t.1 hs0.t.2 hl3 hl4
        unfold heatAt at hh
        obtain ⟨g1, g2, g3⟩ := hh
        have kst := fun t y h1 h2 => step_ok b zs hZ k s'.lo s'.hi t y (by omega) z2.2 okl.1 okl.2 okh.1 okh.2 h1 h2
        have kst := kst (s.t + (l.he - s.t) * ((j : Int) + 1) / l.ti) (max (s.t + (l.he - s.t) * ((j : Int) + 1) / l.ti - s'.t) (s'.t - (s.t + (l.he - s.t) * ((j : Int) + 1) / l.ti))) (by omega) (by omega)
        have hnext : legS zs k s.t l.he l.ti (j + 1) s = ⟨s.t + (l.he - s.t) * ((j : Int) + 1) / l.ti, stepLo (zoneOf zs (s.t + (l.he - s.t) * ((j : Int) + 1) / l.ti)) k s'.lo (max (s.t + (l.he - s.t) * ((j : Int) + 1) / l.ti - s'.t) (s'.t - (s.t + (l.he - s.t) * ((j : Int) + 1) / l.ti))),
            stepHi (zoneOf zs (s.t + (l.he - s.t) * ((j : Int) + 1) / l.ti)) k s'.hi (max (s.t + (l.he - s.t) * ((j : Int) + 1) / l.ti - s'.t) (s'.t - (s.t + (l.he - s.t) * ((j : Int) + 1) / l.ti)))⟩ := by
          rw [hs']; rfl
        have n1 : ∃ n, n = stepLo (zoneOf zs (s.t + (l.he - s.t) * ((j : Int) + 1) / l.ti)) k s'.lo (max (s.t + (l.he - s.t) * ((j : Int) + 1) / l.ti - s'.t) (s'.t - (s.t + (l.he - s.t) * ((j : Int) + 1) / l.ti))) := ⟨_, rfl⟩
        obtain ⟨n1, hn1⟩ := n1
        have n2 : ∃ n, n = stepHi (zoneOf zs (s.t + (l.he - s.t) * ((j : Int) + 1) / l.ti)) k s'.hi (max (s.t + (l.he - s.t) * ((j : Int) + 1) / l.ti - s'.t) (s'.t - (s.t + (l.he - s.t) * ((j : Int) + 1) / l.ti))) := ⟨_, rfl⟩
        obtain ⟨n2, hn2⟩ := n2
        rw [← hn1, ← hn2] at kst hnext
        repeat' ((conv => whnf); first | (refine CallP.pure (down_ok (by omega) (by omega) (by omega) (by omega)) ?_) | (refine CallP.pure kst ?_) | (refine CallP.yield hlo rfl rfl (by simp [Slot.used, hlo]) rfl ?_) | (first | refine condP.dec (fun h => ?_) (fun h => ?_) | refine condP.eq (fun h => ?_) (fun h => ?_) | refine condP.ne (fun h => ?_) (fun h => ?_)) | (refine .i64 (by omega) (by omega) ?_) | (refine onSome.intro (idx_fs rfl rfl (by omega) (by omega) (fun _ => rfl)) ?_) | (refine onSome.intro (load_fs rfl (by omega) (by omega) rfl) ?_) | (refine And.intro rfl ?_))
        all_goals first | (exfalso; omega) | skip
        all_goals conv => whnf
        · have hend : sn = ⟨s.t + (l.he - s.t) * ((j : Int) + 1) / l.ti, n1, n2⟩ := by rw [hnx, show l.ti.toNat = j + 1 by omega]; exact hnext
          rw [hend] at hsl
          refine .nil (.inl rfl) rfl (by simp) (fun e he => by simp at he; subst he; rfl) (fun e he c hc => by simp at he; subst he; simp at hc; rcases hc with rfl | rfl <;> rfl) (n' := 1) rfl (by omega) ?_
          (repeat ((conv => whnf); refine And.intro rfl ?_)); conv => whnf
          refine .i64 (by omega) (by omega) ?_
          conv => whnf
          exact .more (j + 1, c + 1, ⟨s.t + (l.he - s.t) * ((j : Int) + 1) / l.ti, n1, n2⟩, true) [0, 1, 2, 3, 4, 5, 6, 7, 8, 11] rfl ⟨by omega, ⟨by dsimp only; omega, by dsimp only; omega⟩, hnext.symm, (decide_eq_true (by dsimp only; omega)).symm⟩ (by dsimp only; omega) rfl
            ⟨.yd rfl, .pt rfl, .pt rfl, .pt rfl, .same (.int _ _), .same (.int _ _), .pt rfl, .pt rfl, .same (.int _ _), .same (.int _ _), .same (lsl_no _), .same (.int _ _), .same (.int _ _), trivial⟩
            ⟨.same (noS_row (stuff_row _ _)), .same (noS_row (oven_row _ _)), .row (.cons (.ms rfl) .nil), .same (noS_row (stuff_row _ _)), .same (noS_row (nn_cons (.int _ _) nn_none)), .same (noS_row (oven_row _ _)), .ls hlo ⟨.ptr _ _ _ rfl, trivial⟩, .same (noS_row (rg_row _ _)), .same (noS_row (lr_no _)),
              (by show MvS _ _ _ _ (.live 2 ((strL zs k f ls (0 + 1)).map er)); rw [hsl]; exact .same (s := .live 2 [[.int .i64 n1, .int .i64 n2]]) (noS_row (rg_row _ _))), trivial⟩
        · exact .more (j + 1, c + 1, ⟨s.t + (l.he - s.t) * ((j : Int) + 1) / l.ti, n1, n2⟩, false) [0, 1, 2, 3, 4, 5, 6, 7, 8] rfl ⟨by omega, ⟨by dsimp only; omega, by dsimp only; omega⟩, hnext.symm, (decide_eq_false (by dsimp only; omega)).symm⟩ (by dsimp only; omega) rfl
            ⟨.yd rfl, .pt rfl, .pt rfl, .pt rfl, .same (.int _ _), .same (.int _ _), .pt rfl, .pt rfl, .same (.int _ _), .same (.int _ _), .same (lsl_no _), .same (.int _ _), .same (.int _ _), trivial⟩
            ⟨.same (noS_row (stuff_row _ _)), .same (noS_row (oven_row _ _)), .same (noS_row (nn_cons .nilslice nn_none)), .same (noS_row (stuff_row _ _)), .same (noS_row (nn_cons (.int _ _) nn_none)), .same (noS_row (oven_row _ _)), .ls hlo ⟨.ptr _ _ _ rfl, trivial⟩, .same (noS_row (rg_row _ _)), .same (noS_row (lr_no _)), trivial⟩
      · obtain rfl : j = l.ti.toNat := by omega
        rw [decide_eq_true rfl] at hfin
        subst hfin
        dsimp only
        have hq : s' = ovenS zs k f ls (0 + 1) := by rw [hs', ← hnx, hsy]
        conv => whnf
        refine condP.dec (fun h => absurd h (by omega)) (fun _ => ?_)
        conv => whnf
        refine .done (by simp) ?_
        conv => whnf
        refine .i64 (by omega) (by omega) ?_
        conv => whnf
        subst hq
        exact .more (0 + 1, c) [0, 1, 2, 3, 4, 5, 6, 7, 9] rfl ⟨by dsimp only; omega, by dsimp only; omega, by dsimp only; omega⟩ (by dsimp only; omega) rfl
          ⟨.yd rfl, .pt rfl, .pt rfl, .pt rfl, .same (.int _ _), .same (.int _ _), .pt rfl, .same (lsl_no _), .same (.int _ _), .same (.int _ _), trivial⟩
          ⟨.same (noS_row (stuff_row _ _)), .same (noS_row (oven_row _ _)), .row (.cons (.ms rfl) .nil), .same (noS_row (stuff_row _ _)), .same (noS_row (nn_cons (.int _ _) nn_none)), .same (noS_row (oven_row _ _)), .ls hlo ⟨.ptr _ _ _ rfl, trivial⟩, .same (noS_row (rg_row _ _)), .same (noS_map (fun a => nn_cons (.int _ _) (nn_cons (.int _ _) nn_none))), trivial⟩
    · dsimp only
      rw [← hsx]
      conv => whnf
      refine condP.dec (fun _ => ?_) (fun h => absurd (by omega) h)
      conv => whnf
      refine onSome.intro (idx_fs rfl rfl (by omega) (by omega) (fun _ => rfl)) ?_
      conv => whnf
      refine onSome.intro (load_fs (i := ((i + 1 : Nat) : Int)) (v := .agg (lr l)) rfl (by omega) (by omega) (by rw [hll]; rfl)) ?_
      conv => whnf
      refine loop_grow (X := Nat × Int × St × Bool) (fun x => match x.2.2.2 with
          | false => [(0, .yield 6), (1, .ptr 5 0 0), (2, .ptr 3 0 0), (3, .ptr 4 0 0), (5, .int .i64 x.2.1), (6, .int .i64 x.2.2.1.t), (7, .ptr 7 0 0), (9, .ptr 9 0 0), (10, .int .i64 s.t), (11, .int .i64 ((x.1 : Int) + 1)), (16, lsl ls), (17, .int .i64 ls.length), (18, .int .i64 ((i + 1 : Nat) : Int))]
          | true => [(0, .yield 6), (1, .ptr 5 0 0), (2, .ptr 3 0 0), (3, .ptr 4 0 0), (5, .int .i64 x.2.1), (6, .int .i64 x.2.2.1.t), (7, .ptr 7 0 0), (9, .ptr 8 0 0), (10, .int .i64 s.t), (11, .int .i64 ((x.1 : Int) + 1)), (16, lsl ls), (17, .int .i64 ls.length), (18, .int .i64 ((i + 1 : Nat) : Int))])
        (fun x => match x.2.2.2 with
          | false => [.live 2 [[.int .i64 b, zsl zs]], .live 2 [[.int .i64 f, lsl ls]], .live 1 [[.mslice 8 0 (i + 1) (i + 1) false]], .live 2 [[.int .i64 b, zsl zs]], .live 1 [[.int .i64 k]], .live 2 [[.int .i64 f, lsl ls]], lo .ready .normal, .live 2 [[.int .i64 x.2.2.1.lo, .int .i64 x.2.2.1.hi]], .live 2 ((strL zs k f ls (i + 1)).map er), .live 2 [lr l]]
          | true => [.live 2 [[.int .i64 b, zsl zs]], .live 2 [[.int .i64 f, lsl ls]], .live 1 [[.mslice 9 0 (i + 1 + 1) (i + 1 + 1) false]], .live 2 [[.int .i64 b, zsl zs]], .live 1 [[.int .i64 k]], .live 2 [[.int .i64 f, lsl ls]], lo .ready .normal, .live 2 [[.int .i64 x.2.2.1.lo, .int .i64 x.2.2.1.hi]], .live 2 [lr l], .live 2 ((strL zs k f ls ((i + 1) + 1)).map er)])
        (fun x => l.ti.toNat - x.1) (fun x => x.1 ≤ l.ti.toNat ∧ (0 ≤ x.2.1 ∧ x.2.1 ≤ 2000 * ((i + 1 : Nat) : Int) + x.1) ∧ x.2.2.1 = legS zs k s.t l.he l.ti x.1 s ∧ (x.2.2.2 = decide (x.1 = l.ti.toNat))) (0, c0, s, false)
        ⟨Nat.zero_le _, ⟨hc0, by dsimp only; omega⟩, rfl, by dsimp only; rw [decide_eq_false (by omega)]⟩ ⟨rfl, rfl, rfl, rfl, rfl, rfl, rfl, rfl, rfl, rfl, rfl, rfl, rfl, trivial⟩ rfl (fun x hx => ?_)
      obtain ⟨j, c, s', fin⟩ := x
      obtain ⟨hj, hc, hs', hfin⟩ := hx
      dsimp only at hj hc hs' hfin ⊢
      have ok := lg j (by omega)
      rw [← hs'] at ok
      have okt := ok.t
      have okl := ok.lo
      have okh := ok.hi
      rcases Nat.lt_or_ge j l.ti.toNat with hjl | hjl
      · rw [decide_eq_false (by omega)] at hfin
        subst hfin
        dsimp only
        have hh := heat_in (j := (j : Int) + 1) hl1 hl2 (by omega) (by omega) hs0.t.1 hs0.t.2 hl3 hl4
        unfold heatAt at hh
        obtain ⟨g1, g2, g3⟩ := hh
        have kst := fun t y h1 h2 => step_ok b zs hZ k s'.lo s'.hi t y (by omega) z2.2 okl.1 okl.2 okh.1 okh.2 h1 h2
        have kst := kst (s.t + (l.he - s.t) * ((j : Int) + 1) / l.ti) (max (s.t + (l.he - s.t) * ((j : Int) + 1) / l.ti - s'.t) (s'.t - (s.t + (l.he - s.t) * ((j : Int) + 1) / l.ti))) (by omega) (by omega)
        have hnext : legS zs k s.t l.he l.ti (j + 1) s = ⟨s.t + (l.he - s.t) * ((j : Int) + 1) / l.ti, stepLo (zoneOf zs (s.t + (l.he - s.t) * ((j : Int) + 1) / l.ti)) k s'.lo (max (s.t + (l.he - s.t) * ((j : Int) + 1) / l.ti - s'.t) (s'.t - (s.t + (l.he - s.t) * ((j : Int) + 1) / l.ti))),
            stepHi (zoneOf zs (s.t + (l.he - s.t) * ((j : Int) + 1) / l.ti)) k s'.hi (max (s.t + (l.he - s.t) * ((j : Int) + 1) / l.ti - s'.t) (s'.t - (s.t + (l.he - s.t) * ((j : Int) + 1) / l.ti)))⟩ := by
          rw [hs']; rfl
        have n1 : ∃ n, n = stepLo (zoneOf zs (s.t + (l.he - s.t) * ((j : Int) + 1) / l.ti)) k s'.lo (max (s.t + (l.he - s.t) * ((j : Int) + 1) / l.ti - s'.t) (s'.t - (s.t + (l.he - s.t) * ((j : Int) + 1) / l.ti))) := ⟨_, rfl⟩
        obtain ⟨n1, hn1⟩ := n1
        have n2 : ∃ n, n = stepHi (zoneOf zs (s.t + (l.he - s.t) * ((j : Int) + 1) / l.ti)) k s'.hi (max (s.t + (l.he - s.t) * ((j : Int) + 1) / l.ti - s'.t) (s'.t - (s.t + (l.he - s.t) * ((j : Int) + 1) / l.ti))) := ⟨_, rfl⟩
        obtain ⟨n2, hn2⟩ := n2
        rw [← hn1, ← hn2] at kst hnext
        repeat' ((conv => whnf); first | (refine CallP.pure (down_ok (by omega) (by omega) (by omega) (by omega)) ?_) | (refine CallP.pure kst ?_) | (refine CallP.yield hlo rfl rfl (by simp [Slot.used, hlo]) rfl ?_) | (first | refine condP.dec (fun h => ?_) (fun h => ?_) | refine condP.eq (fun h => ?_) (fun h => ?_) | refine condP.ne (fun h => ?_) (fun h => ?_)) | (refine .i64 (by omega) (by omega) ?_) | (refine onSome.intro (idx_fs rfl rfl (by omega) (by omega) (fun _ => rfl)) ?_) | (refine onSome.intro (load_fs rfl (by omega) (by omega) rfl) ?_) | (refine And.intro rfl ?_))
        all_goals first | (exfalso; omega) | skip
        all_goals conv => whnf
        · have hend : sn = ⟨s.t + (l.he - s.t) * ((j : Int) + 1) / l.ti, n1, n2⟩ := by rw [hnx, show l.ti.toNat = j + 1 by omega]; exact hnext
          rw [hend] at hsl
          refine .grow rfl rfl (by rw [List.length_map, sl]) (es' := [[.int .i64 n1, .int .i64 n2]]) rfl (by simp) (fun e he => by simp at he; subst he; rfl) (fun e he c hc => by simp at he; subst he; simp at hc; rcases hc with rfl | rfl <;> rfl) (r := (strL zs k f ls (i + 1)).map er ++ [[.int .i64 n1, .int .i64 n2]]) rfl (n' := i + 1 + 1) (by simp [sl]) (by omega) ?_
          (repeat ((conv => whnf); refine And.intro rfl ?_)); conv => whnf
          refine .i64 (by omega) (by omega) ?_
          conv => whnf
          exact .more (j + 1, c + 1, ⟨s.t + (l.he - s.t) * ((j : Int) + 1) / l.ti, n1, n2⟩, true) [0, 1, 2, 3, 4, 5, 6, 7, 9, 12] rfl ⟨by omega, ⟨by dsimp only; omega, by dsimp only; omega⟩, hnext.symm, (decide_eq_true (by dsimp only; omega)).symm⟩ (by dsimp only; omega) rfl
            ⟨.yd rfl, .pt rfl, .pt rfl, .pt rfl, .same (.int _ _), .same (.int _ _), .pt rfl, .pt rfl, .same (.int _ _), .same (.int _ _), .same (lsl_no _), .same (.int _ _), .same (.int _ _), trivial⟩
            ⟨.same (noS_row (stuff_row _ _)), .same (noS_row (oven_row _ _)), .row (.cons (.ms rfl) .nil), .same (noS_row (stuff_row _ _)), .same (noS_row (nn_cons (.int _ _) nn_none)), .same (noS_row (oven_row _ _)), .ls hlo ⟨.ptr _ _ _ rfl, trivial⟩, .same (noS_row (rg_row _ _)), .same (noS_row (lr_no _)),
              (by show MvS _ _ _ _ (.live 2 ((strL zs k f ls ((i + 1) + 1)).map er)); rw [hsl]; rw [List.map_append]; exact .same (s := .live 2 ((strL zs k f ls (i + 1)).map er ++ [(n1, n2)].map er)) (by rw [← List.map_append]; exact noS_map (enc := er) (fun a => nn_cons (.int _ _) (nn_cons (.int _ _) nn_none)))), trivial⟩
        · exact .more (j + 1, c + 1, ⟨s.t + (l.he - s.t) * ((j : Int) + 1) / l.ti, n1, n2⟩, false) [0, 1, 2, 3, 4, 5, 6, 7, 8, 9] rfl ⟨by omega, ⟨by dsimp only; omega, by dsimp only; omega⟩, hnext.symm, (decide_eq_false (by dsimp only; omega)).symm⟩ (by dsimp only; omega) rfl
            ⟨.yd rfl, .pt rfl, .pt rfl, .pt rfl, .same (.int _ _), .same (.int _ _), .pt rfl, .pt rfl, .same (.int _ _), .same (.int _ _), .same (lsl_no _), .same (.int _ _), .same (.int _ _), trivial⟩
            ⟨.same (noS_row (stuff_row _ _)), .same (noS_row (oven_row _ _)), .row (.cons (.ms rfl) .nil), .same (noS_row (stuff_row _ _)), .same (noS_row (nn_cons (.int _ _) nn_none)), .same (noS_row (oven_row _ _)), .ls hlo ⟨.ptr _ _ _ rfl, trivial⟩, .same (noS_row (rg_row _ _)), .same (noS_map (fun a => nn_cons (.int _ _) (nn_cons (.int _ _) nn_none))), .same (noS_row (lr_no _)), trivial⟩
      · obtain rfl : j = l.ti.toNat := by omega
        rw [decide_eq_true rfl] at hfin
        subst hfin
        dsimp only
        have hq : s' = ovenS zs k f ls ((i + 1) + 1) := by rw [hs', ← hnx, hsy]
        conv => whnf
        refine condP.dec (fun h => absurd h (by omega)) (fun _ => ?_)
        conv => whnf
        refine .done (by simp) ?_
        conv => whnf
        refine .i64 (by omega) (by omega) ?_
        conv => whnf
        subst hq
        exact .more ((i + 1) + 1, c) [0, 1, 2, 3, 4, 5, 6, 7, 9] rfl ⟨by dsimp only; omega, by dsimp only; omega, by dsimp only; omega⟩ (by dsimp only; omega) rfl
          ⟨.yd rfl, .pt rfl, .pt rfl, .pt rfl, .same (.int _ _), .same (.int _ _), .pt rfl, .same (lsl_no _), .same (.int _ _), .same (.int _ _), trivial⟩
          ⟨.same (noS_row (stuff_row _ _)), .same (noS_row (oven_row _ _)), .row (.cons (.ms rfl) .nil), .same (noS_row (stuff_row _ _)), .same (noS_row (nn_cons (.int _ _) nn_none)), .same (noS_row (oven_row _ _)), .ls hlo ⟨.ptr _ _ _ rfl, trivial⟩, .same (noS_row (rg_row _ _)), .same (noS_map (fun a => nn_cons (.int _ _) (nn_cons (.int _ _) nn_none))), trivial⟩

end Go.Proofs.Ytpbadgghhiommaa.I
