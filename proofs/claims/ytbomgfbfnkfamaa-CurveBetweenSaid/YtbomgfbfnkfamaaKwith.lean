/- A family within another. -/
import Derived.Test.YtbomgfbfnkfamaaKfamof
import Derived.Test.YtbomgfbfnkfamaaMwith
import Derived.Test.YtbomgfbfnkfamaaKsame
set_option linter.unusedVariables false
set_option maxHeartbeats 16000000
set_option linter.unusedSimpArgs false
namespace Go.Proofs.Ytbomgfbfnkfamaa.I
open Go.Ideal

theorem SF_no (g p : List Int) (lo hi : List (List Int)) : NonameS (SF g p lo hi) := noS_row (nn_cons (sl_no _) (nn_cons (sl_no _) (nn_cons (sll_no _) (nn_cons (sll_no _) nn_none))))
theorem WithinFamilyT_ok {g p : List Int} {wl wh : List (List Int)} (F : FamOk g p wl wh) (s : Int) : ∃ (lo hi : List (List Int)) (s' : Int), FamOk g p lo hi ∧ (∀ i k, i < g.length → k < p.length → vc wl i k ≤ vc lo i k ∧ vc hi i k ≤ vc wh i k) ∧
    ∀ (H : Heap) (n : Nat), H n = S1 s → Ev T (.call (.func (.func 43) [] []) [.ptr n 0 0, famI g p wl wh, .bool true] H) (.call (famI g p lo hi) (H.set n (S1 s'))) := by
  have n0 := F.g0
  have n1 := F.g1
  have m0 := F.p0
  have m1 := F.p1
  have wl1 := F.tl.len
  have wh1 := F.th.len
  have len1 : (g.map ei).length = g.length := List.length_map ..
  have len2 : (p.map ei).length = p.length := List.length_map ..
  have o1 := OwnF_ok g (by omega)
  have o2 := OwnF_ok p (by omega)
  have key := run_one_some T43 (i := 0) (off := 0) (args := [famI g p wl wh, .bool true]) (s := S1 s) (P := fun v z => ∃ (lo hi : List (List Int)) (s' : Int), v = famI g p lo hi ∧ (FamOk g p lo hi ∧ ∀ i k, i < g.length → k < p.length → vc wl i k ≤ vc lo i k ∧ vc hi i k ≤ vc wh i k) ∧ z = S1 s') (nn_cons (famI_no ..) (nn_cons (.bool _) nn_none)) (S1_no _) (by
    conv => whnf
    refine CallP.pure o1 ?_
    (repeat ((conv => whnf); refine And.intro rfl ?_)); conv => whnf
    refine CallP.pure o2 ?_
    (repeat ((conv => whnf); refine And.intro rfl ?_)); conv => whnf
    refine loop_grow (X := List (List Int) × List (List Int) × Int) (fun x => [(0, .ptr 0 0 0), (2, .bool true), (4, .ptr 1 0 0), (6, .ptr 2 0 0), (7, .ptr 3 0 0), (8, .int .i64 x.1.length)])
      (fun x => [S1 x.2.2, SF g p wl wh, SR, SM g p (omsl 4 x.1) (omsl 5 x.2.1)] ++ own2 el x.1 x.2.1)
      (fun x => g.length - x.1.length) (fun x => x.1.length ≤ g.length ∧ TabsIn wl wh p.length x.1 x.2.1 ∧ x.2.1 = x.1) ([], [], s)
      ⟨Nat.zero_le _, .nil _ _ _, rfl⟩ ⟨rfl, rfl, rfl, rfl, rfl, rfl, trivial⟩ rfl (fun x hx => ?_)
    obtain ⟨tl, th, s⟩ := x
    obtain ⟨hi, ht, eT⟩ := hx
    dsimp only at hi ht eT ⊢
    have htl := ht.len
    rcases Nat.lt_or_ge tl.length g.length with hlt | hge
    · by_cases htn : tl = []
      · obtain rfl := htn
        obtain rfl : th = [] := List.length_eq_zero_iff.mp htl
        simp only [List.length_nil] at *
        conv => whnf
        refine condP.dec (fun _ => ?_) (fun h => absurd (by omega) h)
        conv => whnf
        refine loop_grow (X := List Int × List Int × Int) (fun x => [(0, .ptr 0 0 0), (2, .bool true), (4, .ptr 1 0 0), (6, .ptr 2 0 0), (7, .ptr 3 0 0), (8, .int .i64 0), (9, omsl 4 x.1), (10, omsl 5 x.2.1), (11, .int .i64 x.1.length)])
          (fun x => [S1 x.2.2, SF g p wl wh, SR, SM g p .nilslice .nilslice] ++ own2 ei x.1 x.2.1)
          (fun x => p.length - x.1.length) (fun x => x.1.length ≤ p.length ∧ RowIn wl wh 0 [] [] x.1 x.2.1 ∧ x.2.1 = x.1) ([], [], s)
          ⟨Nat.zero_le _, .nil _ _ _ _ _, rfl⟩ ⟨rfl, rfl, rfl, rfl, rfl, rfl, rfl, rfl, rfl, trivial⟩ rfl (fun x hx => ?_)
        obtain ⟨rl, rh, s⟩ := x
        obtain ⟨hk, hr, eR⟩ := hx
        dsimp only at hk hr eR ⊢
        have hrl := hr.len
        rcases Nat.lt_or_ge rl.length p.length with hkt | hkg
        · have hW := F.cell 0 rl.length (by omega) hkt
          have lWl : (at' wl (0 : Int)).length = p.length := row_len F.tl (by omega) (by omega)
          have lWh : (at' wh (0 : Int)).length = p.length := row_len F.th (by omega) (by omega)
          by_cases hrn : rl = []
          · obtain rfl := hrn
            obtain rfl : rh = [] := List.length_eq_zero_iff.mp hrl
            simp only [List.length_nil] at *
            have fWl : at' (at' wl (0 : Int)) (0 : Int) = vc wl 0 0 := rfl
            have fWh : at' (at' wh (0 : Int)) (0 : Int) = vc wh 0 0 := rfl
            have qa := Between_any s (at' (at' wl (0 : Int)) (0 : Int)) (at' (at' wh (0 : Int)) (0 : Int)) (by omega) (by omega) (by omega)
            obtain ⟨u1, s1, a1, a2, k1⟩ := qa
            conv => whnf
            refine condP.dec (fun _ => ?_) (fun h => absurd (by omega) h)
            repeat' ((conv => whnf); first | (refine condP.dec (fun _ => ?_) (fun h => absurd (by omega) h)) | (refine .i64 (by omega) (by omega) ?_) | (refine onSome.intro (idx_fs rfl rfl (by omega) (by omega) (fun _ => rfl)) ?_) | (refine onSome.intro (load_fs rfl (by omega) (by omega) rfl) ?_) | (refine onSome.intro (idx_ms rfl rfl rfl (by omega) (by omega)) ?_) | (refine onSome.intro (load_ms rfl rfl (by omega) (by omega) rfl) ?_) | (refine And.intro rfl ?_) | (refine And.intro (load_fs rfl (by omega) (by omega) rfl) ?_) | (refine And.intro (idx_fs rfl rfl (by omega) (by omega) (fun _ => rfl)) ?_) | (refine And.intro (load_ms rfl rfl (by omega) (by omega) rfl) ?_) | (refine And.intro (idx_ms rfl rfl rfl (by omega) (by omega)) ?_))
            conv => whnf
            refine CallP.one (fun H hb => k1 H _ hb) rfl ?_
            repeat' ((conv => whnf); first | (refine condP.dec (fun _ => ?_) (fun h => absurd (by omega) h)) | (refine .i64 (by omega) (by omega) ?_) | (refine onSome.intro (idx_fs rfl rfl (by omega) (by omega) (fun _ => rfl)) ?_) | (refine onSome.intro (load_fs rfl (by omega) (by omega) rfl) ?_) | (refine onSome.intro (idx_ms rfl rfl rfl (by omega) (by omega)) ?_) | (refine onSome.intro (load_ms rfl rfl (by omega) (by omega) rfl) ?_) | (refine And.intro rfl ?_) | (refine And.intro (load_fs rfl (by omega) (by omega) rfl) ?_) | (refine And.intro (idx_fs rfl rfl (by omega) (by omega) (fun _ => rfl)) ?_) | (refine And.intro (load_ms rfl rfl (by omega) (by omega) rfl) ?_) | (refine And.intro (idx_ms rfl rfl rfl (by omega) (by omega)) ?_))
            conv => whnf
            refine .nil (.inl rfl) rfl (by simp) (fun e he => by simp at he; subst he; rfl) (fun e he c hc => by simp at he; subst he; simp at hc; subst hc; rfl) (n' := 1) rfl (by omega) ?_
            repeat' ((conv => whnf); first | (refine condP.dec (fun _ => ?_) (fun h => absurd (by omega) h)) | (refine .i64 (by omega) (by omega) ?_) | (refine onSome.intro (idx_fs rfl rfl (by omega) (by omega) (fun _ => rfl)) ?_) | (refine onSome.intro (load_fs rfl (by omega) (by omega) rfl) ?_) | (refine onSome.intro (idx_ms rfl rfl rfl (by omega) (by omega)) ?_) | (refine onSome.intro (load_ms rfl rfl (by omega) (by omega) rfl) ?_) | (refine And.intro rfl ?_) | (refine And.intro (load_fs rfl (by omega) (by omega) rfl) ?_) | (refine And.intro (idx_fs rfl rfl (by omega) (by omega) (fun _ => rfl)) ?_) | (refine And.intro (load_ms rfl rfl (by omega) (by omega) rfl) ?_) | (refine And.intro (idx_ms rfl rfl rfl (by omega) (by omega)) ?_))
            conv => whnf
            refine .nil (.inl rfl) rfl (by simp) (fun e he => by simp at he; subst he; rfl) (fun e he c hc => by simp at he; subst he; simp at hc; subst hc; rfl) (n' := 1) rfl (by omega) ?_
            repeat' ((conv => whnf); first | (refine condP.dec (fun _ => ?_) (fun h => absurd (by omega) h)) | (refine .i64 (by omega) (by omega) ?_) | (refine onSome.intro (idx_fs rfl rfl (by omega) (by omega) (fun _ => rfl)) ?_) | (refine onSome.intro (load_fs rfl (by omega) (by omega) rfl) ?_) | (refine onSome.intro (idx_ms rfl rfl rfl (by omega) (by omega)) ?_) | (refine onSome.intro (load_ms rfl rfl (by omega) (by omega) rfl) ?_) | (refine And.intro rfl ?_) | (refine And.intro (load_fs rfl (by omega) (by omega) rfl) ?_) | (refine And.intro (idx_fs rfl rfl (by omega) (by omega) (fun _ => rfl)) ?_) | (refine And.intro (load_ms rfl rfl (by omega) (by omega) rfl) ?_) | (refine And.intro (idx_ms rfl rfl rfl (by omega) (by omega)) ?_))
            conv => whnf
            refine .more ([u1], [u1], s1) [0, 1, 2, 3, 5, 7] rfl ⟨by simp; omega, hr.snoc (by show vc wl 0 0 ≤ _; omega) (by show _ ∧ _ ≤ vc wh 0 0; omega) (fun q => absurd q (by omega)) (fun q => by simp at q), rfl⟩ (by simp; omega) rfl ⟨.pt rfl, .same (.bool _), .pt rfl, .pt rfl, .pt rfl, .same (.int _ _), .ms rfl, .ms rfl, .same (.int _ _), trivial⟩ ?_
            dsimp only
            rw [own2_ne (by simp)]
            exact ⟨.same (S1_no _), .same (SF_no _ _ _ _), .same SR_no, SM_mv (.same nn_nil) (.same nn_nil), .same (noS_ints (l := [u1])), .same (noS_ints (l := [u1])), trivial⟩
          · have hpos : 0 < rl.length := List.length_pos_iff.mpr hrn
            have fC : at' rl ((rl.length : Int) - 1) = nth rl (rl.length - 1) := by rw [show ((rl.length : Int) - 1) = ((rl.length - 1 : Nat) : Int) by omega]; rfl
            have fD : at' rh ((rl.length : Int) - 1) = nth rh (rl.length - 1) := by rw [show ((rl.length : Int) - 1) = ((rl.length - 1 : Nat) : Int) by omega]; rfl
            have bC : nth rl (rl.length - 1) ≤ nth rh (rl.length - 1) ∧ nth rh (rl.length - 1) ≤ vc wh 0 rl.length := by
              have := hr.at_ (rl.length - 1) (by omega)
              have up := (F.upP 0 (rl.length - 1) (by omega) (by omega)).2
              rw [show rl.length - 1 + 1 = rl.length by omega] at up
              exact ⟨this.hi.1, Int.le_trans this.hi.2 up⟩
            have eC : nth rh (rl.length - 1) = nth rl (rl.length - 1) := by rw [eR]
            have hrn' : rh ≠ [] := by rintro rfl; simp at hrl; omega
            rw [omsl_ne hrn, omsl_ne hrn', own2_ne hrn]
            have fWl : at' (at' wl (0 : Int)) (rl.length : Int) = vc wl 0 rl.length := rfl
            have fWh : at' (at' wh (0 : Int)) (rl.length : Int) = vc wh 0 rl.length := rfl
            have qa := Between_any s (at' (at' wl (0 : Int)) (rl.length : Int)) (at' (at' wh (0 : Int)) (rl.length : Int)) (by omega) (by omega) (by omega)
            obtain ⟨u1, s1, a1, a2, k1⟩ := qa
            conv => whnf
            refine condP.dec (fun _ => ?_) (fun h => absurd (by omega) h)
            repeat' ((conv => whnf); first | (refine condP.dec (fun _ => ?_) (fun h => absurd (by omega) h)) | (refine .i64 (by omega) (by omega) ?_) | (refine onSome.intro (idx_fs rfl rfl (by omega) (by omega) (fun _ => rfl)) ?_) | (refine onSome.intro (load_fs rfl (by omega) (by omega) rfl) ?_) | (refine onSome.intro (idx_ms rfl rfl rfl (by omega) (by omega)) ?_) | (refine onSome.intro (load_ms rfl rfl (by omega) (by omega) rfl) ?_) | (refine And.intro rfl ?_) | (refine And.intro (load_fs rfl (by omega) (by omega) rfl) ?_) | (refine And.intro (idx_fs rfl rfl (by omega) (by omega) (fun _ => rfl)) ?_) | (refine And.intro (load_ms rfl rfl (by omega) (by omega) rfl) ?_) | (refine And.intro (idx_ms rfl rfl rfl (by omega) (by omega)) ?_))
            conv => whnf
            refine CallP.one (fun H hb => k1 H _ hb) rfl ?_
            repeat' ((conv => whnf); first | (refine condP.dec (fun _ => ?_) (fun h => absurd (by omega) h)) | (refine .i64 (by omega) (by omega) ?_) | (refine onSome.intro (idx_fs rfl rfl (by omega) (by omega) (fun _ => rfl)) ?_) | (refine onSome.intro (load_fs rfl (by omega) (by omega) rfl) ?_) | (refine onSome.intro (idx_ms rfl rfl rfl (by omega) (by omega)) ?_) | (refine onSome.intro (load_ms rfl rfl (by omega) (by omega) rfl) ?_) | (refine And.intro rfl ?_) | (refine And.intro (load_fs rfl (by omega) (by omega) rfl) ?_) | (refine And.intro (idx_fs rfl rfl (by omega) (by omega) (fun _ => rfl)) ?_) | (refine And.intro (load_ms rfl rfl (by omega) (by omega) rfl) ?_) | (refine And.intro (idx_ms rfl rfl rfl (by omega) (by omega)) ?_))
            conv => whnf
            refine .grow rfl rfl (by simp) (es' := [[.int .i64 (max (u1) (at' rl ((rl.length : Int) - 1)))]]) rfl (by simp) (fun e he => by simp at he; subst he; rfl) (fun e he c hc => by simp at he; subst he; simp at hc; subst hc; rfl) (r := rl.map ei ++ [[.int .i64 (max (u1) (at' rl ((rl.length : Int) - 1)))]]) rfl (n' := rl.length + 1) (by simp) (by omega) ?_
            repeat' ((conv => whnf); first | (refine condP.dec (fun _ => ?_) (fun h => absurd (by omega) h)) | (refine .i64 (by omega) (by omega) ?_) | (refine onSome.intro (idx_fs rfl rfl (by omega) (by omega) (fun _ => rfl)) ?_) | (refine onSome.intro (load_fs rfl (by omega) (by omega) rfl) ?_) | (refine onSome.intro (idx_ms rfl rfl rfl (by omega) (by omega)) ?_) | (refine onSome.intro (load_ms rfl rfl (by omega) (by omega) rfl) ?_) | (refine And.intro rfl ?_) | (refine And.intro (load_fs rfl (by omega) (by omega) rfl) ?_) | (refine And.intro (idx_fs rfl rfl (by omega) (by omega) (fun _ => rfl)) ?_) | (refine And.intro (load_ms rfl rfl (by omega) (by omega) rfl) ?_) | (refine And.intro (idx_ms rfl rfl rfl (by omega) (by omega)) ?_))
            conv => whnf
            refine .grow rfl rfl (by simp) (es' := [[.int .i64 (max (u1) (at' rl ((rl.length : Int) - 1)))]]) rfl (by simp) (fun e he => by simp at he; subst he; rfl) (fun e he c hc => by simp at he; subst he; simp at hc; subst hc; rfl) (r := rh.map ei ++ [[.int .i64 (max (u1) (at' rl ((rl.length : Int) - 1)))]]) rfl (n' := rh.length + 1) (by simp) (by omega) ?_
            repeat' ((conv => whnf); first | (refine condP.dec (fun _ => ?_) (fun h => absurd (by omega) h)) | (refine .i64 (by omega) (by omega) ?_) | (refine onSome.intro (idx_fs rfl rfl (by omega) (by omega) (fun _ => rfl)) ?_) | (refine onSome.intro (load_fs rfl (by omega) (by omega) rfl) ?_) | (refine onSome.intro (idx_ms rfl rfl rfl (by omega) (by omega)) ?_) | (refine onSome.intro (load_ms rfl rfl (by omega) (by omega) rfl) ?_) | (refine And.intro rfl ?_) | (refine And.intro (load_fs rfl (by omega) (by omega) rfl) ?_) | (refine And.intro (idx_fs rfl rfl (by omega) (by omega) (fun _ => rfl)) ?_) | (refine And.intro (load_ms rfl rfl (by omega) (by omega) rfl) ?_) | (refine And.intro (idx_ms rfl rfl rfl (by omega) (by omega)) ?_))
            conv => whnf
            refine .more (rl ++ [max (u1) (at' rl ((rl.length : Int) - 1))], rh ++ [max (u1) (at' rl ((rl.length : Int) - 1))], s1) [0, 1, 2, 3, 7, 9] rfl ⟨by simp; omega, hr.snoc (by omega) (by omega) (by omega) (by omega), by rw [eR]⟩ (by simp; omega) rfl ⟨.pt rfl, .same (.bool _), .pt rfl, .pt rfl, .pt rfl, .same (.int _ _), .grown rfl (by simp) (by simp), .grown rfl (by simp) (by simp), .nn (.int _ _) (frz_int (by simp)), trivial⟩ ?_
            dsimp only
            rw [own2_ne (by simp)]
            exact ⟨.same (S1_no _), .same (SF_no _ _ _ _), .same SR_no, SM_mv (.same nn_nil) (.same nn_nil), .snoc, .snoc, trivial⟩
        · have hrn : rl ≠ [] := List.ne_nil_of_length_pos (by omega)
          have hrn' : rh ≠ [] := List.ne_nil_of_length_pos (by omega)
          have sn := ht.snoc hr (by omega)
          rw [omsl_ne hrn, omsl_ne hrn', own2_ne hrn]
          conv => whnf
          refine condP.dec (fun h => absurd h (by omega)) (fun _ => ?_)
          conv => whnf
          refine .done (by simp) ?_
          conv => whnf
          refine .nil (.inl rfl) rfl (by simp) (fun e he => by simp at he; subst he; rfl) (fun e he c hc => by simp at he; subst he; simp at hc; subst hc; rfl) (n' := 1) rfl (by omega) ?_
          repeat' ((conv => whnf); first | (refine condP.dec (fun _ => ?_) (fun h => absurd (by omega) h)) | (refine .i64 (by omega) (by omega) ?_) | (refine onSome.intro (idx_fs rfl rfl (by omega) (by omega) (fun _ => rfl)) ?_) | (refine onSome.intro (load_fs rfl (by omega) (by omega) rfl) ?_) | (refine onSome.intro (idx_ms rfl rfl rfl (by omega) (by omega)) ?_) | (refine onSome.intro (load_ms rfl rfl (by omega) (by omega) rfl) ?_) | (refine And.intro rfl ?_) | (refine And.intro (load_fs rfl (by omega) (by omega) rfl) ?_) | (refine And.intro (idx_fs rfl rfl (by omega) (by omega) (fun _ => rfl)) ?_) | (refine And.intro (load_ms rfl rfl (by omega) (by omega) rfl) ?_) | (refine And.intro (idx_ms rfl rfl rfl (by omega) (by omega)) ?_))
          conv => whnf
          refine .nil (.inl rfl) rfl (by simp) (fun e he => by simp at he; subst he; rfl) (fun e he c hc => by simp at he; subst he; simp at hc; subst hc; rfl) (n' := 1) rfl (by omega) ?_
          repeat' ((conv => whnf); first | (refine condP.dec (fun _ => ?_) (fun h => absurd (by omega) h)) | (refine .i64 (by omega) (by omega) ?_) | (refine onSome.intro (idx_fs rfl rfl (by omega) (by omega) (fun _ => rfl)) ?_) | (refine onSome.intro (load_fs rfl (by omega) (by omega) rfl) ?_) | (refine onSome.intro (idx_ms rfl rfl rfl (by omega) (by omega)) ?_) | (refine onSome.intro (load_ms rfl rfl (by omega) (by omega) rfl) ?_) | (refine And.intro rfl ?_) | (refine And.intro (load_fs rfl (by omega) (by omega) rfl) ?_) | (refine And.intro (idx_fs rfl rfl (by omega) (by omega) (fun _ => rfl)) ?_) | (refine And.intro (load_ms rfl rfl (by omega) (by omega) rfl) ?_) | (refine And.intro (idx_ms rfl rfl rfl (by omega) (by omega)) ?_))
          conv => whnf
          refine .more ([] ++ [rl], [] ++ [rh], s) [0, 1, 2, 3, 7, 9] rfl ⟨by simp; omega, sn, by dsimp only; rw [eR]⟩ (by simp; omega) rfl ⟨.pt rfl, .same (.bool _), .pt rfl, .pt rfl, .pt rfl, .nn (.int _ _) (frz_int (by simp)), trivial⟩ ?_
          dsimp only
          rw [own2_ne (by simp)]
          exact ⟨.same (S1_no _), .same (SF_no _ _ _ _), .same SR_no, SM_mv (.grown rfl (by simp) (by simp)) (.grown rfl (by simp) (by simp)),
            .nn noS_rows (row_frz (rows := []) rfl (fun _ _ h => by cases h) rfl rfl).slot, .nn noS_rows (row_frz (rows := []) rfl (fun _ _ h => by cases h) rfl rfl).slot, trivial⟩
      · have hpos : 0 < tl.length := List.length_pos_iff.mpr htn
        have htn' : th ≠ [] := by rintro rfl; simp at htl; omega
        rw [omsl_ne htn, omsl_ne htn', own2_ne htn]
        conv => whnf
        refine condP.dec (fun _ => ?_) (fun h => absurd (by omega) h)
        conv => whnf
        refine loop_grow (X := List Int × List Int × Int) (fun x => [(0, .ptr 0 0 0), (2, .bool true), (4, .ptr 1 0 0), (6, .ptr 2 0 0), (7, .ptr 3 0 0), (8, .int .i64 (tl.length : Int)), (9, omsl 6 x.1), (10, omsl 7 x.2.1), (11, .int .i64 x.1.length)])
          (fun x => [S1 x.2.2, SF g p wl wh, SR, SM g p (.mslice 4 0 tl.length tl.length false) (.mslice 5 0 th.length th.length false), .live 1 (tl.map el), .live 1 (th.map el)] ++ own2 ei x.1 x.2.1)
          (fun x => p.length - x.1.length) (fun x => x.1.length ≤ p.length ∧ RowIn wl wh tl.length tl th x.1 x.2.1 ∧ x.2.1 = x.1) ([], [], s)
          ⟨Nat.zero_le _, .nil _ _ _ _ _, rfl⟩ ⟨rfl, rfl, rfl, rfl, rfl, rfl, rfl, rfl, rfl, trivial⟩ rfl (fun x hx => ?_)
        obtain ⟨rl, rh, s⟩ := x
        obtain ⟨hk, hr, eR⟩ := hx
        dsimp only at hk hr eR ⊢
        have hrl := hr.len
        rcases Nat.lt_or_ge rl.length p.length with hkt | hkg
        · have hW := F.cell tl.length rl.length (by omega) hkt
          have lWl : (at' wl (tl.length : Int)).length = p.length := row_len F.tl (by omega) (by omega)
          have lWh : (at' wh (tl.length : Int)).length = p.length := row_len F.th (by omega) (by omega)
          have fA : at' (at' tl ((tl.length : Int) - 1)) (rl.length : Int) = vc tl (tl.length - 1) rl.length := by rw [show ((tl.length : Int) - 1) = ((tl.length - 1 : Nat) : Int) by omega]; rfl
          have fB : at' (at' th ((tl.length : Int) - 1)) (rl.length : Int) = vc th (tl.length - 1) rl.length := by rw [show ((tl.length : Int) - 1) = ((tl.length - 1 : Nat) : Int) by omega]; rfl
          have rA : (at' tl ((tl.length : Int) - 1)).length = p.length := by rw [show ((tl.length : Int) - 1) = ((tl.length - 1 : Nat) : Int) by omega]; exact ht.lo _ (by omega)
          have rB : (at' th ((tl.length : Int) - 1)).length = p.length := by rw [show ((tl.length : Int) - 1) = ((tl.length - 1 : Nat) : Int) by omega]; exact ((ht.row (tl.length - 1) (by omega)).len).trans (ht.lo _ (by omega))
          have bA : vc tl (tl.length - 1) rl.length ≤ vc th (tl.length - 1) rl.length ∧ vc th (tl.length - 1) rl.length ≤ vc wh tl.length rl.length := by
            have := (ht.row (tl.length - 1) (by omega)).at_ rl.length (by rw [ht.lo _ (by omega)]; exact hkt)
            have up := (F.upG (tl.length - 1) rl.length (by omega) hkt).2
            rw [show tl.length - 1 + 1 = tl.length by omega] at up
            exact ⟨this.hi.1, Int.le_trans this.hi.2 up⟩
          have eA : vc th (tl.length - 1) rl.length = vc tl (tl.length - 1) rl.length := by rw [eT]
          by_cases hrn : rl = []
          · obtain rfl := hrn
            obtain rfl : rh = [] := List.length_eq_zero_iff.mp hrl
            simp only [List.length_nil] at *
            have fA0 : at' (at' tl ((tl.length : Int) - 1)) (0 : Int) = vc tl (tl.length - 1) 0 := fA
            have fB0 : at' (at' th ((tl.length : Int) - 1)) (0 : Int) = vc th (tl.length - 1) 0 := fB
            have fWl : at' (at' wl (tl.length : Int)) (0 : Int) = vc wl tl.length 0 := rfl
            have fWh : at' (at' wh (tl.length : Int)) (0 : Int) = vc wh tl.length 0 := rfl
            have qa := Between_any s (at' (at' wl (tl.length : Int)) (0 : Int)) (at' (at' wh (tl.length : Int)) (0 : Int)) (by omega) (by omega) (by omega)
            obtain ⟨u1, s1, a1, a2, k1⟩ := qa
            conv => whnf
            refine condP.dec (fun _ => ?_) (fun h => absurd (by omega) h)
            repeat' ((conv => whnf); first | (refine condP.dec (fun _ => ?_) (fun h => absurd (by omega) h)) | (refine .i64 (by omega) (by omega) ?_) | (refine onSome.intro (idx_fs rfl rfl (by omega) (by omega) (fun _ => rfl)) ?_) | (refine onSome.intro (load_fs rfl (by omega) (by omega) rfl) ?_) | (refine onSome.intro (idx_ms rfl rfl rfl (by omega) (by omega)) ?_) | (refine onSome.intro (load_ms rfl rfl (by omega) (by omega) rfl) ?_) | (refine And.intro rfl ?_) | (refine And.intro (load_fs rfl (by omega) (by omega) rfl) ?_) | (refine And.intro (idx_fs rfl rfl (by omega) (by omega) (fun _ => rfl)) ?_) | (refine And.intro (load_ms rfl rfl (by omega) (by omega) rfl) ?_) | (refine And.intro (idx_ms rfl rfl rfl (by omega) (by omega)) ?_))
            conv => whnf
            refine CallP.one (fun H hb => k1 H _ hb) rfl ?_
            repeat' ((conv => whnf); first | (refine condP.dec (fun _ => ?_) (fun h => absurd (by omega) h)) | (refine .i64 (by omega) (by omega) ?_) | (refine onSome.intro (idx_fs rfl rfl (by omega) (by omega) (fun _ => rfl)) ?_) | (refine onSome.intro (load_fs rfl (by omega) (by omega) rfl) ?_) | (refine onSome.intro (idx_ms rfl rfl rfl (by omega) (by omega)) ?_) | (refine onSome.intro (load_ms rfl rfl (by omega) (by omega) rfl) ?_) | (refine And.intro rfl ?_) | (refine And.intro (load_fs rfl (by omega) (by omega) rfl) ?_) | (refine And.intro (idx_fs rfl rfl (by omega) (by omega) (fun _ => rfl)) ?_) | (refine And.intro (load_ms rfl rfl (by omega) (by omega) rfl) ?_) | (refine And.intro (idx_ms rfl rfl rfl (by omega) (by omega)) ?_))
            conv => whnf
            refine .nil (.inl rfl) rfl (by simp) (fun e he => by simp at he; subst he; rfl) (fun e he c hc => by simp at he; subst he; simp at hc; subst hc; rfl) (n' := 1) rfl (by omega) ?_
            repeat' ((conv => whnf); first | (refine condP.dec (fun _ => ?_) (fun h => absurd (by omega) h)) | (refine .i64 (by omega) (by omega) ?_) | (refine onSome.intro (idx_fs rfl rfl (by omega) (by omega) (fun _ => rfl)) ?_) | (refine onSome.intro (load_fs rfl (by omega) (by omega) rfl) ?_) | (refine onSome.intro (idx_ms rfl rfl rfl (by omega) (by omega)) ?_) | (refine onSome.intro (load_ms rfl rfl (by omega) (by omega) rfl) ?_) | (refine And.intro rfl ?_) | (refine And.intro (load_fs rfl (by omega) (by omega) rfl) ?_) | (refine And.intro (idx_fs rfl rfl (by omega) (by omega) (fun _ => rfl)) ?_) | (refine And.intro (load_ms rfl rfl (by omega) (by omega) rfl) ?_) | (refine And.intro (idx_ms rfl rfl rfl (by omega) (by omega)) ?_))
            conv => whnf
            refine .nil (.inl rfl) rfl (by simp) (fun e he => by simp at he; subst he; rfl) (fun e he c hc => by simp at he; subst he; simp at hc; subst hc; rfl) (n' := 1) rfl (by omega) ?_
            repeat' ((conv => whnf); first | (refine condP.dec (fun _ => ?_) (fun h => absurd (by omega) h)) | (refine .i64 (by omega) (by omega) ?_) | (refine onSome.intro (idx_fs rfl rfl (by omega) (by omega) (fun _ => rfl)) ?_) | (refine onSome.intro (load_fs rfl (by omega) (by omega) rfl) ?_) | (refine onSome.intro (idx_ms rfl rfl rfl (by omega) (by omega)) ?_) | (refine onSome.intro (load_ms rfl rfl (by omega) (by omega) rfl) ?_) | (refine And.intro rfl ?_) | (refine And.intro (load_fs rfl (by omega) (by omega) rfl) ?_) | (refine And.intro (idx_fs rfl rfl (by omega) (by omega) (fun _ => rfl)) ?_) | (refine And.intro (load_ms rfl rfl (by omega) (by omega) rfl) ?_) | (refine And.intro (idx_ms rfl rfl rfl (by omega) (by omega)) ?_))
            conv => whnf
            refine .more ([max (u1) (at' (at' tl ((tl.length : Int) - 1)) (0 : Int))], [max (u1) (at' (at' tl ((tl.length : Int) - 1)) (0 : Int))], s1) [0, 1, 2, 3, 4, 5, 7, 9] rfl ⟨by simp; omega, hr.snoc (by show vc wl tl.length 0 ≤ _; omega) (by show _ ∧ _ ≤ vc wh tl.length 0; omega) (fun q => by show vc tl (tl.length - 1) 0 ≤ _ ∧ vc th (tl.length - 1) 0 ≤ _; omega) (fun q => by simp at q), rfl⟩ (by simp; omega) rfl ⟨.pt rfl, .same (.bool _), .pt rfl, .pt rfl, .pt rfl, .same (.int _ _), .ms rfl, .ms rfl, .same (.int _ _), trivial⟩ ?_
            dsimp only
            rw [own2_ne (by simp)]
            exact ⟨.same (S1_no _), .same (SF_no _ _ _ _), .same SR_no, SM_mv (.ms rfl) (.ms rfl), .same noS_rows, .same noS_rows, .same (noS_ints (l := [max (u1) (at' (at' tl ((tl.length : Int) - 1)) (0 : Int))])), .same (noS_ints (l := [max (u1) (at' (at' tl ((tl.length : Int) - 1)) (0 : Int))])), trivial⟩
          · have hpos : 0 < rl.length := List.length_pos_iff.mpr hrn
            have fC : at' rl ((rl.length : Int) - 1) = nth rl (rl.length - 1) := by rw [show ((rl.length : Int) - 1) = ((rl.length - 1 : Nat) : Int) by omega]; rfl
            have fD : at' rh ((rl.length : Int) - 1) = nth rh (rl.length - 1) := by rw [show ((rl.length : Int) - 1) = ((rl.length - 1 : Nat) : Int) by omega]; rfl
            have bC : nth rl (rl.length - 1) ≤ nth rh (rl.length - 1) ∧ nth rh (rl.length - 1) ≤ vc wh tl.length rl.length := by
              have := hr.at_ (rl.length - 1) (by omega)
              have up := (F.upP tl.length (rl.length - 1) (by omega) (by omega)).2
              rw [show rl.length - 1 + 1 = rl.length by omega] at up
              exact ⟨this.hi.1, Int.le_trans this.hi.2 up⟩
            have eC : nth rh (rl.length - 1) = nth rl (rl.length - 1) := by rw [eR]
            have hrn' : rh ≠ [] := by rintro rfl; simp at hrl; omega
            rw [omsl_ne hrn, omsl_ne hrn', own2_ne hrn]
            have fWl : at' (at' wl (tl.length : Int)) (rl.length : Int) = vc wl tl.length rl.length := rfl
            have fWh : at' (at' wh (tl.length : Int)) (rl.length : Int) = vc wh tl.length rl.length := rfl
            have qa := Between_any s (at' (at' wl (tl.length : Int)) (rl.length : Int)) (at' (at' wh (tl.length : Int)) (rl.length : Int)) (by omega) (by omega) (by omega)
            obtain ⟨u1, s1, a1, a2, k1⟩ := qa
            conv => whnf
            refine condP.dec (fun _ => ?_) (fun h => absurd (by omega) h)
            repeat' ((conv => whnf); first | (refine condP.dec (fun _ => ?_) (fun h => absurd (by omega) h)) | (refine .i64 (by omega) (by omega) ?_) | (refine onSome.intro (idx_fs rfl rfl (by omega) (by omega) (fun _ => rfl)) ?_) | (refine onSome.intro (load_fs rfl (by omega) (by omega) rfl) ?_) | (refine onSome.intro (idx_ms rfl rfl rfl (by omega) (by omega)) ?_) | (refine onSome.intro (load_ms rfl rfl (by omega) (by omega) rfl) ?_) | (refine And.intro rfl ?_) | (refine And.intro (load_fs rfl (by omega) (by omega) rfl) ?_) | (refine And.intro (idx_fs rfl rfl (by omega) (by omega) (fun _ => rfl)) ?_) | (refine And.intro (load_ms rfl rfl (by omega) (by omega) rfl) ?_) | (refine And.intro (idx_ms rfl rfl rfl (by omega) (by omega)) ?_))
            conv => whnf
            refine CallP.one (fun H hb => k1 H _ hb) rfl ?_
            repeat' ((conv => whnf); first | (refine condP.dec (fun _ => ?_) (fun h => absurd (by omega) h)) | (refine .i64 (by omega) (by omega) ?_) | (refine onSome.intro (idx_fs rfl rfl (by omega) (by omega) (fun _ => rfl)) ?_) | (refine onSome.intro (load_fs rfl (by omega) (by omega) rfl) ?_) | (refine onSome.intro (idx_ms rfl rfl rfl (by omega) (by omega)) ?_) | (refine onSome.intro (load_ms rfl rfl (by omega) (by omega) rfl) ?_) | (refine And.intro rfl ?_) | (refine And.intro (load_fs rfl (by omega) (by omega) rfl) ?_) | (refine And.intro (idx_fs rfl rfl (by omega) (by omega) (fun _ => rfl)) ?_) | (refine And.intro (load_ms rfl rfl (by omega) (by omega) rfl) ?_) | (refine And.intro (idx_ms rfl rfl rfl (by omega) (by omega)) ?_))
            conv => whnf
            refine .grow rfl rfl (by simp) (es' := [[.int .i64 (max (max (u1) (at' (at' tl ((tl.length : Int) - 1)) (rl.length : Int))) (at' rl ((rl.length : Int) - 1)))]]) rfl (by simp) (fun e he => by simp at he; subst he; rfl) (fun e he c hc => by simp at he; subst he; simp at hc; subst hc; rfl) (r := rl.map ei ++ [[.int .i64 (max (max (u1) (at' (at' tl ((tl.length : Int) - 1)) (rl.length : Int))) (at' rl ((rl.length : Int) - 1)))]]) rfl (n' := rl.length + 1) (by simp) (by omega) ?_
            repeat' ((conv => whnf); first | (refine condP.dec (fun _ => ?_) (fun h => absurd (by omega) h)) | (refine .i64 (by omega) (by omega) ?_) | (refine onSome.intro (idx_fs rfl rfl (by omega) (by omega) (fun _ => rfl)) ?_) | (refine onSome.intro (load_fs rfl (by omega) (by omega) rfl) ?_) | (refine onSome.intro (idx_ms rfl rfl rfl (by omega) (by omega)) ?_) | (refine onSome.intro (load_ms rfl rfl (by omega) (by omega) rfl) ?_) | (refine And.intro rfl ?_) | (refine And.intro (load_fs rfl (by omega) (by omega) rfl) ?_) | (refine And.intro (idx_fs rfl rfl (by omega) (by omega) (fun _ => rfl)) ?_) | (refine And.intro (load_ms rfl rfl (by omega) (by omega) rfl) ?_) | (refine And.intro (idx_ms rfl rfl rfl (by omega) (by omega)) ?_))
            conv => whnf
            refine .grow rfl rfl (by simp) (es' := [[.int .i64 (max (max (u1) (at' (at' tl ((tl.length : Int) - 1)) (rl.length : Int))) (at' rl ((rl.length : Int) - 1)))]]) rfl (by simp) (fun e he => by simp at he; subst he; rfl) (fun e he c hc => by simp at he; subst he; simp at hc; subst hc; rfl) (r := rh.map ei ++ [[.int .i64 (max (max (u1) (at' (at' tl ((tl.length : Int) - 1)) (rl.length : Int))) (at' rl ((rl.length : Int) - 1)))]]) rfl (n' := rh.length + 1) (by simp) (by omega) ?_
            repeat' ((conv => whnf); first | (refine condP.dec (fun _ => ?_) (fun h => absurd (by omega) h)) | (refine .i64 (by omega) (by omega) ?_) | (refine onSome.intro (idx_fs rfl rfl (by omega) (by omega) (fun _ => rfl)) ?_) | (refine onSome.intro (load_fs rfl (by omega) (by omega) rfl) ?_) | (refine onSome.intro (idx_ms rfl rfl rfl (by omega) (by omega)) ?_) | (refine onSome.intro (load_ms rfl rfl (by omega) (by omega) rfl) ?_) | (refine And.intro rfl ?_) | (refine And.intro (load_fs rfl (by omega) (by omega) rfl) ?_) | (refine And.intro (idx_fs rfl rfl (by omega) (by omega) (fun _ => rfl)) ?_) | (refine And.intro (load_ms rfl rfl (by omega) (by omega) rfl) ?_) | (refine And.intro (idx_ms rfl rfl rfl (by omega) (by omega)) ?_))
            conv => whnf
            refine .more (rl ++ [max (max (u1) (at' (at' tl ((tl.length : Int) - 1)) (rl.length : Int))) (at' rl ((rl.length : Int) - 1))], rh ++ [max (max (u1) (at' (at' tl ((tl.length : Int) - 1)) (rl.length : Int))) (at' rl ((rl.length : Int) - 1))], s1) [0, 1, 2, 3, 4, 5, 9, 11] rfl ⟨by simp; omega, hr.snoc (by omega) (by omega) (by omega) (by omega), by rw [eR]⟩ (by simp; omega) rfl ⟨.pt rfl, .same (.bool _), .pt rfl, .pt rfl, .pt rfl, .same (.int _ _), .grown rfl (by simp) (by simp), .grown rfl (by simp) (by simp), .nn (.int _ _) (frz_int (by simp)), trivial⟩ ?_
            dsimp only
            rw [own2_ne (by simp)]
            exact ⟨.same (S1_no _), .same (SF_no _ _ _ _), .same SR_no, SM_mv (.ms rfl) (.ms rfl), .same noS_rows, .same noS_rows, .snoc, .snoc, trivial⟩
        · have hrn : rl ≠ [] := List.ne_nil_of_length_pos (by omega)
          have hrn' : rh ≠ [] := List.ne_nil_of_length_pos (by omega)
          have sn := ht.snoc hr (by omega)
          rw [omsl_ne hrn, omsl_ne hrn', own2_ne hrn]
          conv => whnf
          refine condP.dec (fun h => absurd h (by omega)) (fun _ => ?_)
          conv => whnf
          refine .done (by simp) ?_
          conv => whnf
          refine .grow rfl rfl (by simp) (es' := [[.mslice 6 0 rl.length rl.length false]]) rfl (by simp) (fun e he => by simp at he; subst he; rfl) (fun e he c hc => by simp at he; subst he; simp at hc; subst hc; rfl) (r := tl.map el ++ [[.mslice 6 0 rl.length rl.length false]]) rfl (n' := tl.length + 1) (by simp) (by omega) ?_
          repeat' ((conv => whnf); first | (refine condP.dec (fun _ => ?_) (fun h => absurd (by omega) h)) | (refine .i64 (by omega) (by omega) ?_) | (refine onSome.intro (idx_fs rfl rfl (by omega) (by omega) (fun _ => rfl)) ?_) | (refine onSome.intro (load_fs rfl (by omega) (by omega) rfl) ?_) | (refine onSome.intro (idx_ms rfl rfl rfl (by omega) (by omega)) ?_) | (refine onSome.intro (load_ms rfl rfl (by omega) (by omega) rfl) ?_) | (refine And.intro rfl ?_) | (refine And.intro (load_fs rfl (by omega) (by omega) rfl) ?_) | (refine And.intro (idx_fs rfl rfl (by omega) (by omega) (fun _ => rfl)) ?_) | (refine And.intro (load_ms rfl rfl (by omega) (by omega) rfl) ?_) | (refine And.intro (idx_ms rfl rfl rfl (by omega) (by omega)) ?_))
          conv => whnf
          refine .grow rfl rfl (by simp) (es' := [[.mslice 7 0 rh.length rh.length false]]) rfl (by simp) (fun e he => by simp at he; subst he; rfl) (fun e he c hc => by simp at he; subst he; simp at hc; subst hc; rfl) (r := th.map el ++ [[.mslice 7 0 rh.length rh.length false]]) rfl (n' := th.length + 1) (by simp) (by omega) ?_
          repeat' ((conv => whnf); first | (refine condP.dec (fun _ => ?_) (fun h => absurd (by omega) h)) | (refine .i64 (by omega) (by omega) ?_) | (refine onSome.intro (idx_fs rfl rfl (by omega) (by omega) (fun _ => rfl)) ?_) | (refine onSome.intro (load_fs rfl (by omega) (by omega) rfl) ?_) | (refine onSome.intro (idx_ms rfl rfl rfl (by omega) (by omega)) ?_) | (refine onSome.intro (load_ms rfl rfl (by omega) (by omega) rfl) ?_) | (refine And.intro rfl ?_) | (refine And.intro (load_fs rfl (by omega) (by omega) rfl) ?_) | (refine And.intro (idx_fs rfl rfl (by omega) (by omega) (fun _ => rfl)) ?_) | (refine And.intro (load_ms rfl rfl (by omega) (by omega) rfl) ?_) | (refine And.intro (idx_ms rfl rfl rfl (by omega) (by omega)) ?_))
          conv => whnf
          refine .more (tl ++ [rl], th ++ [rh], s) [0, 1, 2, 3, 9, 11] rfl ⟨by simp; omega, sn, by dsimp only; rw [eR, eT]⟩ (by simp; omega) rfl ⟨.pt rfl, .same (.bool _), .pt rfl, .pt rfl, .pt rfl, .nn (.int _ _) (frz_int (by simp)), trivial⟩ ?_
          dsimp only
          rw [own2_ne (by simp)]
          exact ⟨.same (S1_no _), .same (SF_no _ _ _ _), .same SR_no, SM_mv (.grown rfl (by simp) (by simp)) (.grown rfl (by simp) (by simp)),
            .nn noS_rows (row_frz (rows := tl) rfl (fun _ _ h => by cases h) rfl rfl).slot, .nn noS_rows (row_frz (rows := th) rfl (fun _ _ h => by cases h) rfl rfl).slot, trivial⟩
    · have htn : tl ≠ [] := List.ne_nil_of_length_pos (by omega)
      have htn' : th ≠ [] := List.ne_nil_of_length_pos (by omega)
      have fo := ht.fam F (by omega)
      rw [omsl_ne htn, omsl_ne htn', own2_ne htn]
      conv => whnf
      refine condP.dec (fun h => absurd h (by omega)) (fun _ => ?_)
      conv => whnf
      refine .done (by simp) ?_
      conv => whnf
      exact .intro (famI g p tl th) (S1 s) ⟨tl, th, s, rfl, fo, rfl⟩ (famI_no ..) (S1_no _) (.one (.inl rfl) rfl rfl (.aggL (.cons (.refl _) (.cons (.refl _) (.cons (.whole (sz := 1) rfl (fun _ _ h => by cases h) (by simp) (.refl _)) (.cons (.whole (sz := 1) rfl (fun _ _ h => by cases h) (by simp) (.refl _)) .nil))))) (famI_no ..)))
  obtain ⟨v, z, ⟨lo, hi, s', rfl, fo, rfl⟩, _, _, hh⟩ := key
  exact ⟨lo, hi, s', fo.1, fo.2, fun H n hn => hh H n hn⟩
theorem WithinFamilyN_ok {g p : List Int} {wl wh : List (List Int)} (F : FamOk g p wl wh) (s : Int) : ∃ (lo hi : List (List Int)) (s' : Int), FamOk g p lo hi ∧ (∀ i k, i < g.length → k < p.length → vc wl i k ≤ vc lo i k ∧ vc hi i k ≤ vc wh i k) ∧
    ∀ (H : Heap) (n : Nat), H n = S1 s → Ev T (.call (.func (.func 43) [] []) [.ptr n 0 0, famI g p wl wh, .bool false] H) (.call (famI g p lo hi) (H.set n (S1 s'))) := by
  have n0 := F.g0
  have n1 := F.g1
  have m0 := F.p0
  have m1 := F.p1
  have wl1 := F.tl.len
  have wh1 := F.th.len
  have len1 : (g.map ei).length = g.length := List.length_map ..
  have len2 : (p.map ei).length = p.length := List.length_map ..
  have o1 := OwnF_ok g (by omega)
  have o2 := OwnF_ok p (by omega)
  have key := run_one_some T43 (i := 0) (off := 0) (args := [famI g p wl wh, .bool false]) (s := S1 s) (P := fun v z => ∃ (lo hi : List (List Int)) (s' : Int), v = famI g p lo hi ∧ (FamOk g p lo hi ∧ ∀ i k, i < g.length → k < p.length → vc wl i k ≤ vc lo i k ∧ vc hi i k ≤ vc wh i k) ∧ z = S1 s') (nn_cons (famI_no ..) (nn_cons (.bool _) nn_none)) (S1_no _) (by
    conv => whnf
    refine CallP.pure o1 ?_
    (repeat ((conv => whnf); refine And.intro rfl ?_)); conv => whnf
    refine CallP.pure o2 ?_
    (repeat ((conv => whnf); refine And.intro rfl ?_)); conv => whnf
    refine loop_grow (X := List (List Int) × List (List Int) × Int) (fun x => [(0, .ptr 0 0 0), (2, .bool false), (4, .ptr 1 0 0), (6, .ptr 2 0 0), (7, .ptr 3 0 0), (8, .int .i64 x.1.length)])
      (fun x => [S1 x.2.2, SF g p wl wh, SR, SM g p (omsl 4 x.1) (omsl 5 x.2.1)] ++ own2 el x.1 x.2.1)
      (fun x => g.length - x.1.length) (fun x => x.1.length ≤ g.length ∧ TabsIn wl wh p.length x.1 x.2.1) ([], [], s)
      ⟨Nat.zero_le _, .nil _ _ _⟩ ⟨rfl, rfl, rfl, rfl, rfl, rfl, trivial⟩ rfl (fun x hx => ?_)
    obtain ⟨tl, th, s⟩ := x
    obtain ⟨hi, ht⟩ := hx
    dsimp only at hi ht ⊢
    have htl := ht.len
    rcases Nat.lt_or_ge tl.length g.length with hlt | hge
    · by_cases htn : tl = []
      · obtain rfl := htn
        obtain rfl : th = [] := List.length_eq_zero_iff.mp htl
        simp only [List.length_nil] at *
        conv => whnf
        refine condP.dec (fun _ => ?_) (fun h => absurd (by omega) h)
        conv => whnf
        refine loop_grow (X := List Int × List Int × Int) (fun x => [(0, .ptr 0 0 0), (2, .bool false), (4, .ptr 1 0 0), (6, .ptr 2 0 0), (7, .ptr 3 0 0), (8, .int .i64 0), (9, omsl 4 x.1), (10, omsl 5 x.2.1), (11, .int .i64 x.1.length)])
          (fun x => [S1 x.2.2, SF g p wl wh, SR, SM g p .nilslice .nilslice] ++ own2 ei x.1 x.2.1)
          (fun x => p.length - x.1.length) (fun x => x.1.length ≤ p.length ∧ RowIn wl wh 0 [] [] x.1 x.2.1) ([], [], s)
          ⟨Nat.zero_le _, .nil _ _ _ _ _⟩ ⟨rfl, rfl, rfl, rfl, rfl, rfl, rfl, rfl, rfl, trivial⟩ rfl (fun x hx => ?_)
        obtain ⟨rl, rh, s⟩ := x
        obtain ⟨hk, hr⟩ := hx
        dsimp only at hk hr ⊢
        have hrl := hr.len
        rcases Nat.lt_or_ge rl.length p.length with hkt | hkg
        · have hW := F.cell 0 rl.length (by omega) hkt
          have lWl : (at' wl (0 : Int)).length = p.length := row_len F.tl (by omega) (by omega)
          have lWh : (at' wh (0 : Int)).length = p.length := row_len F.th (by omega) (by omega)
          by_cases hrn : rl = []
          · obtain rfl := hrn
            obtain rfl : rh = [] := List.length_eq_zero_iff.mp hrl
            simp only [List.length_nil] at *
            have fWl : at' (at' wl (0 : Int)) (0 : Int) = vc wl 0 0 := rfl
            have fWh : at' (at' wh (0 : Int)) (0 : Int) = vc wh 0 0 := rfl
            have qa := Between_any s (at' (at' wl (0 : Int)) (0 : Int)) (at' (at' wh (0 : Int)) (0 : Int)) (by omega) (by omega) (by omega)
            obtain ⟨u1, s1, a1, a2, k1⟩ := qa
            have qb := Between_any s1 (u1) (at' (at' wh (0 : Int)) (0 : Int)) (by omega) (by omega) (by omega)
            obtain ⟨u2, s2, b1, b2, k2⟩ := qb
            conv => whnf
            refine condP.dec (fun _ => ?_) (fun h => absurd (by omega) h)
            repeat' ((conv => whnf); first | (refine condP.dec (fun _ => ?_) (fun h => absurd (by omega) h)) | (refine .i64 (by omega) (by omega) ?_) | (refine onSome.intro (idx_fs rfl rfl (by omega) (by omega) (fun _ => rfl)) ?_) | (refine onSome.intro (load_fs rfl (by omega) (by omega) rfl) ?_) | (refine onSome.intro (idx_ms rfl rfl rfl (by omega) (by omega)) ?_) | (refine onSome.intro (load_ms rfl rfl (by omega) (by omega) rfl) ?_) | (refine And.intro rfl ?_) | (refine And.intro (load_fs rfl (by omega) (by omega) rfl) ?_) | (refine And.intro (idx_fs rfl rfl (by omega) (by omega) (fun _ => rfl)) ?_) | (refine And.intro (load_ms rfl rfl (by omega) (by omega) rfl) ?_) | (refine And.intro (idx_ms rfl rfl rfl (by omega) (by omega)) ?_))
            conv => whnf
            refine CallP.one (fun H hb => k1 H _ hb) rfl ?_
            repeat' ((conv => whnf); first | (refine condP.dec (fun _ => ?_) (fun h => absurd (by omega) h)) | (refine .i64 (by omega) (by omega) ?_) | (refine onSome.intro (idx_fs rfl rfl (by omega) (by omega) (fun _ => rfl)) ?_) | (refine onSome.intro (load_fs rfl (by omega) (by omega) rfl) ?_) | (refine onSome.intro (idx_ms rfl rfl rfl (by omega) (by omega)) ?_) | (refine onSome.intro (load_ms rfl rfl (by omega) (by omega) rfl) ?_) | (refine And.intro rfl ?_) | (refine And.intro (load_fs rfl (by omega) (by omega) rfl) ?_) | (refine And.intro (idx_fs rfl rfl (by omega) (by omega) (fun _ => rfl)) ?_) | (refine And.intro (load_ms rfl rfl (by omega) (by omega) rfl) ?_) | (refine And.intro (idx_ms rfl rfl rfl (by omega) (by omega)) ?_))
            conv => whnf
            refine CallP.one (fun H hb => k2 H _ hb) rfl ?_
            repeat' ((conv => whnf); first | (refine condP.dec (fun _ => ?_) (fun h => absurd (by omega) h)) | (refine .i64 (by omega) (by omega) ?_) | (refine onSome.intro (idx_fs rfl rfl (by omega) (by omega) (fun _ => rfl)) ?_) | (refine onSome.intro (load_fs rfl (by omega) (by omega) rfl) ?_) | (refine onSome.intro (idx_ms rfl rfl rfl (by omega) (by omega)) ?_) | (refine onSome.intro (load_ms rfl rfl (by omega) (by omega) rfl) ?_) | (refine And.intro rfl ?_) | (refine And.intro (load_fs rfl (by omega) (by omega) rfl) ?_) | (refine And.intro (idx_fs rfl rfl (by omega) (by omega) (fun _ => rfl)) ?_) | (refine And.intro (load_ms rfl rfl (by omega) (by omega) rfl) ?_) | (refine And.intro (idx_ms rfl rfl rfl (by omega) (by omega)) ?_))
            conv => whnf
            refine .nil (.inl rfl) rfl (by simp) (fun e he => by simp at he; subst he; rfl) (fun e he c hc => by simp at he; subst he; simp at hc; subst hc; rfl) (n' := 1) rfl (by omega) ?_
            repeat' ((conv => whnf); first | (refine condP.dec (fun _ => ?_) (fun h => absurd (by omega) h)) | (refine .i64 (by omega) (by omega) ?_) | (refine onSome.intro (idx_fs rfl rfl (by omega) (by omega) (fun _ => rfl)) ?_) | (refine onSome.intro (load_fs rfl (by omega) (by omega) rfl) ?_) | (refine onSome.intro (idx_ms rfl rfl rfl (by omega) (by omega)) ?_) | (refine onSome.intro (load_ms rfl rfl (by omega) (by omega) rfl) ?_) | (refine And.intro rfl ?_) | (refine And.intro (load_fs rfl (by omega) (by omega) rfl) ?_) | (refine And.intro (idx_fs rfl rfl (by omega) (by omega) (fun _ => rfl)) ?_) | (refine And.intro (load_ms rfl rfl (by omega) (by omega) rfl) ?_) | (refine And.intro (idx_ms rfl rfl rfl (by omega) (by omega)) ?_))
            conv => whnf
            refine .nil (.inl rfl) rfl (by simp) (fun e he => by simp at he; subst he; rfl) (fun e he c hc => by simp at he; subst he; simp at hc; subst hc; rfl) (n' := 1) rfl (by omega) ?_
            repeat' ((conv => whnf); first | (refine condP.dec (fun _ => ?_) (fun h => absurd (by omega) h)) | (refine .i64 (by omega) (by omega) ?_) | (refine onSome.intro (idx_fs rfl rfl (by omega) (by omega) (fun _ => rfl)) ?_) | (refine onSome.intro (load_fs rfl (by omega) (by omega) rfl) ?_) | (refine onSome.intro (idx_ms rfl rfl rfl (by omega) (by omega)) ?_) | (refine onSome.intro (load_ms rfl rfl (by omega) (by omega) rfl) ?_) | (refine And.intro rfl ?_) | (refine And.intro (load_fs rfl (by omega) (by omega) rfl) ?_) | (refine And.intro (idx_fs rfl rfl (by omega) (by omega) (fun _ => rfl)) ?_) | (refine And.intro (load_ms rfl rfl (by omega) (by omega) rfl) ?_) | (refine And.intro (idx_ms rfl rfl rfl (by omega) (by omega)) ?_))
            conv => whnf
            refine .more ([u1], [u2], s2) [0, 1, 2, 3, 5, 7] rfl ⟨by simp; omega, hr.snoc (by show vc wl 0 0 ≤ _; omega) (by show _ ∧ _ ≤ vc wh 0 0; omega) (fun q => absurd q (by omega)) (fun q => by simp at q)⟩ (by simp; omega) rfl ⟨.pt rfl, .same (.bool _), .pt rfl, .pt rfl, .pt rfl, .same (.int _ _), .ms rfl, .ms rfl, .same (.int _ _), trivial⟩ ?_
            dsimp only
            rw [own2_ne (by simp)]
            exact ⟨.same (S1_no _), .same (SF_no _ _ _ _), .same SR_no, SM_mv (.same nn_nil) (.same nn_nil), .same (noS_ints (l := [u1])), .same (noS_ints (l := [u2])), trivial⟩
          · have hpos : 0 < rl.length := List.length_pos_iff.mpr hrn
            have fC : at' rl ((rl.length : Int) - 1) = nth rl (rl.length - 1) := by rw [show ((rl.length : Int) - 1) = ((rl.length - 1 : Nat) : Int) by omega]; rfl
            have fD : at' rh ((rl.length : Int) - 1) = nth rh (rl.length - 1) := by rw [show ((rl.length : Int) - 1) = ((rl.length - 1 : Nat) : Int) by omega]; rfl
            have bC : nth rl (rl.length - 1) ≤ nth rh (rl.length - 1) ∧ nth rh (rl.length - 1) ≤ vc wh 0 rl.length := by
              have := hr.at_ (rl.length - 1) (by omega)
              have up := (F.upP 0 (rl.length - 1) (by omega) (by omega)).2
              rw [show rl.length - 1 + 1 = rl.length by omega] at up
              exact ⟨this.hi.1, Int.le_trans this.hi.2 up⟩
            have hrn' : rh ≠ [] := by rintro rfl; simp at hrl; omega
            rw [omsl_ne hrn, omsl_ne hrn', own2_ne hrn]
            have fWl : at' (at' wl (0 : Int)) (rl.length : Int) = vc wl 0 rl.length := rfl
            have fWh : at' (at' wh (0 : Int)) (rl.length : Int) = vc wh 0 rl.length := rfl
            have qa := Between_any s (at' (at' wl (0 : Int)) (rl.length : Int)) (at' (at' wh (0 : Int)) (rl.length : Int)) (by omega) (by omega) (by omega)
            obtain ⟨u1, s1, a1, a2, k1⟩ := qa
            have qb := Between_any s1 (max (u1) (at' rl ((rl.length : Int) - 1))) (at' (at' wh (0 : Int)) (rl.length : Int)) (by omega) (by omega) (by omega)
            obtain ⟨u2, s2, b1, b2, k2⟩ := qb
            conv => whnf
            refine condP.dec (fun _ => ?_) (fun h => absurd (by omega) h)
            repeat' ((conv => whnf); first | (refine condP.dec (fun _ => ?_) (fun h => absurd (by omega) h)) | (refine .i64 (by omega) (by omega) ?_) | (refine onSome.intro (idx_fs rfl rfl (by omega) (by omega) (fun _ => rfl)) ?_) | (refine onSome.intro (load_fs rfl (by omega) (by omega) rfl) ?_) | (refine onSome.intro (idx_ms rfl rfl rfl (by omega) (by omega)) ?_) | (refine onSome.intro (load_ms rfl rfl (by omega) (by omega) rfl) ?_) | (refine And.intro rfl ?_) | (refine And.intro (load_fs rfl (by omega) (by omega) rfl) ?_) | (refine And.intro (idx_fs rfl rfl (by omega) (by omega) (fun _ => rfl)) ?_) | (refine And.intro (load_ms rfl rfl (by omega) (by omega) rfl) ?_) | (refine And.intro (idx_ms rfl rfl rfl (by omega) (by omega)) ?_))
            conv => whnf
            refine CallP.one (fun H hb => k1 H _ hb) rfl ?_
            repeat' ((conv => whnf); first | (refine condP.dec (fun _ => ?_) (fun h => absurd (by omega) h)) | (refine .i64 (by omega) (by omega) ?_) | (refine onSome.intro (idx_fs rfl rfl (by omega) (by omega) (fun _ => rfl)) ?_) | (refine onSome.intro (load_fs rfl (by omega) (by omega) rfl) ?_) | (refine onSome.intro (idx_ms rfl rfl rfl (by omega) (by omega)) ?_) | (refine onSome.intro (load_ms rfl rfl (by omega) (by omega) rfl) ?_) | (refine And.intro rfl ?_) | (refine And.intro (load_fs rfl (by omega) (by omega) rfl) ?_) | (refine And.intro (idx_fs rfl rfl (by omega) (by omega) (fun _ => rfl)) ?_) | (refine And.intro (load_ms rfl rfl (by omega) (by omega) rfl) ?_) | (refine And.intro (idx_ms rfl rfl rfl (by omega) (by omega)) ?_))
            conv => whnf
            refine CallP.one (fun H hb => k2 H _ hb) rfl ?_
            repeat' ((conv => whnf); first | (refine condP.dec (fun _ => ?_) (fun h => absurd (by omega) h)) | (refine .i64 (by omega) (by omega) ?_) | (refine onSome.intro (idx_fs rfl rfl (by omega) (by omega) (fun _ => rfl)) ?_) | (refine onSome.intro (load_fs rfl (by omega) (by omega) rfl) ?_) | (refine onSome.intro (idx_ms rfl rfl rfl (by omega) (by omega)) ?_) | (refine onSome.intro (load_ms rfl rfl (by omega) (by omega) rfl) ?_) | (refine And.intro rfl ?_) | (refine And.intro (load_fs rfl (by omega) (by omega) rfl) ?_) | (refine And.intro (idx_fs rfl rfl (by omega) (by omega) (fun _ => rfl)) ?_) | (refine And.intro (load_ms rfl rfl (by omega) (by omega) rfl) ?_) | (refine And.intro (idx_ms rfl rfl rfl (by omega) (by omega)) ?_))
            conv => whnf
            refine .grow rfl rfl (by simp) (es' := [[.int .i64 (max (u1) (at' rl ((rl.length : Int) - 1)))]]) rfl (by simp) (fun e he => by simp at he; subst he; rfl) (fun e he c hc => by simp at he; subst he; simp at hc; subst hc; rfl) (r := rl.map ei ++ [[.int .i64 (max (u1) (at' rl ((rl.length : Int) - 1)))]]) rfl (n' := rl.length + 1) (by simp) (by omega) ?_
            repeat' ((conv => whnf); first | (refine condP.dec (fun _ => ?_) (fun h => absurd (by omega) h)) | (refine .i64 (by omega) (by omega) ?_) | (refine onSome.intro (idx_fs rfl rfl (by omega) (by omega) (fun _ => rfl)) ?_) | (refine onSome.intro (load_fs rfl (by omega) (by omega) rfl) ?_) | (refine onSome.intro (idx_ms rfl rfl rfl (by omega) (by omega)) ?_) | (refine onSome.intro (load_ms rfl rfl (by omega) (by omega) rfl) ?_) | (refine And.intro rfl ?_) | (refine And.intro (load_fs rfl (by omega) (by omega) rfl) ?_) | (refine And.intro (idx_fs rfl rfl (by omega) (by omega) (fun _ => rfl)) ?_) | (refine And.intro (load_ms rfl rfl (by omega) (by omega) rfl) ?_) | (refine And.intro (idx_ms rfl rfl rfl (by omega) (by omega)) ?_))
            conv => whnf
            refine .grow rfl rfl (by simp) (es' := [[.int .i64 (max (u2) (at' rh ((rl.length : Int) - 1)))]]) rfl (by simp) (fun e he => by simp at he; subst he; rfl) (fun e he c hc => by simp at he; subst he; simp at hc; subst hc; rfl) (r := rh.map ei ++ [[.int .i64 (max (u2) (at' rh ((rl.length : Int) - 1)))]]) rfl (n' := rh.length + 1) (by simp) (by omega) ?_
            repeat' ((conv => whnf); first | (refine condP.dec (fun _ => ?_) (fun h => absurd (by omega) h)) | (refine .i64 (by omega) (by omega) ?_) | (refine onSome.intro (idx_fs rfl rfl (by omega) (by omega) (fun _ => rfl)) ?_) | (refine onSome.intro (load_fs rfl (by omega) (by omega) rfl) ?_) | (refine onSome.intro (idx_ms rfl rfl rfl (by omega) (by omega)) ?_) | (refine onSome.intro (load_ms rfl rfl (by omega) (by omega) rfl) ?_) | (refine And.intro rfl ?_) | (refine And.intro (load_fs rfl (by omega) (by omega) rfl) ?_) | (refine And.intro (idx_fs rfl rfl (by omega) (by omega) (fun _ => rfl)) ?_) | (refine And.intro (load_ms rfl rfl (by omega) (by omega) rfl) ?_) | (refine And.intro (idx_ms rfl rfl rfl (by omega) (by omega)) ?_))
            conv => whnf
            refine .more (rl ++ [max (u1) (at' rl ((rl.length : Int) - 1))], rh ++ [max (u2) (at' rh ((rl.length : Int) - 1))], s2) [0, 1, 2, 3, 7, 9] rfl ⟨by simp; omega, hr.snoc (by omega) (by omega) (by omega) (by omega)⟩ (by simp; omega) rfl ⟨.pt rfl, .same (.bool _), .pt rfl, .pt rfl, .pt rfl, .same (.int _ _), .grown rfl (by simp) (by simp), .grown rfl (by simp) (by simp), .nn (.int _ _) (frz_int (by simp)), trivial⟩ ?_
            dsimp only
            rw [own2_ne (by simp)]
            exact ⟨.same (S1_no _), .same (SF_no _ _ _ _), .same SR_no, SM_mv (.same nn_nil) (.same nn_nil), .snoc, .snoc, trivial⟩
        · have hrn : rl ≠ [] := List.ne_nil_of_length_pos (by omega)
          have hrn' : rh ≠ [] := List.ne_nil_of_length_pos (by omega)
          have sn := ht.snoc hr (by omega)
          rw [omsl_ne hrn, omsl_ne hrn', own2_ne hrn]
          conv => whnf
          refine condP.dec (fun h => absurd h (by omega)) (fun _ => ?_)
          conv => whnf
          refine .done (by simp) ?_
          conv => whnf
          refine .nil (.inl rfl) rfl (by simp) (fun e he => by simp at he; subst he; rfl) (fun e he c hc => by simp at he; subst he; simp at hc; subst hc; rfl) (n' := 1) rfl (by omega) ?_
          repeat' ((conv => whnf); first | (refine condP.dec (fun _ => ?_) (fun h => absurd (by omega) h)) | (refine .i64 (by omega) (by omega) ?_) | (refine onSome.intro (idx_fs rfl rfl (by omega) (by omega) (fun _ => rfl)) ?_) | (refine onSome.intro (load_fs rfl (by omega) (by omega) rfl) ?_) | (refine onSome.intro (idx_ms rfl rfl rfl (by omega) (by omega)) ?_) | (refine onSome.intro (load_ms rfl rfl (by omega) (by omega) rfl) ?_) | (refine And.intro rfl ?_) | (refine And.intro (load_fs rfl (by omega) (by omega) rfl) ?_) | (refine And.intro (idx_fs rfl rfl (by omega) (by omega) (fun _ => rfl)) ?_) | (refine And.intro (load_ms rfl rfl (by omega) (by omega) rfl) ?_) | (refine And.intro (idx_ms rfl rfl rfl (by omega) (by omega)) ?_))
          conv => whnf
          refine .nil (.inl rfl) rfl (by simp) (fun e he => by simp at he; subst he; rfl) (fun e he c hc => by simp at he; subst he; simp at hc; subst hc; rfl) (n' := 1) rfl (by omega) ?_
          repeat' ((conv => whnf); first | (refine condP.dec (fun _ => ?_) (fun h => absurd (by omega) h)) | (refine .i64 (by omega) (by omega) ?_) | (refine onSome.intro (idx_fs rfl rfl (by omega) (by omega) (fun _ => rfl)) ?_) | (refine onSome.intro (load_fs rfl (by omega) (by omega) rfl) ?_) | (refine onSome.intro (idx_ms rfl rfl rfl (by omega) (by omega)) ?_) | (refine onSome.intro (load_ms rfl rfl (by omega) (by omega) rfl) ?_) | (refine And.intro rfl ?_) | (refine And.intro (load_fs rfl (by omega) (by omega) rfl) ?_) | (refine And.intro (idx_fs rfl rfl (by omega) (by omega) (fun _ => rfl)) ?_) | (refine And.intro (load_ms rfl rfl (by omega) (by omega) rfl) ?_) | (refine And.intro (idx_ms rfl rfl rfl (by omega) (by omega)) ?_))
          conv => whnf
          refine .more ([] ++ [rl], [] ++ [rh], s) [0, 1, 2, 3, 7, 9] rfl ⟨by simp; omega, sn⟩ (by simp; omega) rfl ⟨.pt rfl, .same (.bool _), .pt rfl, .pt rfl, .pt rfl, .nn (.int _ _) (frz_int (by simp)), trivial⟩ ?_
          dsimp only
          rw [own2_ne (by simp)]
          exact ⟨.same (S1_no _), .same (SF_no _ _ _ _), .same SR_no, SM_mv (.grown rfl (by simp) (by simp)) (.grown rfl (by simp) (by simp)),
            .nn noS_rows (row_frz (rows := []) rfl (fun _ _ h => by cases h) rfl rfl).slot, .nn noS_rows (row_frz (rows := []) rfl (fun _ _ h => by cases h) rfl rfl).slot, trivial⟩
      · have hpos : 0 < tl.length := List.length_pos_iff.mpr htn
        have htn' : th ≠ [] := by rintro rfl; simp at htl; omega
        rw [omsl_ne htn, omsl_ne htn', own2_ne htn]
        conv => whnf
        refine condP.dec (fun _ => ?_) (fun h => absurd (by omega) h)
        conv => whnf
        refine loop_grow (X := List Int × List Int × Int) (fun x => [(0, .ptr 0 0 0), (2, .bool false), (4, .ptr 1 0 0), (6, .ptr 2 0 0), (7, .ptr 3 0 0), (8, .int .i64 (tl.length : Int)), (9, omsl 6 x.1), (10, omsl 7 x.2.1), (11, .int .i64 x.1.length)])
          (fun x => [S1 x.2.2, SF g p wl wh, SR, SM g p (.mslice 4 0 tl.length tl.length false) (.mslice 5 0 th.length th.length false), .live 1 (tl.map el), .live 1 (th.map el)] ++ own2 ei x.1 x.2.1)
          (fun x => p.length - x.1.length) (fun x => x.1.length ≤ p.length ∧ RowIn wl wh tl.length tl th x.1 x.2.1) ([], [], s)
          ⟨Nat.zero_le _, .nil _ _ _ _ _⟩ ⟨rfl, rfl, rfl, rfl, rfl, rfl, rfl, rfl, rfl, trivial⟩ rfl (fun x hx => ?_)
        obtain ⟨rl, rh, s⟩ := x
        obtain ⟨hk, hr⟩ := hx
        dsimp only at hk hr ⊢
        have hrl := hr.len
        rcases Nat.lt_or_ge rl.length p.length with hkt | hkg
        · have hW := F.cell tl.length rl.length (by omega) hkt
          have lWl : (at' wl (tl.length : Int)).length = p.length := row_len F.tl (by omega) (by omega)
          have lWh : (at' wh (tl.length : Int)).length = p.length := row_len F.th (by omega) (by omega)
          have fA : at' (at' tl ((tl.length : Int) - 1)) (rl.length : Int) = vc tl (tl.length - 1) rl.length := by rw [show ((tl.length : Int) - 1) = ((tl.length - 1 : Nat) : Int) by omega]; rfl
          have fB : at' (at' th ((tl.length : Int) - 1)) (rl.length : Int) = vc th (tl.length - 1) rl.length := by rw [show ((tl.length : Int) - 1) = ((tl.length - 1 : Nat) : Int) by omega]; rfl
          have rA : (at' tl ((tl.length : Int) - 1)).length = p.length := by rw [show ((tl.length : Int) - 1) = ((tl.length - 1 : Nat) : Int) by omega]; exact ht.lo _ (by omega)
          have rB : (at' th ((tl.length : Int) - 1)).length = p.length := by rw [show ((tl.length : Int) - 1) = ((tl.length - 1 : Nat) : Int) by omega]; exact ((ht.row (tl.length - 1) (by omega)).len).trans (ht.lo _ (by omega))
          have bA : vc tl (tl.length - 1) rl.length ≤ vc th (tl.length - 1) rl.length ∧ vc th (tl.length - 1) rl.length ≤ vc wh tl.length rl.length := by
            have := (ht.row (tl.length - 1) (by omega)).at_ rl.length (by rw [ht.lo _ (by omega)]; exact hkt)
            have up := (F.upG (tl.length - 1) rl.length (by omega) hkt).2
            rw [show tl.length - 1 + 1 = tl.length by omega] at up
            exact ⟨this.hi.1, Int.le_trans this.hi.2 up⟩
          by_cases hrn : rl = []
          · obtain rfl := hrn
            obtain rfl : rh = [] := List.length_eq_zero_iff.mp hrl
            simp only [List.length_nil] at *
            have fA0 : at' (at' tl ((tl.length : Int) - 1)) (0 : Int) = vc tl (tl.length - 1) 0 := fA
            have fB0 : at' (at' th ((tl.length : Int) - 1)) (0 : Int) = vc th (tl.length - 1) 0 := fB
            have fWl : at' (at' wl (tl.length : Int)) (0 : Int) = vc wl tl.length 0 := rfl
            have fWh : at' (at' wh (tl.length : Int)) (0 : Int) = vc wh tl.length 0 := rfl
            have qa := Between_any s (at' (at' wl (tl.length : Int)) (0 : Int)) (at' (at' wh (tl.length : Int)) (0 : Int)) (by omega) (by omega) (by omega)
            obtain ⟨u1, s1, a1, a2, k1⟩ := qa
            have qb := Between_any s1 (max (u1) (at' (at' tl ((tl.length : Int) - 1)) (0 : Int))) (at' (at' wh (tl.length : Int)) (0 : Int)) (by omega) (by omega) (by omega)
            obtain ⟨u2, s2, b1, b2, k2⟩ := qb
            conv => whnf
            refine condP.dec (fun _ => ?_) (fun h => absurd (by omega) h)
            repeat' ((conv => whnf); first | (refine condP.dec (fun _ => ?_) (fun h => absurd (by omega) h)) | (refine .i64 (by omega) (by omega) ?_) | (refine onSome.intro (idx_fs rfl rfl (by omega) (by omega) (fun _ => rfl)) ?_) | (refine onSome.intro (load_fs rfl (by omega) (by omega) rfl) ?_) | (refine onSome.intro (idx_ms rfl rfl rfl (by omega) (by omega)) ?_) | (refine onSome.intro (load_ms rfl rfl (by omega) (by omega) rfl) ?_) | (refine And.intro rfl ?_) | (refine And.intro (load_fs rfl (by omega) (by omega) rfl) ?_) | (refine And.intro (idx_fs rfl rfl (by omega) (by omega) (fun _ => rfl)) ?_) | (refine And.intro (load_ms rfl rfl (by omega) (by omega) rfl) ?_) | (refine And.intro (idx_ms rfl rfl rfl (by omega) (by omega)) ?_))
            conv => whnf
            refine CallP.one (fun H hb => k1 H _ hb) rfl ?_
            repeat' ((conv => whnf); first | (refine condP.dec (fun _ => ?_) (fun h => absurd (by omega) h)) | (refine .i64 (by omega) (by omega) ?_) | (refine onSome.intro (idx_fs rfl rfl (by omega) (by omega) (fun _ => rfl)) ?_) | (refine onSome.intro (load_fs rfl (by omega) (by omega) rfl) ?_) | (refine onSome.intro (idx_ms rfl rfl rfl (by omega) (by omega)) ?_) | (refine onSome.intro (load_ms rfl rfl (by omega) (by omega) rfl) ?_) | (refine And.intro rfl ?_) | (refine And.intro (load_fs rfl (by omega) (by omega) rfl) ?_) | (refine And.intro (idx_fs rfl rfl (by omega) (by omega) (fun _ => rfl)) ?_) | (refine And.intro (load_ms rfl rfl (by omega) (by omega) rfl) ?_) | (refine And.intro (idx_ms rfl rfl rfl (by omega) (by omega)) ?_))
            conv => whnf
            refine CallP.one (fun H hb => k2 H _ hb) rfl ?_
            repeat' ((conv => whnf); first | (refine condP.dec (fun _ => ?_) (fun h => absurd (by omega) h)) | (refine .i64 (by omega) (by omega) ?_) | (refine onSome.intro (idx_fs rfl rfl (by omega) (by omega) (fun _ => rfl)) ?_) | (refine onSome.intro (load_fs rfl (by omega) (by omega) rfl) ?_) | (refine onSome.intro (idx_ms rfl rfl rfl (by omega) (by omega)) ?_) | (refine onSome.intro (load_ms rfl rfl (by omega) (by omega) rfl) ?_) | (refine And.intro rfl ?_) | (refine And.intro (load_fs rfl (by omega) (by omega) rfl) ?_) | (refine And.intro (idx_fs rfl rfl (by omega) (by omega) (fun _ => rfl)) ?_) | (refine And.intro (load_ms rfl rfl (by omega) (by omega) rfl) ?_) | (refine And.intro (idx_ms rfl rfl rfl (by omega) (by omega)) ?_))
            conv => whnf
            refine .nil (.inl rfl) rfl (by simp) (fun e he => by simp at he; subst he; rfl) (fun e he c hc => by simp at he; subst he; simp at hc; subst hc; rfl) (n' := 1) rfl (by omega) ?_
            repeat' ((conv => whnf); first | (refine condP.dec (fun _ => ?_) (fun h => absurd (by omega) h)) | (refine .i64 (by omega) (by omega) ?_) | (refine onSome.intro (idx_fs rfl rfl (by omega) (by omega) (fun _ => rfl)) ?_) | (refine onSome.intro (load_fs rfl (by omega) (by omega) rfl) ?_) | (refine onSome.intro (idx_ms rfl rfl rfl (by omega) (by omega)) ?_) | (refine onSome.intro (load_ms rfl rfl (by omega) (by omega) rfl) ?_) | (refine And.intro rfl ?_) | (refine And.intro (load_fs rfl (by omega) (by omega) rfl) ?_) | (refine And.intro (idx_fs rfl rfl (by omega) (by omega) (fun _ => rfl)) ?_) | (refine And.intro (load_ms rfl rfl (by omega) (by omega) rfl) ?_) | (refine And.intro (idx_ms rfl rfl rfl (by omega) (by omega)) ?_))
            conv => whnf
            refine .nil (.inl rfl) rfl (by simp) (fun e he => by simp at he; subst he; rfl) (fun e he c hc => by simp at he; subst he; simp at hc; subst hc; rfl) (n' := 1) rfl (by omega) ?_
            repeat' ((conv => whnf); first | (refine condP.dec (fun _ => ?_) (fun h => absurd (by omega) h)) | (refine .i64 (by omega) (by omega) ?_) | (refine onSome.intro (idx_fs rfl rfl (by omega) (by omega) (fun _ => rfl)) ?_) | (refine onSome.intro (load_fs rfl (by omega) (by omega) rfl) ?_) | (refine onSome.intro (idx_ms rfl rfl rfl (by omega) (by omega)) ?_) | (refine onSome.intro (load_ms rfl rfl (by omega) (by omega) rfl) ?_) | (refine And.intro rfl ?_) | (refine And.intro (load_fs rfl (by omega) (by omega) rfl) ?_) | (refine And.intro (idx_fs rfl rfl (by omega) (by omega) (fun _ => rfl)) ?_) | (refine And.intro (load_ms rfl rfl (by omega) (by omega) rfl) ?_) | (refine And.intro (idx_ms rfl rfl rfl (by omega) (by omega)) ?_))
            conv => whnf
            refine .more ([max (u1) (at' (at' tl ((tl.length : Int) - 1)) (0 : Int))], [max (u2) (at' (at' th ((tl.length : Int) - 1)) (0 : Int))], s2) [0, 1, 2, 3, 4, 5, 7, 9] rfl ⟨by simp; omega, hr.snoc (by show vc wl tl.length 0 ≤ _; omega) (by show _ ∧ _ ≤ vc wh tl.length 0; omega) (fun q => by show vc tl (tl.length - 1) 0 ≤ _ ∧ vc th (tl.length - 1) 0 ≤ _; omega) (fun q => by simp at q)⟩ (by simp; omega) rfl ⟨.pt rfl, .same (.bool _), .pt rfl, .pt rfl, .pt rfl, .same (.int _ _), .ms rfl, .ms rfl, .same (.int _ _), trivial⟩ ?_
            dsimp only
            rw [own2_ne (by simp)]
            exact ⟨.same (S1_no _), .same (SF_no _ _ _ _), .same SR_no, SM_mv (.ms rfl) (.ms rfl), .same noS_rows, .same noS_rows, .same (noS_ints (l := [max (u1) (at' (at' tl ((tl.length : Int) - 1)) (0 : Int))])), .same (noS_ints (l := [max (u2) (at' (at' th ((tl.length : Int) - 1)) (0 : Int))])), trivial⟩
          · have hpos : 0 < rl.length := List.length_pos_iff.mpr hrn
            have fC : at' rl ((rl.length : Int) - 1) = nth rl (rl.length - 1) := by rw [show ((rl.length : Int) - 1) = ((rl.length - 1 : Nat) : Int) by omega]; rfl
            have fD : at' rh ((rl.length : Int) - 1) = nth rh (rl.length - 1) := by rw [show ((rl.length : Int) - 1) = ((rl.length - 1 : Nat) : Int) by omega]; rfl
            have bC : nth rl (rl.length - 1) ≤ nth rh (rl.length - 1) ∧ nth rh (rl.length - 1) ≤ vc wh tl.length rl.length := by
              have := hr.at_ (rl.length - 1) (by omega)
              have up := (F.upP tl.length (rl.length - 1) (by omega) (by omega)).2
              rw [show rl.length - 1 + 1 = rl.length by omega] at up
              exact ⟨this.hi.1, Int.le_trans this.hi.2 up⟩
            have hrn' : rh ≠ [] := by rintro rfl; simp at hrl; omega
            rw [omsl_ne hrn, omsl_ne hrn', own2_ne hrn]
            have fWl : at' (at' wl (tl.length : Int)) (rl.length : Int) = vc wl tl.length rl.length := rfl
            have fWh : at' (at' wh (tl.length : Int)) (rl.length : Int) = vc wh tl.length rl.length := rfl
            have qa := Between_any s (at' (at' wl (tl.length : Int)) (rl.length : Int)) (at' (at' wh (tl.length : Int)) (rl.length : Int)) (by omega) (by omega) (by omega)
            obtain ⟨u1, s1, a1, a2, k1⟩ := qa
            have qb := Between_any s1 (max (max (u1) (at' (at' tl ((tl.length : Int) - 1)) (rl.length : Int))) (at' rl ((rl.length : Int) - 1))) (at' (at' wh (tl.length : Int)) (rl.length : Int)) (by omega) (by omega) (by omega)
            obtain ⟨u2, s2, b1, b2, k2⟩ := qb
            conv => whnf
            refine condP.dec (fun _ => ?_) (fun h => absurd (by omega) h)
            repeat' ((conv => whnf); first | (refine condP.dec (fun _ => ?_) (fun h => absurd (by omega) h)) | (refine .i64 (by omega) (by omega) ?_) | (refine onSome.intro (idx_fs rfl rfl (by omega) (by omega) (fun _ => rfl)) ?_) | (refine onSome.intro (load_fs rfl (by omega) (by omega) rfl) ?_) | (refine onSome.intro (idx_ms rfl rfl rfl (by omega) (by omega)) ?_) | (refine onSome.intro (load_ms rfl rfl (by omega) (by omega) rfl) ?_) | (refine And.intro rfl ?_) | (refine And.intro (load_fs rfl (by omega) (by omega) rfl) ?_) | (refine And.intro (idx_fs rfl rfl (by omega) (by omega) (fun _ => rfl)) ?_) | (refine And.intro (load_ms rfl rfl (by omega) (by omega) rfl) ?_) | (refine And.intro (idx_ms rfl rfl rfl (by omega) (by omega)) ?_))
            conv => whnf
            refine CallP.one (fun H hb => k1 H _ hb) rfl ?_
            repeat' ((conv => whnf); first | (refine condP.dec (fun _ => ?_) (fun h => absurd (by omega) h)) | (refine .i64 (by omega) (by omega) ?_) | (refine onSome.intro (idx_fs rfl rfl (by omega) (by omega) (fun _ => rfl)) ?_) | (refine onSome.intro (load_fs rfl (by omega) (by omega) rfl) ?_) | (refine onSome.intro (idx_ms rfl rfl rfl (by omega) (by omega)) ?_) | (refine onSome.intro (load_ms rfl rfl (by omega) (by omega) rfl) ?_) | (refine And.intro rfl ?_) | (refine And.intro (load_fs rfl (by omega) (by omega) rfl) ?_) | (refine And.intro (idx_fs rfl rfl (by omega) (by omega) (fun _ => rfl)) ?_) | (refine And.intro (load_ms rfl rfl (by omega) (by omega) rfl) ?_) | (refine And.intro (idx_ms rfl rfl rfl (by omega) (by omega)) ?_))
            conv => whnf
            refine CallP.one (fun H hb => k2 H _ hb) rfl ?_
            repeat' ((conv => whnf); first | (refine condP.dec (fun _ => ?_) (fun h => absurd (by omega) h)) | (refine .i64 (by omega) (by omega) ?_) | (refine onSome.intro (idx_fs rfl rfl (by omega) (by omega) (fun _ => rfl)) ?_) | (refine onSome.intro (load_fs rfl (by omega) (by omega) rfl) ?_) | (refine onSome.intro (idx_ms rfl rfl rfl (by omega) (by omega)) ?_) | (refine onSome.intro (load_ms rfl rfl (by omega) (by omega) rfl) ?_) | (refine And.intro rfl ?_) | (refine And.intro (load_fs rfl (by omega) (by omega) rfl) ?_) | (refine And.intro (idx_fs rfl rfl (by omega) (by omega) (fun _ => rfl)) ?_) | (refine And.intro (load_ms rfl rfl (by omega) (by omega) rfl) ?_) | (refine And.intro (idx_ms rfl rfl rfl (by omega) (by omega)) ?_))
            conv => whnf
            refine .grow rfl rfl (by simp) (es' := [[.int .i64 (max (max (u1) (at' (at' tl ((tl.length : Int) - 1)) (rl.length : Int))) (at' rl ((rl.length : Int) - 1)))]]) rfl (by simp) (fun e he => by simp at he; subst he; rfl) (fun e he c hc => by simp at he; subst he; simp at hc; subst hc; rfl) (r := rl.map ei ++ [[.int .i64 (max (max (u1) (at' (at' tl ((tl.length : Int) - 1)) (rl.length : Int))) (at' rl ((rl.length : Int) - 1)))]]) rfl (n' := rl.length + 1) (by simp) (by omega) ?_
            repeat' ((conv => whnf); first | (refine condP.dec (fun _ => ?_) (fun h => absurd (by omega) h)) | (refine .i64 (by omega) (by omega) ?_) | (refine onSome.intro (idx_fs rfl rfl (by omega) (by omega) (fun _ => rfl)) ?_) | (refine onSome.intro (load_fs rfl (by omega) (by omega) rfl) ?_) | (refine onSome.intro (idx_ms rfl rfl rfl (by omega) (by omega)) ?_) | (refine onSome.intro (load_ms rfl rfl (by omega) (by omega) rfl) ?_) | (refine And.intro rfl ?_) | (refine And.intro (load_fs rfl (by omega) (by omega) rfl) ?_) | (refine And.intro (idx_fs rfl rfl (by omega) (by omega) (fun _ => rfl)) ?_) | (refine And.intro (load_ms rfl rfl (by omega) (by omega) rfl) ?_) | (refine And.intro (idx_ms rfl rfl rfl (by omega) (by omega)) ?_))
            conv => whnf
            refine .grow rfl rfl (by simp) (es' := [[.int .i64 (max (max (u2) (at' (at' th ((tl.length : Int) - 1)) (rl.length : Int))) (at' rh ((rl.length : Int) - 1)))]]) rfl (by simp) (fun e he => by simp at he; subst he; rfl) (fun e he c hc => by simp at he; subst he; simp at hc; subst hc; rfl) (r := rh.map ei ++ [[.int .i64 (max (max (u2) (at' (at' th ((tl.length : Int) - 1)) (rl.length : Int))) (at' rh ((rl.length : Int) - 1)))]]) rfl (n' := rh.length + 1) (by simp) (by omega) ?_
            repeat' ((conv => whnf); first | (refine condP.dec (fun _ => ?_) (fun h => absurd (by omega) h)) | (refine .i64 (by omega) (by omega) ?_) | (refine onSome.intro (idx_fs rfl rfl (by omega) (by omega) (fun _ => rfl)) ?_) | (refine onSome.intro (load_fs rfl (by omega) (by omega) rfl) ?_) | (refine onSome.intro (idx_ms rfl rfl rfl (by omega) (by omega)) ?_) | (refine onSome.intro (load_ms rfl rfl (by omega) (by omega) rfl) ?_) | (refine And.intro rfl ?_) | (refine And.intro (load_fs rfl (by omega) (by omega) rfl) ?_) | (refine And.intro (idx_fs rfl rfl (by omega) (by omega) (fun _ => rfl)) ?_) | (refine And.intro (load_ms rfl rfl (by omega) (by omega) rfl) ?_) | (refine And.intro (idx_ms rfl rfl rfl (by omega) (by omega)) ?_))
            conv => whnf
            refine .more (rl ++ [max (max (u1) (at' (at' tl ((tl.length : Int) - 1)) (rl.length : Int))) (at' rl ((rl.length : Int) - 1))], rh ++ [max (max (u2) (at' (at' th ((tl.length : Int) - 1)) (rl.length : Int))) (at' rh ((rl.length : Int) - 1))], s2) [0, 1, 2, 3, 4, 5, 9, 11] rfl ⟨by simp; omega, hr.snoc (by omega) (by omega) (by omega) (by omega)⟩ (by simp; omega) rfl ⟨.pt rfl, .same (.bool _), .pt rfl, .pt rfl, .pt rfl, .same (.int _ _), .grown rfl (by simp) (by simp), .grown rfl (by simp) (by simp), .nn (.int _ _) (frz_int (by simp)), trivial⟩ ?_
            dsimp only
            rw [own2_ne (by simp)]
            exact ⟨.same (S1_no _), .same (SF_no _ _ _ _), .same SR_no, SM_mv (.ms rfl) (.ms rfl), .same noS_rows, .same noS_rows, .snoc, .snoc, trivial⟩
        · have hrn : rl ≠ [] := List.ne_nil_of_length_pos (by omega)
          have hrn' : rh ≠ [] := List.ne_nil_of_length_pos (by omega)
          have sn := ht.snoc hr (by omega)
          rw [omsl_ne hrn, omsl_ne hrn', own2_ne hrn]
          conv => whnf
          refine condP.dec (fun h => absurd h (by omega)) (fun _ => ?_)
          conv => whnf
          refine .done (by simp) ?_
          conv => whnf
          refine .grow rfl rfl (by simp) (es' := [[.mslice 6 0 rl.length rl.length false]]) rfl (by simp) (fun e he => by simp at he; subst he; rfl) (fun e he c hc => by simp at he; subst he; simp at hc; subst hc; rfl) (r := tl.map el ++ [[.mslice 6 0 rl.length rl.length false]]) rfl (n' := tl.length + 1) (by simp) (by omega) ?_
          repeat' ((conv => whnf); first | (refine condP.dec (fun _ => ?_) (fun h => absurd (by omega) h)) | (refine .i64 (by omega) (by omega) ?_) | (refine onSome.intro (idx_fs rfl rfl (by omega) (by omega) (fun _ => rfl)) ?_) | (refine onSome.intro (load_fs rfl (by omega) (by omega) rfl) ?_) | (refine onSome.intro (idx_ms rfl rfl rfl (by omega) (by omega)) ?_) | (refine onSome.intro (load_ms rfl rfl (by omega) (by omega) rfl) ?_) | (refine And.intro rfl ?_) | (refine And.intro (load_fs rfl (by omega) (by omega) rfl) ?_) | (refine And.intro (idx_fs rfl rfl (by omega) (by omega) (fun _ => rfl)) ?_) | (refine And.intro (load_ms rfl rfl (by omega) (by omega) rfl) ?_) | (refine And.intro (idx_ms rfl rfl rfl (by omega) (by omega)) ?_))
          conv => whnf
          refine .grow rfl rfl (by simp) (es' := [[.mslice 7 0 rh.length rh.length false]]) rfl (by simp) (fun e he => by simp at he; subst he; rfl) (fun e he c hc => by simp at he; subst he; simp at hc; subst hc; rfl) (r := th.map el ++ [[.mslice 7 0 rh.length rh.length false]]) rfl (n' := th.length + 1) (by simp) (by omega) ?_
          repeat' ((conv => whnf); first | (refine condP.dec (fun _ => ?_) (fun h => absurd (by omega) h)) | (refine .i64 (by omega) (by omega) ?_) | (refine onSome.intro (idx_fs rfl rfl (by omega) (by omega) (fun _ => rfl)) ?_) | (refine onSome.intro (load_fs rfl (by omega) (by omega) rfl) ?_) | (refine onSome.intro (idx_ms rfl rfl rfl (by omega) (by omega)) ?_) | (refine onSome.intro (load_ms rfl rfl (by omega) (by omega) rfl) ?_) | (refine And.intro rfl ?_) | (refine And.intro (load_fs rfl (by omega) (by omega) rfl) ?_) | (refine And.intro (idx_fs rfl rfl (by omega) (by omega) (fun _ => rfl)) ?_) | (refine And.intro (load_ms rfl rfl (by omega) (by omega) rfl) ?_) | (refine And.intro (idx_ms rfl rfl rfl (by omega) (by omega)) ?_))
          conv => whnf
          refine .more (tl ++ [rl], th ++ [rh], s) [0, 1, 2, 3, 9, 11] rfl ⟨by simp; omega, sn⟩ (by simp; omega) rfl ⟨.pt rfl, .same (.bool _), .pt rfl, .pt rfl, .pt rfl, .nn (.int _ _) (frz_int (by simp)), trivial⟩ ?_
          dsimp only
          rw [own2_ne (by simp)]
          exact ⟨.same (S1_no _), .same (SF_no _ _ _ _), .same SR_no, SM_mv (.grown rfl (by simp) (by simp)) (.grown rfl (by simp) (by simp)),
            .nn noS_rows (row_frz (rows := tl) rfl (fun _ _ h => by cases h) rfl rfl).slot, .nn noS_rows (row_frz (rows := th) rfl (fun _ _ h => by cases h) rfl rfl).slot, trivial⟩
    · have htn : tl ≠ [] := List.ne_nil_of_length_pos (by omega)
      have htn' : th ≠ [] := List.ne_nil_of_length_pos (by omega)
      have fo := ht.fam F (by omega)
      rw [omsl_ne htn, omsl_ne htn', own2_ne htn]
      conv => whnf
      refine condP.dec (fun h => absurd h (by omega)) (fun _ => ?_)
      conv => whnf
      refine .done (by simp) ?_
      conv => whnf
      exact .intro (famI g p tl th) (S1 s) ⟨tl, th, s, rfl, fo, rfl⟩ (famI_no ..) (S1_no _) (.one (.inl rfl) rfl rfl (.aggL (.cons (.refl _) (.cons (.refl _) (.cons (.whole (sz := 1) rfl (fun _ _ h => by cases h) (by simp) (.refl _)) (.cons (.whole (sz := 1) rfl (fun _ _ h => by cases h) (by simp) (.refl _)) .nil))))) (famI_no ..)))
  obtain ⟨v, z, ⟨lo, hi, s', rfl, fo, rfl⟩, _, _, hh⟩ := key
  exact ⟨lo, hi, s', fo.1, fo.2, fun H n hn => hh H n hn⟩
theorem WithinFamily_ok {g p : List Int} {wl wh : List (List Int)} (F : FamOk g p wl wh) (s : Int) (tube : Bool) : ∃ (lo hi : List (List Int)) (s' : Int), FamOk g p lo hi ∧ (∀ i k, i < g.length → k < p.length → vc wl i k ≤ vc lo i k ∧ vc hi i k ≤ vc wh i k) ∧
    ∀ (H : Heap) (n : Nat), H n = S1 s → Ev T (.call (.func (.func 43) [] []) [.ptr n 0 0, famI g p wl wh, .bool tube] H) (.call (famI g p lo hi) (H.set n (S1 s'))) := by
  cases tube with
  | true => exact WithinFamilyT_ok F s
  | false => exact WithinFamilyN_ok F s
end Go.Proofs.Ytbomgfbfnkfamaa.I
