/- Strains that are possible in truth. -/
import Derived.Test.YtpbadgghhiommaaGmono
set_option linter.unusedVariables false
set_option maxHeartbeats 32000000
set_option linter.unusedSimpArgs false
namespace Go.Proofs.Ytpbadgghhiommaa.I
open Go.Ideal

/-- A strain within bounds stays within them. -/
theorem truth_step {z : Zone} (hg : 0 ≤ z.gl ∧ z.gl ≤ z.gh ∧ z.gh ≤ 100000) (hr : 0 ≤ z.rl ∧ z.rl ≤ z.rh ∧ z.rh ≤ 1000000) {k lo hi x y d a : Int} (hk : 0 ≤ k) (hy : 0 ≤ y) (h0 : 0 ≤ lo) (h1 : lo ≤ x) (h2 : x ≤ hi) (h3 : x ≤ 1099511627776)
    (d0 : x * z.rl / 1000000 ≤ d) (d1 : d ≤ up (x * z.rh) 1000000) (a0 : y * k * z.gl / 100 ≤ a) (a1 : a ≤ up (y * k * z.gh) 100) : stepLo z k lo y ≤ min (x - d + a) 1099511627776 ∧ min (x - d + a) 1099511627776 ≤ stepHi z k hi y := by
  have g1 := left_lo h1 (show 0 ≤ z.rh by omega) hr.2.2
  have g2 := left_hi h2 hr.1 (show z.rl ≤ 1000000 by omega)
  unfold stepLo stepHi
  omega
structure TruthN (p : Nat → Int × Int) (l : List Int) (n : Nat) : Prop where
  len : l.length = n + 1
  at_ : ∀ i : Nat, i ≤ n → (p i).1 ≤ at' l (i : Int) ∧ at' l (i : Int) ≤ (p i).2
theorem TruthN.next {p : Nat → Int × Int} {l : List Int} {n : Nat} (h : TruthN p l n) {x : Int} (hx : (p (n + 1)).1 ≤ x ∧ x ≤ (p (n + 1)).2) : TruthN p (l ++ [x]) (n + 1) := by
  have hl := h.len
  refine ⟨by simp [hl], fun i hi => ?_⟩
  by_cases q : i = n + 1
  · subst q
    rw [at_snoc (by rw [hl])]; exact hx
  · rw [at_left (by omega) (by rw [hl]; omega)]
    exact h.at_ i (by omega)

theorem StrainsOf_any (s b : Int) (zs : List Zone) (k f : Int) (ls : List Leg) (hZ : ZOk zs) (hk : 1 ≤ k) (hk1 : k ≤ 1000) (hO : OOk f ls) : ∃ (l : List Int) (s' : Int), TruthN (rs zs k (allH f ls ls.length)) l (totT ls ls.length) ∧
    ∀ (H : Heap) (n : Nat), H n = S1 s → Ev T (.call (.func (.func 67) [] []) [.ptr n 0 0, stuffI b zs, .int .i64 k, ovenI f ls] H) (.call (sl l) (H.set n (S1 s'))) := by
  have key := run_one_some T67 (i := 0) (off := 0) (args := [stuffI b zs, .int .i64 k, ovenI f ls]) (s := S1 s) (P := fun v z => ∃ (l : List Int) (s' : Int), v = sl l ∧ z = S1 s' ∧ TruthN (rs zs k (allH f ls ls.length)) l (totT ls ls.length))
    (nn_cons (stuffI_no _ _) (nn_cons (nn_int _ _) (nn_cons (ovenI_no _ _) nn_none))) (S1_no _) (by
    have hOl := hO.len
    have htt := totT_le hO ls.length (Nat.le_refl _)
    have kh := rHeats_ok f ls hO
    have hlen := allH_len f ls ls.length
    have hok := gS_ok hZ (show 0 ≤ k by omega) hk1 hO ls.length (Nat.le_refl _)
    have hzl := hZ.len
    unfold gS at hok
    generalize allH f ls ls.length = hs at *
    generalize totT ls ls.length = N at *
    have e3 : (hs.map ei).length = hs.length := List.length_map ..
    have q := Upto_any s 4 (by omega)
    obtain ⟨u, s1, u0, u1, ku⟩ := q
    have hrs : ∀ m : Nat, rs zs k hs (m + 1) = (stepLo (zoneOf zs (at' hs ((m : Int) + 1))) k (rs zs k hs m).1 (max (at' hs ((m : Int) + 1) - at' hs (m : Int)) (at' hs (m : Int) - at' hs ((m : Int) + 1))), stepHi (zoneOf zs (at' hs ((m : Int) + 1))) k (rs zs k hs m).2 (max (at' hs ((m : Int) + 1) - at' hs (m : Int)) (at' hs (m : Int) - at' hs ((m : Int) + 1)))) := fun _ => rfl
    have hr0 : rs zs k hs 0 = (0, 0) := rfl
    generalize rs zs k hs = p at *
    have hT0 : TruthN p [0] 0 := ⟨rfl, fun i hi => by
      obtain rfl : i = 0 := by omega
      rw [hr0]
      exact ⟨Int.le_refl _, Int.le_refl _⟩⟩
    conv => whnf
    refine CallP.pure kh ?_
    conv => whnf
    refine CallP.one (fun H hb => ku H _ hb) rfl ?_
    conv => whnf
    refine loop_grow (X := Nat × Bool × List Int × Int) (fun x => [(0, .ptr 0 0 0), (2, .int .i64 k), (5, .ptr 1 0 0), (9, sl hs), (10, .mslice 3 0 (x.1 + 1) (x.1 + 1) x.2.1), (11, .int .i64 u), (12, .int .i64 ((x.1 : Int) + 1))]) (fun x => [S1 x.2.2.2, .live 2 [[.int .i64 b, zsl zs]], .live 2 [[.int .i64 f, lsl ls]], .live 1 (x.2.2.1.map ei)])
      (fun x => N - x.1) (fun x => x.1 ≤ N ∧ TruthN p x.2.2.1 x.1) (0, true, [0], s1) ⟨Nat.zero_le _, hT0⟩ ⟨rfl, rfl, rfl, rfl, rfl, rfl, rfl, trivial⟩ rfl (fun x hx => ?_)
    obtain ⟨m, ex, out, s⟩ := x
    have hm := hx.1
    have hT := hx.2
    dsimp only at hm hT ⊢
    clear hx
    have hol := hT.len
    rcases Nat.lt_or_ge m N with hlt | hge
    · have o1 := hok m (by omega)
      have o2 := hok (m + 1) (by omega)
      have t1 := o1.t
      have t2 := o2.t
      have l1 := o1.lo
      have l2 := o1.hi
      dsimp only at t1 t2 l1 l2
      have ea : at' hs ((m : Int) + 1 - 1) = at' hs (m : Int) := by rw [show (m : Int) + 1 - 1 = m by omega]
      have eb : at' hs ((m + 1 : Nat) : Int) = at' hs ((m : Int) + 1) := by rw [show ((m + 1 : Nat) : Int) = (m : Int) + 1 by omega]
      rw [eb] at t2
      have hTm := hT.at_ m (Nat.le_refl _)
      have ec : at' out ((m : Int) + 1 - 1) = at' out (m : Int) := by rw [show (m : Int) + 1 - 1 = m by omega]
      have kz := ZoneOf_ok b zs hZ.pos (by omega) (at' hs ((m : Int) + 1))
      have hg := zoneOf_gr hZ (at' hs ((m : Int) + 1))
      have hr := zoneOf_re hZ (at' hs ((m : Int) + 1))
      have hrs := hrs m
      generalize zoneOf zs (at' hs ((m : Int) + 1)) = z at *
      clear o1 o2 hok eb
      generalize hA : at' hs ((m : Int) + 1) = A at *
      generalize hB : at' hs (m : Int) = B at *
      generalize hC : at' out (m : Int) = x at *
      have hd : ∃ d, d = max (A - B) (B - A) := ⟨_, rfl⟩
      obtain ⟨d, hd⟩ := hd
      rw [← hd] at hrs
      have hN := fun w hw => hT.next (x := w) hw
      rw [hrs] at hN
      have kad := Adds_ok z k d hg (by omega) hk1 (by omega) (by omega)
      have krl := Relaxes_ok z x x hr (by omega) (by omega) (by omega) (by omega)
      have tst := fun dd aa => truth_step hg hr (k := k) (lo := (p m).1) (hi := (p m).2) (x := x) (y := d) (d := dd) (a := aa) (by omega) (by omega) l1.1 hTm.1 hTm.2 (by omega)
      have b1 := mul_in (show 0 ≤ d by omega) (show d ≤ 2000 by omega) (show 0 ≤ k by omega) hk1
      have sf := step_facts hg hr (show 0 ≤ k by omega) hk1 (lo := x) (hi := x) (by omega) (by omega) (by omega) (by omega) (y := d) (by omega) (by omega)
      obtain ⟨_, _, _, _, _, f6, f7, f8, f9⟩ := sf
      have f10 := loss_le (a := x) (r := z.rl) (q := z.rh) (by omega) (by omega)
      have f11 : d * k * z.gl / 100 ≤ up (d * k * z.gh) 100 := by
        have h1 := up_ge (d * k * z.gh) (d := 100) (by omega)
        have : d * k * z.gl ≤ d * k * z.gh := Int.mul_le_mul_of_nonneg_left hg.2.1 (by omega)
        omega
      generalize d * k * z.gl / 100 = a1 at *
      generalize up (d * k * z.gh) 100 = a2 at *
      generalize x * z.rl / 1000000 = r1 at *
      generalize up (x * z.rh) 1000000 = r2 at *
      have q := In_any s r1 r2 f10 (by omega) (by omega)
      obtain ⟨w1, t3, w10, w11, kw1⟩ := q
      have q := In_any t3 a1 a2 f11 (by omega) (by omega)
      obtain ⟨w2, t4, w20, w21, kw2⟩ := q
      have n1 := hN _ (tst r2 a1 (by omega) (by omega) (by omega) (by omega))
      have n2 := hN _ (tst r1 a2 (by omega) (by omega) (by omega) (by omega))
      have n3 := hN _ (tst w1 w2 (by omega) (by omega) (by omega) (by omega))
      clear hN tst
      repeat' ((conv => whnf); first | (refine condP.dec (fun _ => ?_) (fun h => absurd (by omega) h)) | (rw [← hd]) | (refine onSome.intro (idx_ms rfl rfl rfl (by omega) (by omega)) ?_) | (refine onSome.intro (load_fs (l := hs) (enc := ei) (i := (m : Int) + 1) (v := .int .i64 A) rfl (by omega) (by omega) (by rw [hA]; rfl)) ?_) | (refine onSome.intro (load_fs (l := hs) (enc := ei) (i := (m : Int) + 1 - 1) (v := .int .i64 B) rfl (by omega) (by omega) (by rw [ea]; rfl)) ?_) | (refine onSome.intro (load_ms (l := out) (enc := ei) (i := (m : Int) + 1 - 1) (v := .int .i64 x) rfl rfl (by omega) (by omega) (by rw [ec]; rfl)) ?_) | (refine CallP.pure kz ?_) | (refine CallP.pure kad ?_) | (refine CallP.pure krl ?_) | (refine CallP.one (fun H hb => kw1 H _ hb) rfl ?_) | (refine CallP.one (fun H hb => kw2 H _ hb) rfl ?_) | (first | refine condP.dec (fun h => ?_) (fun h => ?_) | refine condP.eq (fun h => ?_) (fun h => ?_) | refine condP.ne (fun h => ?_) (fun h => ?_)) | (refine .i64 (by omega) (by omega) ?_) | (refine onSome.intro (idx_fs rfl rfl (by omega) (by omega) (fun _ => rfl)) ?_) | (refine onSome.intro (load_fs rfl (by omega) (by omega) rfl) ?_) | (refine And.intro rfl ?_))
      all_goals first | (exfalso; omega) | skip
      all_goals (conv => whnf)
      · refine .grow (ex := ex) (n := m + 1) (es := out.map ei) (es' := [[.int .i64 (min (x - r2 + a1) 1099511627776)]]) rfl rfl (by rw [List.length_map, hol]) rfl (by simp) (fun e he => by simp at he; subst he; rfl) (fun e he c hc => by simp at he; subst he; simp at hc; subst hc; rfl)
          (r := out.map ei ++ [[.int .i64 (min (x - r2 + a1) 1099511627776)]]) rfl (n' := m + 1 + 1) (by simp [hol]) (by omega) ?_
        (repeat ((conv => whnf); refine And.intro rfl ?_)); conv => whnf
        refine .i64 (by omega) (by omega) ?_
        conv => whnf
        exact .more (m + 1, false, out ++ [min (x - r2 + a1) 1099511627776], s) [0, 1, 2, 8] rfl ⟨by dsimp only; omega, n1⟩ (by dsimp only; omega) rfl ⟨.pt rfl, .same (.int _ _), .pt rfl, .same (sl_no _), .ms rfl, .same (.int _ _), .nn (.int _ _) (frz_int (by dsimp only; omega)), trivial⟩
          ⟨.same (S1_no _), .same (noS_row (stuff_row _ _)), .same (noS_row (oven_row _ _)), (by
            show MvS _ _ _ _ (.live 1 ((out ++ [min (x - r2 + a1) 1099511627776]).map ei))
            rw [List.map_append]
            exact .same (s := .live 1 (out.map ei ++ [min (x - r2 + a1) 1099511627776].map ei)) (by rw [← List.map_append]; exact noS_map (fun _ => nn_cons (.int _ _) nn_none))), trivial⟩
      · refine .grow (ex := ex) (n := m + 1) (es := out.map ei) (es' := [[.int .i64 (min (x - r1 + a2) 1099511627776)]]) rfl rfl (by rw [List.length_map, hol]) rfl (by simp) (fun e he => by simp at he; subst he; rfl) (fun e he c hc => by simp at he; subst he; simp at hc; subst hc; rfl)
          (r := out.map ei ++ [[.int .i64 (min (x - r1 + a2) 1099511627776)]]) rfl (n' := m + 1 + 1) (by simp [hol]) (by omega) ?_
        (repeat ((conv => whnf); refine And.intro rfl ?_)); conv => whnf
        refine .i64 (by omega) (by omega) ?_
        conv => whnf
        exact .more (m + 1, false, out ++ [min (x - r1 + a2) 1099511627776], s) [0, 1, 2, 8] rfl ⟨by dsimp only; omega, n2⟩ (by dsimp only; omega) rfl ⟨.pt rfl, .same (.int _ _), .pt rfl, .same (sl_no _), .ms rfl, .same (.int _ _), .nn (.int _ _) (frz_int (by dsimp only; omega)), trivial⟩
          ⟨.same (S1_no _), .same (noS_row (stuff_row _ _)), .same (noS_row (oven_row _ _)), (by
            show MvS _ _ _ _ (.live 1 ((out ++ [min (x - r1 + a2) 1099511627776]).map ei))
            rw [List.map_append]
            exact .same (s := .live 1 (out.map ei ++ [min (x - r1 + a2) 1099511627776].map ei)) (by rw [← List.map_append]; exact noS_map (fun _ => nn_cons (.int _ _) nn_none))), trivial⟩
      · refine .grow (ex := ex) (n := m + 1) (es := out.map ei) (es' := [[.int .i64 (min (x - w1 + w2) 1099511627776)]]) rfl rfl (by rw [List.length_map, hol]) rfl (by simp) (fun e he => by simp at he; subst he; rfl) (fun e he c hc => by simp at he; subst he; simp at hc; subst hc; rfl)
          (r := out.map ei ++ [[.int .i64 (min (x - w1 + w2) 1099511627776)]]) rfl (n' := m + 1 + 1) (by simp [hol]) (by omega) ?_
        (repeat ((conv => whnf); refine And.intro rfl ?_)); conv => whnf
        refine .i64 (by omega) (by omega) ?_
        conv => whnf
        exact .more (m + 1, false, out ++ [min (x - w1 + w2) 1099511627776], t4) [0, 1, 2, 8] rfl ⟨by dsimp only; omega, n3⟩ (by dsimp only; omega) rfl ⟨.pt rfl, .same (.int _ _), .pt rfl, .same (sl_no _), .ms rfl, .same (.int _ _), .nn (.int _ _) (frz_int (by dsimp only; omega)), trivial⟩
          ⟨.same (S1_no _), .same (noS_row (stuff_row _ _)), .same (noS_row (oven_row _ _)), (by
            show MvS _ _ _ _ (.live 1 ((out ++ [min (x - w1 + w2) 1099511627776]).map ei))
            rw [List.map_append]
            exact .same (s := .live 1 (out.map ei ++ [min (x - w1 + w2) 1099511627776].map ei)) (by rw [← List.map_append]; exact noS_map (fun _ => nn_cons (.int _ _) nn_none))), trivial⟩
    · obtain rfl : m = N := by omega
      conv => whnf
      refine condP.dec (fun h => absurd h (by omega)) (fun _ => ?_)
      conv => whnf
      refine .done (by simp) ?_
      conv => whnf
      exact .intro (sl out) (S1 s) ⟨out, s, rfl, rfl, hT⟩ (sl_no _) (S1_no _) (.one (u := .mslice 3 0 (m + 1) (m + 1) ex) (.inl rfl) rfl rfl (.ints rfl (fun _ _ h => by cases h) hol.symm) (sl_no _)))
  obtain ⟨v, z, ⟨l, s', rfl, rfl, ht⟩, _, _, hh⟩ := key
  exact ⟨l, s', ht, fun H n hn => hh H n hn⟩

end Go.Proofs.Ytpbadgghhiommaa.I
