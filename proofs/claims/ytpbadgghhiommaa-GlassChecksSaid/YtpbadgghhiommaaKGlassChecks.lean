/- GlassChecks runs to true. -/
import Derived.Test.YtpbadgghhiommaaGnew
import Derived.Test.YtpbadgghhiommaaGown
import Derived.Test.YtpbadgghhiommaaGfires
import Derived.Test.YtpbadgghhiommaaKGlassRelaxes
set_option linter.unusedVariables false
set_option maxHeartbeats 32000000
set_option linter.unusedSimpArgs false
namespace Go.Proofs.Ytpbadgghhiommaa.I
open Go.Ideal

theorem GlassChecks_ok (b1 : Int) (z1 : List Zone) (f1 : Int) (l1 : List Leg) (l : List Fire) (nums : List Int) (z : Zone) (g : Leg) (h1 : z1.length ≤ 9223372036854775807) (h2 : l1.length ≤ 9223372036854775807) (hl : l.length ≤ 9223372036854775807) (hla : ∀ f ∈ l, f.aft.length ≤ 9223372036854775807) (hn : nums.length ≤ 9223372036854775807) (H : Heap) :
    Ev T (.call (.func (.func 3) [] []) [stuffI b1 z1, ovenI f1 l1, frsl l, sl nums, zoneI z, .agg (lr g)] H) (.call (.bool true) H) := by
  refine run_pure T3 (nn_bool _) (nn_cons (stuffI_no _ _) (nn_cons (ovenI_no _ _) (nn_cons (frsl_no _) (nn_cons (sl_no _) (nn_cons (nn_agg (zr_no z)) (nn_cons (nn_agg (lr_no g)) nn_none)))))) ?_ H
  have e1 : (z1.map zr).length = z1.length := List.length_map ..
  have e2 : (l1.map lr).length = l1.length := List.length_map ..
  have e3 : (l.map frR).length = l.length := List.length_map ..
  have haL : ∀ i : Nat, i < l.length → (at' l (i : Int)).aft.length ≤ 9223372036854775807 := fun i hi => by rw [at'_get hi]; exact hla _ (List.getElem_mem hi)
  have q := long_any l hl haL
  obtain ⟨lb, hlb, klong⟩ := q
  by_cases hlong : z1.length ≤ 30 ∧ l1.length ≤ 30 ∧ lb = false
  rotate_left
  · cases lb
    all_goals repeat' ((conv => whnf); first | (refine CallP.pure klong ?_) | (refine CallP.pure awake_ok ?_) | (first | refine condP.dec (fun h => ?_) (fun h => ?_) | refine condP.eq (fun h => ?_) (fun h => ?_) | refine condP.ne (fun h => ?_) (fun h => ?_)) | (refine .i64 (by omega) (by omega) ?_) | (refine onSome.intro (idx_fs rfl rfl (by omega) (by omega) (fun _ => rfl)) ?_) | (refine onSome.intro (load_fs rfl (by omega) (by omega) rfl) ?_) | (refine And.intro rfl ?_))
    all_goals first | (exfalso; simp only [and_true, and_false, not_and, Nat.not_le] at hlong; omega) | skip
    all_goals conv => whnf
    all_goals exact PureP.intro (.bool true) (.inl rfl) rfl (.refl _)
  obtain ⟨l30, l31, rfl⟩ := hlong
  have hnl : ¬ LongF l := fun h => by have := hlb.mpr h; cases this
  have hll : l.length ≤ 12 := by
    rcases Nat.lt_or_ge 12 l.length with h | h
    · exact absurd (.inr h) hnl
    · exact h
  have hl20 : ∀ i : Nat, i < l.length → (at' l (i : Int)).aft.length ≤ 20 := fun i hi => by
    rcases Nat.lt_or_ge 20 (at' l (i : Int)).aft.length with h | h
    · exact absurd (.inl ⟨i, hi, h⟩) hnl
    · exact h
  have q := NewDice_ok nums hn
  obtain ⟨s, kd⟩ := q
  have q := StuffOf_new s
  obtain ⟨bx, x, s1, bx0, bx1, hx, kx⟩ := q
  have q := OvenOf_new s1 22 50 (by omega) (by omega) (by omega) (by omega)
  obtain ⟨f, ls, s2, fo0, fo1, hlsl, hlg, ko⟩ := q
  have q := FiresOf_any s2 9 (by omega) (by omega)
  obtain ⟨fl, s3, hfl, hfa, kf⟩ := q
  have q := One_any s3 2 (by omega)
  obtain ⟨w1, s4, kw⟩ := q
  have hxp := hx.pos
  have hxl := hx.len
  have ko1 := OwnStuff_ok b1 z1 (by omega)
  have ko2 := OwnOven_ok f1 l1 (by omega)
  have ko3 := OwnFires_ok l (by omega) (fun i hi => by have := hl20 i hi; omega)
  have c1 := Check_ok b1 z1 (by omega)
  have c2 := rCheck_ok b1 z1 (by omega)
  have c3 := CheckOven_ok f1 l1 (by omega)
  have c4 := rCheckOven_ok f1 l1 (by omega)
  have c5 := CheckFires_ok l (by omega) (fun i hi => by have := hl20 i hi; omega)
  have c6 := rCheckFires_ok l (by omega) (fun i hi => by have := hl20 i hi; omega)
  have cf1 := CheckFires_ok fl (by omega) (fun i hi => by have := hfa i hi; omega)
  have cf2 := rCheckFires_ok fl (by omega) (fun i hi => by have := hfa i hi; omega)
  have ss := sames_self b1 z1 (by omega)
  have so := sameo_self f1 l1 (by omega)
  have sf := samef_self l (by omega) (fun i hi => by have := hl20 i hi; omega)
  rcases ls with _ | ⟨l0, ls⟩
  · have hlsl' : True := trivial
    cases w1
    · repeat' ((conv => whnf); first | (refine CallP.pure klong ?_) | (refine CallP.new kd ?_) | (refine CallP.diceNew (v := fun m => .agg [.int .i64 bx, .mslice m 0 x.length x.length false]) (fun H b n hb hn => kx H b n hb hn) rfl ?_) | (refine CallP.diceNew (v := fun m => .agg [.int .i64 f, .nilslice]) (t := .dead) (fun H b n hb hn => ko H b n hb hn) rfl ?_) | (refine CallP.one (fun H hb => kf H _ hb) rfl ?_) | (refine CallP.one (fun H hb => kw H _ hb) rfl ?_) | (refine condP.dec (fun h => absurd h (by omega)) (fun _ => ?_)) | (first | refine condP.dec (fun h => ?_) (fun h => ?_) | refine condP.eq (fun h => ?_) (fun h => ?_) | refine condP.ne (fun h => ?_) (fun h => ?_)) | (refine .i64 (by omega) (by omega) ?_) | (refine onSome.intro (idx_fs rfl rfl (by omega) (by omega) (fun _ => rfl)) ?_) | (refine onSome.intro (load_fs rfl (by omega) (by omega) rfl) ?_) | (refine And.intro rfl ?_))
      all_goals first | (exfalso; omega) | skip
      have hyl : x.length = x.length := rfl
      skip
      have hw : ∀ {H' : Heap}, (∀ sz e, H' 5 ≠ .live sz e) → ∀ {H : Heap}, H 5 = .live 5 (x.map zr) → Frz H H' (.agg [.int .i64 bx, .mslice 5 0 x.length x.length false]) (stuffI bx x) := fun h1 _ h2 => .aggL (.cons (.refl _) (.cons (.whole h2 h1 (by rw [List.length_map, hyl]) (.refl _)) .nil))
      have cx1 := Check_ok bx x (by omega)
      have cx2 := rCheck_ok bx x (by omega)
      repeat' ((conv => whnf); first | (refine CallP.pure ko1 ?_) | (refine CallP.pure ko2 ?_) | (refine CallP.pure ko3 ?_) | (refine CallP.pure c1 ?_) | (refine CallP.pure c2 ?_) | (refine CallP.pure c3 ?_) | (refine CallP.pure c4 ?_) | (refine CallP.pure c5 ?_) | (refine CallP.pure c6 ?_) | (refine condP.same1 ?_) | (refine condP.differ1 ?_) | (refine condP.dec (fun h => absurd h (by omega)) (fun _ => ?_)) | (first | refine condP.dec (fun h => ?_) (fun h => ?_) | refine condP.eq (fun h => ?_) (fun h => ?_) | refine condP.ne (fun h => ?_) (fun h => ?_)) | (refine .i64 (by omega) (by omega) ?_) | (refine onSome.intro (idx_fs rfl rfl (by omega) (by omega) (fun _ => rfl)) ?_) | (refine onSome.intro (load_fs rfl (by omega) (by omega) rfl) ?_) | (refine And.intro rfl ?_))
      all_goals first | (exfalso; omega) | skip
      conv => whnf
      refine CallP.borrow [5] rfl (.cons (hw (fun _ _ h => by cases h) rfl) .nil) (nn_cons (stuffI_no _ _) nn_none) cx1 (.int _ _) ?_
      repeat' ((conv => whnf); first | (refine CallP.pure ko1 ?_) | (refine CallP.pure ko2 ?_) | (refine CallP.pure ko3 ?_) | (refine CallP.pure c1 ?_) | (refine CallP.pure c2 ?_) | (refine CallP.pure c3 ?_) | (refine CallP.pure c4 ?_) | (refine CallP.pure c5 ?_) | (refine CallP.pure c6 ?_) | (refine condP.same1 ?_) | (refine condP.differ1 ?_) | (refine condP.dec (fun h => absurd h (by omega)) (fun _ => ?_)) | (first | refine condP.dec (fun h => ?_) (fun h => ?_) | refine condP.eq (fun h => ?_) (fun h => ?_) | refine condP.ne (fun h => ?_) (fun h => ?_)) | (refine .i64 (by omega) (by omega) ?_) | (refine onSome.intro (idx_fs rfl rfl (by omega) (by omega) (fun _ => rfl)) ?_) | (refine onSome.intro (load_fs rfl (by omega) (by omega) rfl) ?_) | (refine And.intro rfl ?_))
      all_goals first | (exfalso; omega) | skip
      conv => whnf
      refine CallP.borrow [5] rfl (.cons (hw (fun _ _ h => by cases h) rfl) .nil) (nn_cons (stuffI_no _ _) nn_none) cx2 (.int _ _) ?_
      have cy1 := CheckOven_ok f [] (by simp)
      have cy2 := rCheckOven_ok f [] (by simp)
      repeat' ((conv => whnf); first | (refine condP.same1 ?_) | (refine condP.differ1 ?_) | (first | refine condP.dec (fun h => ?_) (fun h => ?_) | refine condP.eq (fun h => ?_) (fun h => ?_) | refine condP.ne (fun h => ?_) (fun h => ?_)) | (refine .i64 (by omega) (by omega) ?_) | (refine onSome.intro (idx_fs rfl rfl (by omega) (by omega) (fun _ => rfl)) ?_) | (refine onSome.intro (load_fs rfl (by omega) (by omega) rfl) ?_) | (refine And.intro rfl ?_))
      conv => whnf
      refine CallP.borrow [] rfl (.cons (.aggL (.cons (.refl _) (.cons .nil .nil))) .nil) (nn_cons (ovenI_no f []) nn_none) cy1 (.int _ _) ?_
      repeat' ((conv => whnf); first | (refine condP.same1 ?_) | (refine condP.differ1 ?_) | (first | refine condP.dec (fun h => ?_) (fun h => ?_) | refine condP.eq (fun h => ?_) (fun h => ?_) | refine condP.ne (fun h => ?_) (fun h => ?_)) | (refine .i64 (by omega) (by omega) ?_) | (refine onSome.intro (idx_fs rfl rfl (by omega) (by omega) (fun _ => rfl)) ?_) | (refine onSome.intro (load_fs rfl (by omega) (by omega) rfl) ?_) | (refine And.intro rfl ?_))
      conv => whnf
      refine CallP.borrow [] rfl (.cons (.aggL (.cons (.refl _) (.cons .nil .nil))) .nil) (nn_cons (ovenI_no f []) nn_none) cy2 (.int _ _) ?_
      repeat' ((conv => whnf); first | (refine condP.same1 ?_) | (refine condP.differ1 ?_) | (refine CallP.pure cf1 ?_) | (refine CallP.pure cf2 ?_) | (refine CallP.pure ss ?_) | (refine CallP.pure so ?_) | (refine CallP.pure sf ?_) | (refine CallP.pure awake_ok ?_) | (first | refine condP.dec (fun h => ?_) (fun h => ?_) | refine condP.eq (fun h => ?_) (fun h => ?_) | refine condP.ne (fun h => ?_) (fun h => ?_)) | (refine .i64 (by omega) (by omega) ?_) | (refine onSome.intro (idx_fs rfl rfl (by omega) (by omega) (fun _ => rfl)) ?_) | (refine onSome.intro (load_fs rfl (by omega) (by omega) rfl) ?_) | (refine And.intro rfl ?_))
      all_goals first | (exfalso; omega) | skip
      all_goals conv => whnf
      all_goals exact PureP.intro (.bool true) (.inl rfl) rfl (.refl _)
    · have q := Upto_any s4 x.length (by omega)
      obtain ⟨u, s5, u0, u1, ku⟩ := q
      repeat' ((conv => whnf); first | (refine CallP.pure klong ?_) | (refine CallP.new kd ?_) | (refine CallP.diceNew (v := fun m => .agg [.int .i64 bx, .mslice m 0 x.length x.length false]) (fun H b n hb hn => kx H b n hb hn) rfl ?_) | (refine CallP.diceNew (v := fun m => .agg [.int .i64 f, .nilslice]) (t := .dead) (fun H b n hb hn => ko H b n hb hn) rfl ?_) | (refine CallP.one (fun H hb => kf H _ hb) rfl ?_) | (refine CallP.one (fun H hb => kw H _ hb) rfl ?_) | (refine CallP.one (fun H hb => ku H _ hb) rfl ?_) | (refine onSome.intro (idx_ms (n := u) rfl rfl rfl (by omega) (by omega)) ?_) | (first | refine condP.dec (fun h => ?_) (fun h => ?_) | refine condP.eq (fun h => ?_) (fun h => ?_) | refine condP.ne (fun h => ?_) (fun h => ?_)) | (refine .i64 (by omega) (by omega) ?_) | (refine onSome.intro (idx_fs rfl rfl (by omega) (by omega) (fun _ => rfl)) ?_) | (refine onSome.intro (load_fs rfl (by omega) (by omega) rfl) ?_) | (refine And.intro rfl ?_))
      all_goals first | (exfalso; omega) | skip
      conv => whnf
      refine onSome.intro (get_enc (l := x) (enc := zr) (i := u.toNat) (by omega)) ?_
      generalize x[u.toNat]'(by omega) = y0
      conv => whnf
      refine store_enc (enc := zr) (l := x) (a := z) (l' := x.set u.toNat z) rfl rfl ?_
      have hyl : (x.set u.toNat z).length = x.length := by rw [List.length_set]
      generalize x.set u.toNat z = ys at *
      skip
      have hw : ∀ {H' : Heap}, (∀ sz e, H' 5 ≠ .live sz e) → ∀ {H : Heap}, H 5 = .live 5 (ys.map zr) → Frz H H' (.agg [.int .i64 bx, .mslice 5 0 x.length x.length false]) (stuffI bx ys) := fun h1 _ h2 => .aggL (.cons (.refl _) (.cons (.whole h2 h1 (by rw [List.length_map, hyl]) (.refl _)) .nil))
      have cx1 := Check_ok bx ys (by omega)
      have cx2 := rCheck_ok bx ys (by omega)
      repeat' ((conv => whnf); first | (refine CallP.pure ko1 ?_) | (refine CallP.pure ko2 ?_) | (refine CallP.pure ko3 ?_) | (refine CallP.pure c1 ?_) | (refine CallP.pure c2 ?_) | (refine CallP.pure c3 ?_) | (refine CallP.pure c4 ?_) | (refine CallP.pure c5 ?_) | (refine CallP.pure c6 ?_) | (refine condP.same1 ?_) | (refine condP.differ1 ?_) | (refine condP.dec (fun h => absurd h (by omega)) (fun _ => ?_)) | (first | refine condP.dec (fun h => ?_) (fun h => ?_) | refine condP.eq (fun h => ?_) (fun h => ?_) | refine condP.ne (fun h => ?_) (fun h => ?_)) | (refine .i64 (by omega) (by omega) ?_) | (refine onSome.intro (idx_fs rfl rfl (by omega) (by omega) (fun _ => rfl)) ?_) | (refine onSome.intro (load_fs rfl (by omega) (by omega) rfl) ?_) | (refine And.intro rfl ?_))
      all_goals first | (exfalso; omega) | skip
      conv => whnf
      refine CallP.borrow [5] rfl (.cons (hw (fun _ _ h => by cases h) rfl) .nil) (nn_cons (stuffI_no _ _) nn_none) cx1 (.int _ _) ?_
      repeat' ((conv => whnf); first | (refine CallP.pure ko1 ?_) | (refine CallP.pure ko2 ?_) | (refine CallP.pure ko3 ?_) | (refine CallP.pure c1 ?_) | (refine CallP.pure c2 ?_) | (refine CallP.pure c3 ?_) | (refine CallP.pure c4 ?_) | (refine CallP.pure c5 ?_) | (refine CallP.pure c6 ?_) | (refine condP.same1 ?_) | (refine condP.differ1 ?_) | (refine condP.dec (fun h => absurd h (by omega)) (fun _ => ?_)) | (first | refine condP.dec (fun h => ?_) (fun h => ?_) | refine condP.eq (fun h => ?_) (fun h => ?_) | refine condP.ne (fun h => ?_) (fun h => ?_)) | (refine .i64 (by omega) (by omega) ?_) | (refine onSome.intro (idx_fs rfl rfl (by omega) (by omega) (fun _ => rfl)) ?_) | (refine onSome.intro (load_fs rfl (by omega) (by omega) rfl) ?_) | (refine And.intro rfl ?_))
      all_goals first | (exfalso; omega) | skip
      conv => whnf
      refine CallP.borrow [5] rfl (.cons (hw (fun _ _ h => by cases h) rfl) .nil) (nn_cons (stuffI_no _ _) nn_none) cx2 (.int _ _) ?_
      have cy1 := CheckOven_ok f [] (by simp)
      have cy2 := rCheckOven_ok f [] (by simp)
      repeat' ((conv => whnf); first | (refine condP.same1 ?_) | (refine condP.differ1 ?_) | (first | refine condP.dec (fun h => ?_) (fun h => ?_) | refine condP.eq (fun h => ?_) (fun h => ?_) | refine condP.ne (fun h => ?_) (fun h => ?_)) | (refine .i64 (by omega) (by omega) ?_) | (refine onSome.intro (idx_fs rfl rfl (by omega) (by omega) (fun _ => rfl)) ?_) | (refine onSome.intro (load_fs rfl (by omega) (by omega) rfl) ?_) | (refine And.intro rfl ?_))
      conv => whnf
      refine CallP.borrow [] rfl (.cons (.aggL (.cons (.refl _) (.cons .nil .nil))) .nil) (nn_cons (ovenI_no f []) nn_none) cy1 (.int _ _) ?_
      repeat' ((conv => whnf); first | (refine condP.same1 ?_) | (refine condP.differ1 ?_) | (first | refine condP.dec (fun h => ?_) (fun h => ?_) | refine condP.eq (fun h => ?_) (fun h => ?_) | refine condP.ne (fun h => ?_) (fun h => ?_)) | (refine .i64 (by omega) (by omega) ?_) | (refine onSome.intro (idx_fs rfl rfl (by omega) (by omega) (fun _ => rfl)) ?_) | (refine onSome.intro (load_fs rfl (by omega) (by omega) rfl) ?_) | (refine And.intro rfl ?_))
      conv => whnf
      refine CallP.borrow [] rfl (.cons (.aggL (.cons (.refl _) (.cons .nil .nil))) .nil) (nn_cons (ovenI_no f []) nn_none) cy2 (.int _ _) ?_
      repeat' ((conv => whnf); first | (refine condP.same1 ?_) | (refine condP.differ1 ?_) | (refine CallP.pure cf1 ?_) | (refine CallP.pure cf2 ?_) | (refine CallP.pure ss ?_) | (refine CallP.pure so ?_) | (refine CallP.pure sf ?_) | (refine CallP.pure awake_ok ?_) | (first | refine condP.dec (fun h => ?_) (fun h => ?_) | refine condP.eq (fun h => ?_) (fun h => ?_) | refine condP.ne (fun h => ?_) (fun h => ?_)) | (refine .i64 (by omega) (by omega) ?_) | (refine onSome.intro (idx_fs rfl rfl (by omega) (by omega) (fun _ => rfl)) ?_) | (refine onSome.intro (load_fs rfl (by omega) (by omega) rfl) ?_) | (refine And.intro rfl ?_))
      all_goals first | (exfalso; omega) | skip
      all_goals conv => whnf
      all_goals exact PureP.intro (.bool true) (.inl rfl) rfl (.refl _)
  · have hlsl' : ls.length + 1 ≤ 22 := by simp at hlsl; omega
    cases w1
    · repeat' ((conv => whnf); first | (refine CallP.pure klong ?_) | (refine CallP.new kd ?_) | (refine CallP.diceNew (v := fun m => .agg [.int .i64 bx, .mslice m 0 x.length x.length false]) (fun H b n hb hn => kx H b n hb hn) rfl ?_) | (refine CallP.diceNew (v := fun m => .agg [.int .i64 f, .mslice m 0 (ls.length + 1) (ls.length + 1) false]) (t := .live 2 ((l0 :: ls).map lr)) (fun H b n hb hn => ko H b n hb hn) rfl ?_) | (refine CallP.one (fun H hb => kf H _ hb) rfl ?_) | (refine CallP.one (fun H hb => kw H _ hb) rfl ?_) | (first | refine condP.dec (fun h => ?_) (fun h => ?_) | refine condP.eq (fun h => ?_) (fun h => ?_) | refine condP.ne (fun h => ?_) (fun h => ?_)) | (refine .i64 (by omega) (by omega) ?_) | (refine onSome.intro (idx_fs rfl rfl (by omega) (by omega) (fun _ => rfl)) ?_) | (refine onSome.intro (load_fs rfl (by omega) (by omega) rfl) ?_) | (refine And.intro rfl ?_))
      all_goals first | (exfalso; omega) | skip
      have hyl : x.length = x.length := rfl
      have q := One_any s4 2 (by omega)
      obtain ⟨w2, s6, kw2⟩ := q
      have q := Upto_any s6 (ls.length + 1) (by omega)
      obtain ⟨u2, s7, u20, u21, ku2⟩ := q
      cases w2
      · repeat' ((conv => whnf); first | (refine condP.dec (fun _ => ?_) (fun h => absurd (by omega) h)) | (refine CallP.one (fun H hb => kw2 H _ hb) rfl ?_) | (refine CallP.pure ko1 ?_) | (first | refine condP.dec (fun h => ?_) (fun h => ?_) | refine condP.eq (fun h => ?_) (fun h => ?_) | refine condP.ne (fun h => ?_) (fun h => ?_)) | (refine .i64 (by omega) (by omega) ?_) | (refine onSome.intro (idx_fs rfl rfl (by omega) (by omega) (fun _ => rfl)) ?_) | (refine onSome.intro (load_fs rfl (by omega) (by omega) rfl) ?_) | (refine And.intro rfl ?_))
        all_goals first | (exfalso; omega) | skip
        have hvl : (l0 :: ls).length = ls.length + 1 := rfl
        have hw : ∀ {H' : Heap}, (∀ sz e, H' 5 ≠ .live sz e) → ∀ {H : Heap}, H 5 = .live 5 (x.map zr) → Frz H H' (.agg [.int .i64 bx, .mslice 5 0 x.length x.length false]) (stuffI bx x) := fun h1 _ h2 => .aggL (.cons (.refl _) (.cons (.whole h2 h1 (by rw [List.length_map, hyl]) (.refl _)) .nil))
        have cx1 := Check_ok bx x (by omega)
        have cx2 := rCheck_ok bx x (by omega)
        repeat' ((conv => whnf); first | (refine CallP.pure ko1 ?_) | (refine CallP.pure ko2 ?_) | (refine CallP.pure ko3 ?_) | (refine CallP.pure c1 ?_) | (refine CallP.pure c2 ?_) | (refine CallP.pure c3 ?_) | (refine CallP.pure c4 ?_) | (refine CallP.pure c5 ?_) | (refine CallP.pure c6 ?_) | (refine condP.same1 ?_) | (refine condP.differ1 ?_) | (refine condP.dec (fun h => absurd h (by omega)) (fun _ => ?_)) | (first | refine condP.dec (fun h => ?_) (fun h => ?_) | refine condP.eq (fun h => ?_) (fun h => ?_) | refine condP.ne (fun h => ?_) (fun h => ?_)) | (refine .i64 (by omega) (by omega) ?_) | (refine onSome.intro (idx_fs rfl rfl (by omega) (by omega) (fun _ => rfl)) ?_) | (refine onSome.intro (load_fs rfl (by omega) (by omega) rfl) ?_) | (refine And.intro rfl ?_))
        all_goals first | (exfalso; omega) | skip
        conv => whnf
        refine CallP.borrow [5] rfl (.cons (hw (fun _ _ h => by cases h) rfl) .nil) (nn_cons (stuffI_no _ _) nn_none) cx1 (.int _ _) ?_
        repeat' ((conv => whnf); first | (refine CallP.pure ko1 ?_) | (refine CallP.pure ko2 ?_) | (refine CallP.pure ko3 ?_) | (refine CallP.pure c1 ?_) | (refine CallP.pure c2 ?_) | (refine CallP.pure c3 ?_) | (refine CallP.pure c4 ?_) | (refine CallP.pure c5 ?_) | (refine CallP.pure c6 ?_) | (refine condP.same1 ?_) | (refine condP.differ1 ?_) | (refine condP.dec (fun h => absurd h (by omega)) (fun _ => ?_)) | (first | refine condP.dec (fun h => ?_) (fun h => ?_) | refine condP.eq (fun h => ?_) (fun h => ?_) | refine condP.ne (fun h => ?_) (fun h => ?_)) | (refine .i64 (by omega) (by omega) ?_) | (refine onSome.intro (idx_fs rfl rfl (by omega) (by omega) (fun _ => rfl)) ?_) | (refine onSome.intro (load_fs rfl (by omega) (by omega) rfl) ?_) | (refine And.intro rfl ?_))
        all_goals first | (exfalso; omega) | skip
        conv => whnf
        refine CallP.borrow [5] rfl (.cons (hw (fun _ _ h => by cases h) rfl) .nil) (nn_cons (stuffI_no _ _) nn_none) cx2 (.int _ _) ?_
        have hv : ∀ {H' : Heap}, (∀ sz e, H' 6 ≠ .live sz e) → ∀ {H : Heap}, H 6 = .live 2 ((l0 :: ls).map lr) → Frz H H' (.agg [.int .i64 f, .mslice 6 0 (ls.length + 1) (ls.length + 1) false]) (ovenI f (l0 :: ls)) := fun h1 _ h2 => .aggL (.cons (.refl _) (.cons (.whole h2 h1 (by rw [List.length_map, hvl]) (.refl _)) .nil))
        have cy1 := CheckOven_ok f (l0 :: ls) (by omega)
        have cy2 := rCheckOven_ok f (l0 :: ls) (by omega)
        repeat' ((conv => whnf); first | (refine condP.same1 ?_) | (refine condP.differ1 ?_) | (first | refine condP.dec (fun h => ?_) (fun h => ?_) | refine condP.eq (fun h => ?_) (fun h => ?_) | refine condP.ne (fun h => ?_) (fun h => ?_)) | (refine .i64 (by omega) (by omega) ?_) | (refine onSome.intro (idx_fs rfl rfl (by omega) (by omega) (fun _ => rfl)) ?_) | (refine onSome.intro (load_fs rfl (by omega) (by omega) rfl) ?_) | (refine And.intro rfl ?_))
        conv => whnf
        refine CallP.borrow [6] rfl (.cons (hv (fun _ _ h => by cases h) rfl) .nil) (nn_cons (ovenI_no _ _) nn_none) cy1 (.int _ _) ?_
        repeat' ((conv => whnf); first | (refine condP.same1 ?_) | (refine condP.differ1 ?_) | (first | refine condP.dec (fun h => ?_) (fun h => ?_) | refine condP.eq (fun h => ?_) (fun h => ?_) | refine condP.ne (fun h => ?_) (fun h => ?_)) | (refine .i64 (by omega) (by omega) ?_) | (refine onSome.intro (idx_fs rfl rfl (by omega) (by omega) (fun _ => rfl)) ?_) | (refine onSome.intro (load_fs rfl (by omega) (by omega) rfl) ?_) | (refine And.intro rfl ?_))
        conv => whnf
        refine CallP.borrow [6] rfl (.cons (hv (fun _ _ h => by cases h) rfl) .nil) (nn_cons (ovenI_no _ _) nn_none) cy2 (.int _ _) ?_
        repeat' ((conv => whnf); first | (refine condP.same1 ?_) | (refine condP.differ1 ?_) | (refine CallP.pure cf1 ?_) | (refine CallP.pure cf2 ?_) | (refine CallP.pure ss ?_) | (refine CallP.pure so ?_) | (refine CallP.pure sf ?_) | (refine CallP.pure awake_ok ?_) | (first | refine condP.dec (fun h => ?_) (fun h => ?_) | refine condP.eq (fun h => ?_) (fun h => ?_) | refine condP.ne (fun h => ?_) (fun h => ?_)) | (refine .i64 (by omega) (by omega) ?_) | (refine onSome.intro (idx_fs rfl rfl (by omega) (by omega) (fun _ => rfl)) ?_) | (refine onSome.intro (load_fs rfl (by omega) (by omega) rfl) ?_) | (refine And.intro rfl ?_))
        all_goals first | (exfalso; omega) | skip
        all_goals conv => whnf
        all_goals exact PureP.intro (.bool true) (.inl rfl) rfl (.refl _)
      · repeat' ((conv => whnf); first | (refine condP.dec (fun _ => ?_) (fun h => absurd (by omega) h)) | (refine CallP.one (fun H hb => kw2 H _ hb) rfl ?_) | (refine CallP.one (fun H hb => ku2 H _ hb) rfl ?_) | (refine onSome.intro (idx_ms (n := u2) rfl rfl rfl (by omega) (by omega)) ?_) | (first | refine condP.dec (fun h => ?_) (fun h => ?_) | refine condP.eq (fun h => ?_) (fun h => ?_) | refine condP.ne (fun h => ?_) (fun h => ?_)) | (refine .i64 (by omega) (by omega) ?_) | (refine onSome.intro (idx_fs rfl rfl (by omega) (by omega) (fun _ => rfl)) ?_) | (refine onSome.intro (load_fs rfl (by omega) (by omega) rfl) ?_) | (refine And.intro rfl ?_))
        all_goals first | (exfalso; omega) | skip
        conv => whnf
        refine onSome.intro (get_enc (l := l0 :: ls) (enc := lr) (i := u2.toNat) (by simp only [List.length_cons]; omega)) ?_
        generalize (l0 :: ls)[u2.toNat]'(by simp only [List.length_cons]; omega) = y1
        conv => whnf
        refine store_enc (enc := lr) (l := l0 :: ls) (a := g) (l' := (l0 :: ls).set u2.toNat g) rfl rfl ?_
        have hvl : ((l0 :: ls).set u2.toNat g).length = ls.length + 1 := by rw [List.length_set]; rfl
        generalize (l0 :: ls).set u2.toNat g = vs at *
        have hw : ∀ {H' : Heap}, (∀ sz e, H' 5 ≠ .live sz e) → ∀ {H : Heap}, H 5 = .live 5 (x.map zr) → Frz H H' (.agg [.int .i64 bx, .mslice 5 0 x.length x.length false]) (stuffI bx x) := fun h1 _ h2 => .aggL (.cons (.refl _) (.cons (.whole h2 h1 (by rw [List.length_map, hyl]) (.refl _)) .nil))
        have cx1 := Check_ok bx x (by omega)
        have cx2 := rCheck_ok bx x (by omega)
        repeat' ((conv => whnf); first | (refine CallP.pure ko1 ?_) | (refine CallP.pure ko2 ?_) | (refine CallP.pure ko3 ?_) | (refine CallP.pure c1 ?_) | (refine CallP.pure c2 ?_) | (refine CallP.pure c3 ?_) | (refine CallP.pure c4 ?_) | (refine CallP.pure c5 ?_) | (refine CallP.pure c6 ?_) | (refine condP.same1 ?_) | (refine condP.differ1 ?_) | (refine condP.dec (fun h => absurd h (by omega)) (fun _ => ?_)) | (first | refine condP.dec (fun h => ?_) (fun h => ?_) | refine condP.eq (fun h => ?_) (fun h => ?_) | refine condP.ne (fun h => ?_) (fun h => ?_)) | (refine .i64 (by omega) (by omega) ?_) | (refine onSome.intro (idx_fs rfl rfl (by omega) (by omega) (fun _ => rfl)) ?_) | (refine onSome.intro (load_fs rfl (by omega) (by omega) rfl) ?_) | (refine And.intro rfl ?_))
        all_goals first | (exfalso; omega) | skip
        conv => whnf
        refine CallP.borrow [5] rfl (.cons (hw (fun _ _ h => by cases h) rfl) .nil) (nn_cons (stuffI_no _ _) nn_none) cx1 (.int _ _) ?_
        repeat' ((conv => whnf); first | (refine CallP.pure ko1 ?_) | (refine CallP.pure ko2 ?_) | (refine CallP.pure ko3 ?_) | (refine CallP.pure c1 ?_) | (refine CallP.pure c2 ?_) | (refine CallP.pure c3 ?_) | (refine CallP.pure c4 ?_) | (refine CallP.pure c5 ?_) | (refine CallP.pure c6 ?_) | (refine condP.same1 ?_) | (refine condP.differ1 ?_) | (refine condP.dec (fun h => absurd h (by omega)) (fun _ => ?_)) | (first | refine condP.dec (fun h => ?_) (fun h => ?_) | refine condP.eq (fun h => ?_) (fun h => ?_) | refine condP.ne (fun h => ?_) (fun h => ?_)) | (refine .i64 (by omega) (by omega) ?_) | (refine onSome.intro (idx_fs rfl rfl (by omega) (by omega) (fun _ => rfl)) ?_) | (refine onSome.intro (load_fs rfl (by omega) (by omega) rfl) ?_) | (refine And.intro rfl ?_))
        all_goals first | (exfalso; omega) | skip
        conv => whnf
        refine CallP.borrow [5] rfl (.cons (hw (fun _ _ h => by cases h) rfl) .nil) (nn_cons (stuffI_no _ _) nn_none) cx2 (.int _ _) ?_
        have hv : ∀ {H' : Heap}, (∀ sz e, H' 6 ≠ .live sz e) → ∀ {H : Heap}, H 6 = .live 2 (vs.map lr) → Frz H H' (.agg [.int .i64 f, .mslice 6 0 (ls.length + 1) (ls.length + 1) false]) (ovenI f vs) := fun h1 _ h2 => .aggL (.cons (.refl _) (.cons (.whole h2 h1 (by rw [List.length_map, hvl]) (.refl _)) .nil))
        have cy1 := CheckOven_ok f vs (by omega)
        have cy2 := rCheckOven_ok f vs (by omega)
        repeat' ((conv => whnf); first | (refine condP.same1 ?_) | (refine condP.differ1 ?_) | (first | refine condP.dec (fun h => ?_) (fun h => ?_) | refine condP.eq (fun h => ?_) (fun h => ?_) | refine condP.ne (fun h => ?_) (fun h => ?_)) | (refine .i64 (by omega) (by omega) ?_) | (refine onSome.intro (idx_fs rfl rfl (by omega) (by omega) (fun _ => rfl)) ?_) | (refine onSome.intro (load_fs rfl (by omega) (by omega) rfl) ?_) | (refine And.intro rfl ?_))
        conv => whnf
        refine CallP.borrow [6] rfl (.cons (hv (fun _ _ h => by cases h) rfl) .nil) (nn_cons (ovenI_no _ _) nn_none) cy1 (.int _ _) ?_
        repeat' ((conv => whnf); first | (refine condP.same1 ?_) | (refine condP.differ1 ?_) | (first | refine condP.dec (fun h => ?_) (fun h => ?_) | refine condP.eq (fun h => ?_) (fun h => ?_) | refine condP.ne (fun h => ?_) (fun h => ?_)) | (refine .i64 (by omega) (by omega) ?_) | (refine onSome.intro (idx_fs rfl rfl (by omega) (by omega) (fun _ => rfl)) ?_) | (refine onSome.intro (load_fs rfl (by omega) (by omega) rfl) ?_) | (refine And.intro rfl ?_))
        conv => whnf
        refine CallP.borrow [6] rfl (.cons (hv (fun _ _ h => by cases h) rfl) .nil) (nn_cons (ovenI_no _ _) nn_none) cy2 (.int _ _) ?_
        repeat' ((conv => whnf); first | (refine condP.same1 ?_) | (refine condP.differ1 ?_) | (refine CallP.pure cf1 ?_) | (refine CallP.pure cf2 ?_) | (refine CallP.pure ss ?_) | (refine CallP.pure so ?_) | (refine CallP.pure sf ?_) | (refine CallP.pure awake_ok ?_) | (first | refine condP.dec (fun h => ?_) (fun h => ?_) | refine condP.eq (fun h => ?_) (fun h => ?_) | refine condP.ne (fun h => ?_) (fun h => ?_)) | (refine .i64 (by omega) (by omega) ?_) | (refine onSome.intro (idx_fs rfl rfl (by omega) (by omega) (fun _ => rfl)) ?_) | (refine onSome.intro (load_fs rfl (by omega) (by omega) rfl) ?_) | (refine And.intro rfl ?_))
        all_goals first | (exfalso; omega) | skip
        all_goals conv => whnf
        all_goals exact PureP.intro (.bool true) (.inl rfl) rfl (.refl _)
    · have q := Upto_any s4 x.length (by omega)
      obtain ⟨u, s5, u0, u1, ku⟩ := q
      repeat' ((conv => whnf); first | (refine CallP.pure klong ?_) | (refine CallP.new kd ?_) | (refine CallP.diceNew (v := fun m => .agg [.int .i64 bx, .mslice m 0 x.length x.length false]) (fun H b n hb hn => kx H b n hb hn) rfl ?_) | (refine CallP.diceNew (v := fun m => .agg [.int .i64 f, .mslice m 0 (ls.length + 1) (ls.length + 1) false]) (t := .live 2 ((l0 :: ls).map lr)) (fun H b n hb hn => ko H b n hb hn) rfl ?_) | (refine CallP.one (fun H hb => kf H _ hb) rfl ?_) | (refine CallP.one (fun H hb => kw H _ hb) rfl ?_) | (refine CallP.one (fun H hb => ku H _ hb) rfl ?_) | (refine onSome.intro (idx_ms (n := u) rfl rfl rfl (by omega) (by omega)) ?_) | (first | refine condP.dec (fun h => ?_) (fun h => ?_) | refine condP.eq (fun h => ?_) (fun h => ?_) | refine condP.ne (fun h => ?_) (fun h => ?_)) | (refine .i64 (by omega) (by omega) ?_) | (refine onSome.intro (idx_fs rfl rfl (by omega) (by omega) (fun _ => rfl)) ?_) | (refine onSome.intro (load_fs rfl (by omega) (by omega) rfl) ?_) | (refine And.intro rfl ?_))
      all_goals first | (exfalso; omega) | skip
      conv => whnf
      refine onSome.intro (get_enc (l := x) (enc := zr) (i := u.toNat) (by omega)) ?_
      generalize x[u.toNat]'(by omega) = y0
      conv => whnf
      refine store_enc (enc := zr) (l := x) (a := z) (l' := x.set u.toNat z) rfl rfl ?_
      have hyl : (x.set u.toNat z).length = x.length := by rw [List.length_set]
      generalize x.set u.toNat z = ys at *
      have q := One_any s5 2 (by omega)
      obtain ⟨w2, s6, kw2⟩ := q
      have q := Upto_any s6 (ls.length + 1) (by omega)
      obtain ⟨u2, s7, u20, u21, ku2⟩ := q
      cases w2
      · repeat' ((conv => whnf); first | (refine condP.dec (fun _ => ?_) (fun h => absurd (by omega) h)) | (refine CallP.one (fun H hb => kw2 H _ hb) rfl ?_) | (refine CallP.pure ko1 ?_) | (first | refine condP.dec (fun h => ?_) (fun h => ?_) | refine condP.eq (fun h => ?_) (fun h => ?_) | refine condP.ne (fun h => ?_) (fun h => ?_)) | (refine .i64 (by omega) (by omega) ?_) | (refine onSome.intro (idx_fs rfl rfl (by omega) (by omega) (fun _ => rfl)) ?_) | (refine onSome.intro (load_fs rfl (by omega) (by omega) rfl) ?_) | (refine And.intro rfl ?_))
        all_goals first | (exfalso; omega) | skip
        have hvl : (l0 :: ls).length = ls.length + 1 := rfl
        have hw : ∀ {H' : Heap}, (∀ sz e, H' 5 ≠ .live sz e) → ∀ {H : Heap}, H 5 = .live 5 (ys.map zr) → Frz H H' (.agg [.int .i64 bx, .mslice 5 0 x.length x.length false]) (stuffI bx ys) := fun h1 _ h2 => .aggL (.cons (.refl _) (.cons (.whole h2 h1 (by rw [List.length_map, hyl]) (.refl _)) .nil))
        have cx1 := Check_ok bx ys (by omega)
        have cx2 := rCheck_ok bx ys (by omega)
        repeat' ((conv => whnf); first | (refine CallP.pure ko1 ?_) | (refine CallP.pure ko2 ?_) | (refine CallP.pure ko3 ?_) | (refine CallP.pure c1 ?_) | (refine CallP.pure c2 ?_) | (refine CallP.pure c3 ?_) | (refine CallP.pure c4 ?_) | (refine CallP.pure c5 ?_) | (refine CallP.pure c6 ?_) | (refine condP.same1 ?_) | (refine condP.differ1 ?_) | (refine condP.dec (fun h => absurd h (by omega)) (fun _ => ?_)) | (first | refine condP.dec (fun h => ?_) (fun h => ?_) | refine condP.eq (fun h => ?_) (fun h => ?_) | refine condP.ne (fun h => ?_) (fun h => ?_)) | (refine .i64 (by omega) (by omega) ?_) | (refine onSome.intro (idx_fs rfl rfl (by omega) (by omega) (fun _ => rfl)) ?_) | (refine onSome.intro (load_fs rfl (by omega) (by omega) rfl) ?_) | (refine And.intro rfl ?_))
        all_goals first | (exfalso; omega) | skip
        conv => whnf
        refine CallP.borrow [5] rfl (.cons (hw (fun _ _ h => by cases h) rfl) .nil) (nn_cons (stuffI_no _ _) nn_none) cx1 (.int _ _) ?_
        repeat' ((conv => whnf); first | (refine CallP.pure ko1 ?_) | (refine CallP.pure ko2 ?_) | (refine CallP.pure ko3 ?_) | (refine CallP.pure c1 ?_) | (refine CallP.pure c2 ?_) | (refine CallP.pure c3 ?_) | (refine CallP.pure c4 ?_) | (refine CallP.pure c5 ?_) | (refine CallP.pure c6 ?_) | (refine condP.same1 ?_) | (refine condP.differ1 ?_) | (refine condP.dec (fun h => absurd h (by omega)) (fun _ => ?_)) | (first | refine condP.dec (fun h => ?_) (fun h => ?_) | refine condP.eq (fun h => ?_) (fun h => ?_) | refine condP.ne (fun h => ?_) (fun h => ?_)) | (refine .i64 (by omega) (by omega) ?_) | (refine onSome.intro (idx_fs rfl rfl (by omega) (by omega) (fun _ => rfl)) ?_) | (refine onSome.intro (load_fs rfl (by omega) (by omega) rfl) ?_) | (refine And.intro rfl ?_))
        all_goals first | (exfalso; omega) | skip
        conv => whnf
        refine CallP.borrow [5] rfl (.cons (hw (fun _ _ h => by cases h) rfl) .nil) (nn_cons (stuffI_no _ _) nn_none) cx2 (.int _ _) ?_
        have hv : ∀ {H' : Heap}, (∀ sz e, H' 6 ≠ .live sz e) → ∀ {H : Heap}, H 6 = .live 2 ((l0 :: ls).map lr) → Frz H H' (.agg [.int .i64 f, .mslice 6 0 (ls.length + 1) (ls.length + 1) false]) (ovenI f (l0 :: ls)) := fun h1 _ h2 => .aggL (.cons (.refl _) (.cons (.whole h2 h1 (by rw [List.length_map, hvl]) (.refl _)) .nil))
        have cy1 := CheckOven_ok f (l0 :: ls) (by omega)
        have cy2 := rCheckOven_ok f (l0 :: ls) (by omega)
        repeat' ((conv => whnf); first | (refine condP.same1 ?_) | (refine condP.differ1 ?_) | (first | refine condP.dec (fun h => ?_) (fun h => ?_) | refine condP.eq (fun h => ?_) (fun h => ?_) | refine condP.ne (fun h => ?_) (fun h => ?_)) | (refine .i64 (by omega) (by omega) ?_) | (refine onSome.intro (idx_fs rfl rfl (by omega) (by omega) (fun _ => rfl)) ?_) | (refine onSome.intro (load_fs rfl (by omega) (by omega) rfl) ?_) | (refine And.intro rfl ?_))
        conv => whnf
        refine CallP.borrow [6] rfl (.cons (hv (fun _ _ h => by cases h) rfl) .nil) (nn_cons (ovenI_no _ _) nn_none) cy1 (.int _ _) ?_
        repeat' ((conv => whnf); first | (refine condP.same1 ?_) | (refine condP.differ1 ?_) | (first | refine condP.dec (fun h => ?_) (fun h => ?_) | refine condP.eq (fun h => ?_) (fun h => ?_) | refine condP.ne (fun h => ?_) (fun h => ?_)) | (refine .i64 (by omega) (by omega) ?_) | (refine onSome.intro (idx_fs rfl rfl (by omega) (by omega) (fun _ => rfl)) ?_) | (refine onSome.intro (load_fs rfl (by omega) (by omega) rfl) ?_) | (refine And.intro rfl ?_))
        conv => whnf
        refine CallP.borrow [6] rfl (.cons (hv (fun _ _ h => by cases h) rfl) .nil) (nn_cons (ovenI_no _ _) nn_none) cy2 (.int _ _) ?_
        repeat' ((conv => whnf); first | (refine condP.same1 ?_) | (refine condP.differ1 ?_) | (refine CallP.pure cf1 ?_) | (refine CallP.pure cf2 ?_) | (refine CallP.pure ss ?_) | (refine CallP.pure so ?_) | (refine CallP.pure sf ?_) | (refine CallP.pure awake_ok ?_) | (first | refine condP.dec (fun h => ?_) (fun h => ?_) | refine condP.eq (fun h => ?_) (fun h => ?_) | refine condP.ne (fun h => ?_) (fun h => ?_)) | (refine .i64 (by omega) (by omega) ?_) | (refine onSome.intro (idx_fs rfl rfl (by omega) (by omega) (fun _ => rfl)) ?_) | (refine onSome.intro (load_fs rfl (by omega) (by omega) rfl) ?_) | (refine And.intro rfl ?_))
        all_goals first | (exfalso; omega) | skip
        all_goals conv => whnf
        all_goals exact PureP.intro (.bool true) (.inl rfl) rfl (.refl _)
      · repeat' ((conv => whnf); first | (refine condP.dec (fun _ => ?_) (fun h => absurd (by omega) h)) | (refine CallP.one (fun H hb => kw2 H _ hb) rfl ?_) | (refine CallP.one (fun H hb => ku2 H _ hb) rfl ?_) | (refine onSome.intro (idx_ms (n := u2) rfl rfl rfl (by omega) (by omega)) ?_) | (first | refine condP.dec (fun h => ?_) (fun h => ?_) | refine condP.eq (fun h => ?_) (fun h => ?_) | refine condP.ne (fun h => ?_) (fun h => ?_)) | (refine .i64 (by omega) (by omega) ?_) | (refine onSome.intro (idx_fs rfl rfl (by omega) (by omega) (fun _ => rfl)) ?_) | (refine onSome.intro (load_fs rfl (by omega) (by omega) rfl) ?_) | (refine And.intro rfl ?_))
        all_goals first | (exfalso; omega) | skip
        conv => whnf
        refine onSome.intro (get_enc (l := l0 :: ls) (enc := lr) (i := u2.toNat) (by simp only [List.length_cons]; omega)) ?_
        generalize (l0 :: ls)[u2.toNat]'(by simp only [List.length_cons]; omega) = y1
        conv => whnf
        refine store_enc (enc := lr) (l := l0 :: ls) (a := g) (l' := (l0 :: ls).set u2.toNat g) rfl rfl ?_
        have hvl : ((l0 :: ls).set u2.toNat g).length = ls.length + 1 := by rw [List.length_set]; rfl
        generalize (l0 :: ls).set u2.toNat g = vs at *
        have hw : ∀ {H' : Heap}, (∀ sz e, H' 5 ≠ .live sz e) → ∀ {H : Heap}, H 5 = .live 5 (ys.map zr) → Frz H H' (.agg [.int .i64 bx, .mslice 5 0 x.length x.length false]) (stuffI bx ys) := fun h1 _ h2 => .aggL (.cons (.refl _) (.cons (.whole h2 h1 (by rw [List.length_map, hyl]) (.refl _)) .nil))
        have cx1 := Check_ok bx ys (by omega)
        have cx2 := rCheck_ok bx ys (by omega)
        repeat' ((conv => whnf); first | (refine CallP.pure ko1 ?_) | (refine CallP.pure ko2 ?_) | (refine CallP.pure ko3 ?_) | (refine CallP.pure c1 ?_) | (refine CallP.pure c2 ?_) | (refine CallP.pure c3 ?_) | (refine CallP.pure c4 ?_) | (refine CallP.pure c5 ?_) | (refine CallP.pure c6 ?_) | (refine condP.same1 ?_) | (refine condP.differ1 ?_) | (refine condP.dec (fun h => absurd h (by omega)) (fun _ => ?_)) | (first | refine condP.dec (fun h => ?_) (fun h => ?_) | refine condP.eq (fun h => ?_) (fun h => ?_) | refine condP.ne (fun h => ?_) (fun h => ?_)) | (refine .i64 (by omega) (by omega) ?_) | (refine onSome.intro (idx_fs rfl rfl (by omega) (by omega) (fun _ => rfl)) ?_) | (refine onSome.intro (load_fs rfl (by omega) (by omega) rfl) ?_) | (refine And.intro rfl ?_))
        all_goals first | (exfalso; omega) | skip
        conv => whnf
        refine CallP.borrow [5] rfl (.cons (hw (fun _ _ h => by cases h) rfl) .nil) (nn_cons (stuffI_no _ _) nn_none) cx1 (.int _ _) ?_
        repeat' ((conv => whnf); first | (refine CallP.pure ko1 ?_) | (refine CallP.pure ko2 ?_) | (refine CallP.pure ko3 ?_) | (refine CallP.pure c1 ?_) | (refine CallP.pure c2 ?_) | (refine CallP.pure c3 ?_) | (refine CallP.pure c4 ?_) | (refine CallP.pure c5 ?_) | (refine CallP.pure c6 ?_) | (refine condP.same1 ?_) | (refine condP.differ1 ?_) | (refine condP.dec (fun h => absurd h (by omega)) (fun _ => ?_)) | (first | refine condP.dec (fun h => ?_) (fun h => ?_) | refine condP.eq (fun h => ?_) (fun h => ?_) | refine condP.ne (fun h => ?_) (fun h => ?_)) | (refine .i64 (by omega) (by omega) ?_) | (refine onSome.intro (idx_fs rfl rfl (by omega) (by omega) (fun _ => rfl)) ?_) | (refine onSome.intro (load_fs rfl (by omega) (by omega) rfl) ?_) | (refine And.intro rfl ?_))
        all_goals first | (exfalso; omega) | skip
        conv => whnf
        refine CallP.borrow [5] rfl (.cons (hw (fun _ _ h => by cases h) rfl) .nil) (nn_cons (stuffI_no _ _) nn_none) cx2 (.int _ _) ?_
        have hv : ∀ {H' : Heap}, (∀ sz e, H' 6 ≠ .live sz e) → ∀ {H : Heap}, H 6 = .live 2 (vs.map lr) → Frz H H' (.agg [.int .i64 f, .mslice 6 0 (ls.length + 1) (ls.length + 1) false]) (ovenI f vs) := fun h1 _ h2 => .aggL (.cons (.refl _) (.cons (.whole h2 h1 (by rw [List.length_map, hvl]) (.refl _)) .nil))
        have cy1 := CheckOven_ok f vs (by omega)
        have cy2 := rCheckOven_ok f vs (by omega)
        repeat' ((conv => whnf); first | (refine condP.same1 ?_) | (refine condP.differ1 ?_) | (first | refine condP.dec (fun h => ?_) (fun h => ?_) | refine condP.eq (fun h => ?_) (fun h => ?_) | refine condP.ne (fun h => ?_) (fun h => ?_)) | (refine .i64 (by omega) (by omega) ?_) | (refine onSome.intro (idx_fs rfl rfl (by omega) (by omega) (fun _ => rfl)) ?_) | (refine onSome.intro (load_fs rfl (by omega) (by omega) rfl) ?_) | (refine And.intro rfl ?_))
        conv => whnf
        refine CallP.borrow [6] rfl (.cons (hv (fun _ _ h => by cases h) rfl) .nil) (nn_cons (ovenI_no _ _) nn_none) cy1 (.int _ _) ?_
        repeat' ((conv => whnf); first | (refine condP.same1 ?_) | (refine condP.differ1 ?_) | (first | refine condP.dec (fun h => ?_) (fun h => ?_) | refine condP.eq (fun h => ?_) (fun h => ?_) | refine condP.ne (fun h => ?_) (fun h => ?_)) | (refine .i64 (by omega) (by omega) ?_) | (refine onSome.intro (idx_fs rfl rfl (by omega) (by omega) (fun _ => rfl)) ?_) | (refine onSome.intro (load_fs rfl (by omega) (by omega) rfl) ?_) | (refine And.intro rfl ?_))
        conv => whnf
        refine CallP.borrow [6] rfl (.cons (hv (fun _ _ h => by cases h) rfl) .nil) (nn_cons (ovenI_no _ _) nn_none) cy2 (.int _ _) ?_
        repeat' ((conv => whnf); first | (refine condP.same1 ?_) | (refine condP.differ1 ?_) | (refine CallP.pure cf1 ?_) | (refine CallP.pure cf2 ?_) | (refine CallP.pure ss ?_) | (refine CallP.pure so ?_) | (refine CallP.pure sf ?_) | (refine CallP.pure awake_ok ?_) | (first | refine condP.dec (fun h => ?_) (fun h => ?_) | refine condP.eq (fun h => ?_) (fun h => ?_) | refine condP.ne (fun h => ?_) (fun h => ?_)) | (refine .i64 (by omega) (by omega) ?_) | (refine onSome.intro (idx_fs rfl rfl (by omega) (by omega) (fun _ => rfl)) ?_) | (refine onSome.intro (load_fs rfl (by omega) (by omega) rfl) ?_) | (refine And.intro rfl ?_))
        all_goals first | (exfalso; omega) | skip
        all_goals conv => whnf
        all_goals exact PureP.intro (.bool true) (.inl rfl) rfl (.refl _)

end Go.Proofs.Ytpbadgghhiommaa.I
