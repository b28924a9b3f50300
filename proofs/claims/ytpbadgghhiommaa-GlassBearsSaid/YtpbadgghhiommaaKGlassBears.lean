/- GlassBears runs to true. -/
import Derived.Test.YtpbadgghhiommaaGbear
import Derived.Test.YtpbadgghhiommaaKGlassFirst
set_option linter.unusedVariables false
set_option maxHeartbeats 32000000
set_option linter.unusedSimpArgs false
namespace Go.Proofs.Ytpbadgghhiommaa.I
open Go.Ideal

/-- A fire that holds more. -/
def moreF (f : Fire) (by_ : Int) : Fire := ⟨f.heat, min 2000 (f.hold + by_), f.aft⟩
theorem more_at {l : List Fire} {w : Nat} (hw : w < l.length) (d : Int) (i : Nat) (hi : i < l.length) : at' (l.set w (moreF (l[w]) d)) (i : Int) = if i = w then moreF (at' l (i : Int)) d else at' l (i : Int) := by
  rw [at'_get (show i < (l.set w (moreF l[w] d)).length by rw [List.length_set]; exact hi), at'_get hi, List.getElem_set]
  by_cases h : w = i
  · subst h; simp
  · rw [if_neg h, if_neg (fun e => h e.symm)]

theorem GlassBears_ok (nums : List Int) (which more : Int) (hn : nums.length ≤ 9223372036854775807) (w0 : -9223372036854775808 ≤ which) (w1 : which ≤ 9223372036854775807) (m0 : -9223372036854775808 ≤ more) (m1 : more ≤ 9223372036854775807) (H : Heap) :
    Ev T (.call (.func (.func 12) [] []) [sl nums, .int .i64 which, .int .i64 more] H) (.call (.bool true) H) := by
  refine run_pure T12 (nn_bool _) (nn_cons (sl_no _) (nn_cons (nn_int _ _) (nn_cons (nn_int _ _) nn_none))) ?_ H
  have q := NewDice_ok nums hn
  obtain ⟨s0, kd⟩ := q
  have q := FiresOf_good s0 5 (by omega) (by omega)
  obtain ⟨fl, s1, hfl, hgood, kf⟩ := q
  have h0 : firesE fl = 0 := (fires_iff fl).mpr ⟨by omega, hgood⟩
  have haft : ∀ i : Nat, i < fl.length → (at' fl (i : Int)).aft.length ≤ 100 := fun i hi => by
    have := ascB_len (hgood i hi).aft
    omega
  have e5 : (fl.map frR).length = fl.length := List.length_map ..
  by_cases hz : fl.length = 0
  · have q := Right_any fl (by omega) (fun i hi => by have := haft i hi; omega) [] (by simp)
    obtain ⟨w, hw, kw⟩ := q
    have hwt : w = true := hw.mpr ⟨h0, by simp [hz], fun j hj => by simp at hj⟩
    subst hwt
    repeat' ((conv => whnf); first | (refine CallP.new kd ?_) | (refine CallP.one (fun H hb => kf H _ hb) rfl ?_) | (refine CallP.frz [] rfl [frsl fl, sl []] (.cons (.refl _) (.cons .nil .nil)) ?_) | (refine CallP.pure kw ?_) | (refine CallP.pure awake_ok ?_) | (first | refine condP.dec (fun h => ?_) (fun h => ?_) | refine condP.eq (fun h => ?_) (fun h => ?_) | refine condP.ne (fun h => ?_) (fun h => ?_)) | (refine .i64 (by omega) (by omega) ?_) | (refine onSome.intro (idx_fs rfl rfl (by omega) (by omega) (fun _ => rfl)) ?_) | (refine onSome.intro (load_fs rfl (by omega) (by omega) rfl) ?_) | (refine And.intro rfl ?_))
    all_goals first | (exfalso; omega) | skip
    all_goals conv => whnf
    all_goals exact PureP.intro (.bool true) (.inl rfl) rfl (.refl _)
  have hp : 0 < fl.length := by omega
  have kn := OwnFires_new fl hp (by omega) (fun i hi => by have := haft i hi; omega)
  have kM : ∀ H, Ev T (.call (.func (.func 44) [] []) [.int .i64 which, .int .i64 ((fl.map frR).length : Int)] H) (.call (.int .i64 (modI which fl.length)) H) := fun H => by rw [e5]; exact Mod_ok which fl.length w0 w1 (by omega) (by omega) H
  have hM := modI_in which (m := (fl.length : Int)) (by omega)
  have kM2 := Mod_ok more 200 m0 m1 (by omega) (by omega)
  have hM2 := modI_in more (m := 200) (by omega)
  generalize modI which fl.length = wi at *
  generalize modI more 200 = ad at *
  obtain ⟨w, rfl⟩ := Int.eq_ofNat_of_zero_le hM.1
  have hwl : w < fl.length := by omega
  have hgw := hgood w hwl
  rw [at'_get hwl] at hgw
  have hh := hgw.hold
  have hM0 := more_at hwl ad
  repeat' ((conv => whnf); first | (refine CallP.new kd ?_) | (refine CallP.one (fun H hb => kf H _ hb) rfl ?_) | (refine condP.eq (fun h => absurd h (by omega)) (fun _ => ?_)) | (refine CallP.new kn ?_) | (refine CallP.pure kM ?_) | (refine onSome.intro (idx_ms (n := (w : Int)) rfl rfl rfl (by omega) (by omega)) ?_) | (refine onSome.intro (load_ms (l := fl) (enc := frR) (i := (w : Int)) (v := .int .i64 fl[w].hold) rfl rfl (by omega) (by omega) (by rw [at'_get hwl]; rfl)) ?_) | (refine CallP.pure kM2 ?_) | (refine And.intro (load_ms (l := fl) (enc := frR) (i := (w : Int)) rfl rfl (by omega) (by omega) (by rw [at'_get hwl]; rfl)) ?_) | (refine And.intro (idx_ms (n := (w : Int)) rfl rfl rfl (by omega) (by omega)) ?_) | (refine onSome.intro (get_enc (i := w) (by omega)) ?_) | (first | refine condP.dec (fun h => ?_) (fun h => ?_) | refine condP.eq (fun h => ?_) (fun h => ?_) | refine condP.ne (fun h => ?_) (fun h => ?_)) | (refine .i64 (by omega) (by omega) ?_) | (refine onSome.intro (idx_fs rfl rfl (by omega) (by omega) (fun _ => rfl)) ?_) | (refine onSome.intro (load_fs rfl (by omega) (by omega) rfl) ?_) | (refine And.intro rfl ?_))
  have hMl : (fl.set w (moreF (fl[w]'hwl) ad)).length = fl.length := by rw [List.length_set]
  have hmin : (moreF (fl[w]'hwl) ad).hold = min 2000 ((fl[w]'hwl).hold + ad) := rfl
  generalize hfw : fl[w]'hwl = fw at *
  conv => whnf
  refine store_enc (enc := frR) (l := fl) (a := moreF fw ad) (l' := fl.set w (moreF fw ad)) rfl rfl ?_
  generalize hMM : fl.set w (moreF fw ad) = M at *
  conv => whnf
  have hgM : ∀ i : Nat, i < fl.length → (at' M (i : Int)).heat = (at' fl (i : Int)).heat ∧ (at' M (i : Int)).aft = (at' fl (i : Int)).aft ∧ (at' fl (i : Int)).hold ≤ (at' M (i : Int)).hold ∧ (at' M (i : Int)).hold ≤ 2000 := fun i hi => by
    rw [hM0 i hi]
    have g := (hgood i hi).hold
    split
    · refine ⟨rfl, rfl, ?_, ?_⟩
      · show _ ≤ min 2000 (_ + ad)
        omega
      · show min 2000 (_ + ad) ≤ _
        omega
    · exact ⟨rfl, rfl, Int.le_refl _, g.2⟩
  have hM0' : firesE M = 0 := (fires_iff M).mpr ⟨by omega, fun i hi => by
    rw [hMl] at hi
    obtain ⟨g1, g2, g3, g4⟩ := hgM i hi
    have g := hgood i hi
    refine ⟨by rw [g1]; exact g.heat, ⟨Int.le_trans g.hold.1 g3, g4⟩, by rw [g2, hMl]; exact g.aft, by rw [g2]; exact g.other⟩⟩
  have hmono : ∀ o, RightP fl o → RightP M o := fun o h => right_mono hMl hM0' (fun i h0 h1 => by
    obtain ⟨i, rfl⟩ := Int.eq_ofNat_of_zero_le h0
    have := hgM i (by omega)
    exact ⟨this.1, this.2.1, this.2.2.1⟩) h
  have hMa : ∀ i : Nat, i < M.length → (at' M (i : Int)).aft.length ≤ 100 := fun i hi => by
    rw [(hgM i (by omega)).2.1]; exact haft i (by omega)
  refine loop_rule (X := Nat × Int) (fun x => [(7, frsl fl), (8, .mslice 1 0 fl.length fl.length false), (9, .mslice 2 0 fl.length fl.length false), (10, .int .i64 x.2), (11, .int .i64 x.1)]) (fun _ => [S1 s1, .live 3 (M.map frR), .live 3 (fl.map frR)]) (fun x => fl.length - x.1) (fun x => x.1 ≤ fl.length ∧ 0 ≤ x.2 ∧ x.2 ≤ 2000 ∧ ∀ j : Nat, j < x.1 → (at' fl (j : Int)).heat ≤ x.2) (0, 0)
    ⟨Nat.zero_le _, by decide, by decide, fun j hj => by omega⟩ ⟨rfl, rfl, rfl, rfl, rfl, trivial⟩ rfl (fun _ _ => rfl) (fun x hx => ?_)
  obtain ⟨i, top⟩ := x
  obtain ⟨hi, ht0, ht1, hall⟩ := hx
  dsimp only at hi ht0 ht1 hall ⊢
  rcases Nat.lt_or_ge i fl.length with hlt | hge
  · have hhe := (hgood i hlt).heat
    have hnx : ∀ j : Nat, j < i + 1 → (at' fl (j : Int)).heat ≤ max top (at' fl (i : Int)).heat := fun j hj => by
      by_cases q : j = i
      · subst q; omega
      · have := hall j (by omega); omega
    generalize hfi : (at' fl (i : Int)).heat = hi' at *
    repeat' ((conv => whnf); first | (refine condP.dec (fun _ => ?_) (fun h => absurd (by omega) h)) | (refine onSome.intro (load_fs (l := fl) (enc := frR) (i := (i : Int)) (v := .int .i64 hi') rfl (by omega) (by omega) (by rw [← hfi]; rfl)) ?_) | (first | refine condP.dec (fun h => ?_) (fun h => ?_) | refine condP.eq (fun h => ?_) (fun h => ?_) | refine condP.ne (fun h => ?_) (fun h => ?_)) | (refine .i64 (by omega) (by omega) ?_) | (refine onSome.intro (idx_fs rfl rfl (by omega) (by omega) (fun _ => rfl)) ?_) | (refine onSome.intro (load_fs rfl (by omega) (by omega) rfl) ?_) | (refine And.intro rfl ?_))
    all_goals conv => whnf
    exact .more (i + 1, max top hi') rfl ⟨by dsimp only; omega, by dsimp only; omega, by dsimp only; omega, hnx⟩ (by dsimp only; omega) ⟨rfl, rfl, rfl, rfl, rfl, trivial⟩ rfl ⟨(frsl_no _).inn _, .mslice _ _ _ _ _ (by simp), .mslice _ _ _ _ _ (by simp), .int _ _, .int _ _, trivial⟩ ⟨(fun j k h h' => (S1_no s1 _ (List.getElem_mem h) _ (List.getElem_mem h')).inn _), (fun j k h h' => (noS_map (sz := 3) (enc := frR) frR_no _ (List.getElem_mem h) _ (List.getElem_mem h')).inn _), (fun j k h h' => (noS_map (sz := 3) (enc := frR) frR_no _ (List.getElem_mem h) _ (List.getElem_mem h')).inn _), trivial⟩
  obtain rfl : i = fl.length := by omega
  repeat' ((conv => whnf); first | (refine condP.dec (fun h => absurd h (by omega)) (fun _ => ?_)) | (first | refine condP.dec (fun h => ?_) (fun h => ?_) | refine condP.eq (fun h => ?_) (fun h => ?_) | refine condP.ne (fun h => ?_) (fun h => ?_)) | (refine .i64 (by omega) (by omega) ?_) | (refine onSome.intro (idx_fs rfl rfl (by omega) (by omega) (fun _ => rfl)) ?_) | (refine onSome.intro (load_fs rfl (by omega) (by omega) rfl) ?_) | (refine And.intro rfl ?_))
  refine .done (by simp) ?_
  conv => whnf
  refine loop_rule (X := Nat) (fun i => [(7, frsl fl), (8, .mslice 1 0 fl.length fl.length false), (9, .mslice 2 0 fl.length fl.length false), (10, .int .i64 top), (12, .int .i64 i)]) (fun i => [S1 s1, .live 3 (M.map frR), .live 3 ((freeL fl top i).map frB)]) (fun i => fl.length - i) (fun i => i ≤ fl.length) 0
    (Nat.zero_le _) ⟨rfl, rfl, rfl, rfl, rfl, trivial⟩ (by show [_, _, _] = [_, _, _]; rw [freeL_zero, List.map_map]; rfl) (fun _ _ => rfl) (fun i hi => ?_)
  have hfl' := freeL_len fl top i
  rcases Nat.lt_or_ge i fl.length with hlt | hge
  · have hat := freeL_at (top := top) hlt
    have hset := freeL_set (top := top) hlt
    generalize fl[i] = f at *
    repeat' ((conv => whnf); first | (refine condP.dec (fun _ => ?_) (fun h => absurd (by omega) h)) | (refine onSome.intro (idx_ms rfl rfl rfl (by omega) (by omega)) ?_) | (refine onSome.intro (a := frR f) (by show ((freeL fl top i).map frB)[i]? = _; rw [List.getElem?_map, hat]; rfl) ?_) | (first | refine condP.dec (fun h => ?_) (fun h => ?_) | refine condP.eq (fun h => ?_) (fun h => ?_) | refine condP.ne (fun h => ?_) (fun h => ?_)) | (refine .i64 (by omega) (by omega) ?_) | (refine onSome.intro (idx_fs rfl rfl (by omega) (by omega) (fun _ => rfl)) ?_) | (refine onSome.intro (load_fs rfl (by omega) (by omega) rfl) ?_) | (refine And.intro rfl ?_))
    refine store_enc (enc := frB) (l := freeL fl top i) (a := (⟨f.heat, top, f.aft⟩, false)) (l' := (freeL fl top i).set i (⟨f.heat, top, f.aft⟩, false)) rfl rfl ?_
    repeat' ((conv => whnf); first | (refine onSome.intro (idx_ms rfl rfl rfl (by omega) (by omega)) ?_) | (refine onSome.intro (a := [.int .i64 f.heat, .int .i64 top, sl f.aft]) (by show (((freeL fl top i).set i (⟨f.heat, top, f.aft⟩, false)).map frB)[i]? = _; rw [List.getElem?_map, List.getElem?_set_self (by omega)]; rfl) ?_) | (first | refine condP.dec (fun h => ?_) (fun h => ?_) | refine condP.eq (fun h => ?_) (fun h => ?_) | refine condP.ne (fun h => ?_) (fun h => ?_)) | (refine .i64 (by omega) (by omega) ?_) | (refine onSome.intro (idx_fs rfl rfl (by omega) (by omega) (fun _ => rfl)) ?_) | (refine onSome.intro (load_fs rfl (by omega) (by omega) rfl) ?_) | (refine And.intro rfl ?_))
    refine store_enc (enc := frB) (l := (freeL fl top i).set i (⟨f.heat, top, f.aft⟩, false)) (a := (⟨f.heat, top, []⟩, true)) (l' := freeL fl top (i + 1)) rfl (by show ((freeL fl top i).set i _).set i _ = _; rw [List.set_set]; exact hset) ?_
    (repeat ((conv => whnf); refine And.intro rfl ?_)); conv => whnf
    refine .i64 (by omega) (by omega) ?_
    conv => whnf
    exact .more (i + 1) rfl (by omega) (by omega) ⟨rfl, rfl, rfl, rfl, rfl, trivial⟩ rfl ⟨(frsl_no _).inn _, .mslice _ _ _ _ _ (by simp), .mslice _ _ _ _ _ (by simp), .int _ _, .int _ _, trivial⟩ ⟨(fun j k h h' => (S1_no s1 _ (List.getElem_mem h) _ (List.getElem_mem h')).inn _), (fun j k h h' => (noS_map (sz := 3) (enc := frR) frR_no _ (List.getElem_mem h) _ (List.getElem_mem h')).inn _), (fun j k h h' => (noS_map (sz := 3) (enc := frB) frB_no _ (List.getElem_mem h) _ (List.getElem_mem h')).inn _), trivial⟩
  obtain rfl : i = fl.length := by omega
  repeat' ((conv => whnf); first | (refine condP.dec (fun h => absurd h (by omega)) (fun _ => ?_)) | (first | refine condP.dec (fun h => ?_) (fun h => ?_) | refine condP.eq (fun h => ?_) (fun h => ?_) | refine condP.ne (fun h => ?_) (fun h => ?_)) | (refine .i64 (by omega) (by omega) ?_) | (refine onSome.intro (idx_fs rfl rfl (by omega) (by omega) (fun _ => rfl)) ?_) | (refine onSome.intro (load_fs rfl (by omega) (by omega) rfl) ?_) | (refine And.intro rfl ?_))
  refine .done (by simp) ?_
  obtain ⟨F, hF⟩ : ∃ F : List Fire, F = fl.map (fun f => (⟨f.heat, top, []⟩ : Fire)) := ⟨_, rfl⟩
  have hFl : F.length = fl.length := by rw [hF, List.length_map]
  have hFat : ∀ i : Nat, i < fl.length → at' F (i : Int) = ⟨(at' fl (i : Int)).heat, top, []⟩ := fun i hi => by
    subst hF
    rw [at'_get (by omega), at'_get hi, List.getElem_map]
  have hF0 : firesE F = 0 := (fires_iff F).mpr ⟨by omega, fun i hi => by
    rw [hFl] at hi
    rw [hFat i hi]
    exact ⟨(hgood i hi).heat, ⟨ht0, ht1⟩, ascB_nil _, fun k hk => by simp at hk⟩⟩
  have hFa : ∀ i : Int, 0 ≤ i → i < F.length → (at' F i).aft = [] := fun i h0 h1 => by
    obtain ⟨i, rfl⟩ := Int.eq_ofNat_of_zero_le h0
    rw [hFat i (by omega)]
  have hFh : ∀ i k : Int, 0 ≤ i → i < F.length → 0 ≤ k → k < F.length → (at' F i).heat ≤ (at' F k).hold := fun i k h0 h1 h2 h3 => by
    obtain ⟨i, rfl⟩ := Int.eq_ofNat_of_zero_le h0
    obtain ⟨k, rfl⟩ := Int.eq_ofNat_of_zero_le h2
    rw [hFat i (by omega), hFat k (by omega)]
    exact hall i (by omega)
  have hfree := free_all hF0 hFa hFh
  have hfr := fun o ho => @right_free F hF0 hFa hFh o ho
  have hFz : ∀ {H H' : Heap}, FzE H H' ((freeL fl top fl.length).map frB) (F.map frR) := by rw [hF]; exact frB_frz
  rw [hFl] at hfree hfr
  have hw1 : ∀ {H' : Heap}, (∀ sz e, H' 1 ≠ .live sz e) → ∀ {H : Heap}, H 1 = .live 3 (M.map frR) → Frz H H' (.mslice 1 0 fl.length fl.length false) (frsl M) := fun h1 _ h2 => .whole h2 h1 (by rw [List.length_map, hMl]) (.refl _)
  have hw2 : ∀ {H' : Heap}, (∀ sz e, H' 2 ≠ .live sz e) → ∀ {H : Heap}, H 2 = .live 3 ((freeL fl top fl.length).map frB) → Frz H H' (.mslice 2 0 fl.length fl.length false) (frsl F) := fun h1 _ h2 => .whole h2 h1 (by rw [List.length_map, hfl']) hFz
  have kc := Count_ok F (by omega) (fun i hi => by rw [hFat i (by omega)]; simp)
  unfold countR at kc
  rw [if_neg (by simp [hF0]), hfree] at kc
  have kp := permutations_ok fl.length (by omega) fl.length [] (by simp)
  have hpl := permL_len fl.length (by omega) fl.length []
  have hpow : 8 ^ fl.length ≤ 8 ^ 5 := Nat.pow_le_pow_right (by omega) (by omega)
  have hmem : ∀ o ∈ permL fl.length fl.length [], o.length = fl.length := fun o ho => by
    obtain ⟨t, rfl, ht⟩ := permL_pre ho
    simpa using ht
  clear hfree
  generalize permL fl.length fl.length [] = P at *
  have e6 : (P.map el).length = P.length := List.length_map ..
  have hPb : P.length ≤ 32768 := by
    have : (8 : Nat) ^ 5 = 32768 := by decide
    omega
  clear hpl hpow
  repeat' ((conv => whnf); first | (refine CallP.frz [] rfl [.int .i64 fl.length, sl []] (.cons (by rw [e5]; exact .refl _) (.cons .nil .nil)) ?_) | (refine CallP.pure kp ?_) | (first | refine condP.dec (fun h => ?_) (fun h => ?_) | refine condP.eq (fun h => ?_) (fun h => ?_) | refine condP.ne (fun h => ?_) (fun h => ?_)) | (refine .i64 (by omega) (by omega) ?_) | (refine onSome.intro (idx_fs rfl rfl (by omega) (by omega) (fun _ => rfl)) ?_) | (refine onSome.intro (load_fs rfl (by omega) (by omega) rfl) ?_) | (refine And.intro rfl ?_))
  refine loop_rule (X := Nat) (fun i => [(7, frsl fl), (8, .mslice 1 0 fl.length fl.length false), (9, .mslice 2 0 fl.length fl.length false), (13, sll P), (14, .int .i64 i)]) (fun _ => [S1 s1, .live 3 (M.map frR), .live 3 ((freeL fl top fl.length).map frB)]) (fun i => P.length - i) (fun i => i ≤ P.length) 0
    (Nat.zero_le _) ⟨rfl, rfl, rfl, rfl, rfl, trivial⟩ rfl (fun _ _ => rfl) (fun i hi => ?_)
  rcases Nat.lt_or_ge i P.length with hlt | hge
  · have hom := hmem _ (List.getElem_mem hlt)
    have hor := hfr _ (List.getElem_mem hlt)
    rw [← at'_get hlt] at hom hor
    have q := Right_any fl (by omega) (fun i hi => by have := haft i hi; omega) (at' P (i : Int)) (by omega)
    obtain ⟨w', hw', kw⟩ := q
    have q := Right_any M (by omega) (fun i hi => by have := hMa i hi; omega) (at' P (i : Int)) (by omega)
    obtain ⟨v, hv, kv⟩ := q
    have q := Right_any F (by omega) (fun i hi => by rw [hFat i (by omega)]; simp) (at' P (i : Int)) (by omega)
    obtain ⟨u, hu, kF⟩ := q
    have : u = true := hu.mpr hor
    subst this
    clear hu hor
    generalize ho : at' P (i : Int) = o at *
    cases w'
    · repeat' ((conv => whnf); first | (refine condP.dec (fun _ => ?_) (fun h => absurd (by omega) h)) | (refine onSome.intro (load_fs (l := P) (enc := el) (i := (i : Int)) (v := sl o) rfl (by omega) (by omega) (by rw [ho]; rfl)) ?_) | (refine CallP.pure kw ?_) | (refine CallP.borrow [2] rfl (.cons (hw2 (fun _ _ h => by cases h) rfl) (.cons (.refl _) .nil)) (nn_cons (frsl_no _) (nn_cons (sl_no _) nn_none)) kF (.bool _) ?_) | (first | refine condP.dec (fun h => ?_) (fun h => ?_) | refine condP.eq (fun h => ?_) (fun h => ?_) | refine condP.ne (fun h => ?_) (fun h => ?_)) | (refine .i64 (by omega) (by omega) ?_) | (refine onSome.intro (idx_fs rfl rfl (by omega) (by omega) (fun _ => rfl)) ?_) | (refine onSome.intro (load_fs rfl (by omega) (by omega) rfl) ?_) | (refine And.intro rfl ?_))
      conv => whnf
      exact .more (i + 1) rfl (by omega) (by omega) ⟨rfl, rfl, rfl, rfl, rfl, trivial⟩ rfl ⟨(frsl_no _).inn _, .mslice _ _ _ _ _ (by simp), .mslice _ _ _ _ _ (by simp), (sll_no _).inn _, .int _ _, trivial⟩ ⟨(fun j k h h' => (S1_no s1 _ (List.getElem_mem h) _ (List.getElem_mem h')).inn _), (fun j k h h' => (noS_map (sz := 3) (enc := frR) frR_no _ (List.getElem_mem h) _ (List.getElem_mem h')).inn _), (fun j k h h' => (noS_map (sz := 3) (enc := frB) frB_no _ (List.getElem_mem h) _ (List.getElem_mem h')).inn _), trivial⟩
    · have : v = true := hv.mpr (hmono _ (hw'.mp rfl))
      subst this
      repeat' ((conv => whnf); first | (refine condP.dec (fun _ => ?_) (fun h => absurd (by omega) h)) | (refine onSome.intro (load_fs (l := P) (enc := el) (i := (i : Int)) (v := sl o) rfl (by omega) (by omega) (by rw [ho]; rfl)) ?_) | (refine CallP.pure kw ?_) | (refine CallP.borrow [1] rfl (.cons (hw1 (fun _ _ h => by cases h) rfl) (.cons (.refl _) .nil)) (nn_cons (frsl_no _) (nn_cons (sl_no _) nn_none)) kv (.bool _) ?_) | (refine CallP.borrow [2] rfl (.cons (hw2 (fun _ _ h => by cases h) rfl) (.cons (.refl _) .nil)) (nn_cons (frsl_no _) (nn_cons (sl_no _) nn_none)) kF (.bool _) ?_) | (first | refine condP.dec (fun h => ?_) (fun h => ?_) | refine condP.eq (fun h => ?_) (fun h => ?_) | refine condP.ne (fun h => ?_) (fun h => ?_)) | (refine .i64 (by omega) (by omega) ?_) | (refine onSome.intro (idx_fs rfl rfl (by omega) (by omega) (fun _ => rfl)) ?_) | (refine onSome.intro (load_fs rfl (by omega) (by omega) rfl) ?_) | (refine And.intro rfl ?_))
      conv => whnf
      exact .more (i + 1) rfl (by omega) (by omega) ⟨rfl, rfl, rfl, rfl, rfl, trivial⟩ rfl ⟨(frsl_no _).inn _, .mslice _ _ _ _ _ (by simp), .mslice _ _ _ _ _ (by simp), (sll_no _).inn _, .int _ _, trivial⟩ ⟨(fun j k h h' => (S1_no s1 _ (List.getElem_mem h) _ (List.getElem_mem h')).inn _), (fun j k h h' => (noS_map (sz := 3) (enc := frR) frR_no _ (List.getElem_mem h) _ (List.getElem_mem h')).inn _), (fun j k h h' => (noS_map (sz := 3) (enc := frB) frB_no _ (List.getElem_mem h) _ (List.getElem_mem h')).inn _), trivial⟩
  obtain rfl : i = P.length := by omega
  have kc' : ∃ z : Int, z = 0 ∧ ∀ H, Ev T (.call (.func (.func 61) [] []) [frsl F] H) (.call (.tuple [.int .i64 ((P.map el).length : Int), .int .i64 z]) H) := ⟨0, rfl, by rw [e6]; exact kc⟩
  obtain ⟨z, hz0, kc'⟩ := kc'
  repeat' ((conv => whnf); first | (refine condP.dec (fun h => absurd h (by omega)) (fun _ => ?_)) | (first | refine condP.dec (fun h => ?_) (fun h => ?_) | refine condP.eq (fun h => ?_) (fun h => ?_) | refine condP.ne (fun h => ?_) (fun h => ?_)) | (refine .i64 (by omega) (by omega) ?_) | (refine onSome.intro (idx_fs rfl rfl (by omega) (by omega) (fun _ => rfl)) ?_) | (refine onSome.intro (load_fs rfl (by omega) (by omega) rfl) ?_) | (refine And.intro rfl ?_))
  refine .done (by simp) ?_
  conv => whnf
  refine CallP.borrow [2] rfl (.cons (hw2 (fun _ _ h => by cases h) rfl) .nil) (nn_cons (frsl_no _) nn_none) kc' (.tupleL (.cons (.int _ _) (.cons (.int _ _) .nil))) ?_
  conv => whnf
  refine condP.eq (fun _ => ?_) (fun h => absurd hz0 h)
  conv => whnf
  refine condP.same1 ?_
  conv => whnf
  refine CallP.pure awake_ok ?_
  conv => whnf
  exact PureP.intro (.bool true) (.inl rfl) rfl (.refl _)

end Go.Proofs.Ytpbadgghhiommaa.I
