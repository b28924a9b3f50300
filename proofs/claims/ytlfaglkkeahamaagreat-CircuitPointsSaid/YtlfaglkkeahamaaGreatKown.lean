/- Lists that are made. -/
import Derived.Test.YtlfaglkkeahamaaGreatKat
import Derived.Test.YtlfaglkkeahamaaGreatKkit
set_option linter.unusedVariables false
set_option maxHeartbeats 4000000
set_option linter.unusedSimpArgs false
namespace Go.Proofs.YtlfaglkkeahamaaGreat.I
open Go.Ideal

theorem Own_ok (l : List Int) (hl : l.length ≤ 1000000) (H : Heap) (n : Nat) (hn : H n = .free) : Ev T (.call (.func (.func 147) [] []) [sl l] H) (.call (.mslice n 0 l.length l.length l.isEmpty) (H.set n (.live 1 (l.map ei)))) := by
  have key := run_new T147 (args := [sl l]) (P := fun v k s => v = .mslice k 0 l.length l.length l.isEmpty ∧ s = .live 1 (l.map ei)) (nn_cons (sl_no _) nn_none) (by
    cases l with
    | nil =>
      conv => whnf
      refine .none rfl rfl rfl ?_
      conv => whnf
      exact .intro (.mslice 0 0 0 0 true) 0 (.live 1 []) ⟨rfl, rfl⟩ (.inl rfl) rfl rfl (fun e he => by cases he) (.mslice _ _ _ _ _ rfl)
    | cons a l =>
      conv => whnf
      refine .full rfl rfl rfl rfl (by simp) ei_len ei_ok (List.nil_append _) (List.length_map ..) (by simp only [List.length_cons] at hl ⊢; omega) ?_
      conv => whnf
      refine .intro (.mslice 1 0 (l.length + 1) (l.length + 1) false) 1 (.live 1 ((a :: l).map ei)) ⟨rfl, rfl⟩ (.inl rfl) rfl rfl (fun e he x hx => ?_) (.mslice _ _ _ _ _ rfl)
      obtain ⟨b, _, rfl⟩ := List.mem_map.mp he
      simp only [ei, List.mem_singleton] at hx
      subst hx; exact .int _ _)
  obtain ⟨v, k, s, ⟨rfl, rfl⟩, _, h⟩ := key
  have := h H n hn
  simpa [IV.ren, sw] using this
theorem Own0_ok (H : Heap) (n : Nat) (hn : H n = .free) : Ev T (.call (.func (.func 147) [] []) [.nilslice] H) (.call (.mslice n 0 0 0 true) (H.set n (.live 1 []))) := by
  have key := run_new T147 (args := [.nilslice]) (P := fun v k s => v = .mslice k 0 0 0 true ∧ s = .live 1 []) (nn_cons .nilslice nn_none) (by
    conv => whnf
    refine .none rfl rfl rfl ?_
    conv => whnf
    exact .intro (.mslice 0 0 0 0 true) 0 (.live 1 []) ⟨rfl, rfl⟩ (.inl rfl) rfl rfl (fun e he => by cases he) (.mslice _ _ _ _ _ rfl))
  obtain ⟨v, k, s, ⟨rfl, rfl⟩, _, h⟩ := key
  have := h H n hn
  simpa [IV.ren, sw] using this

/-- A list, or none. -/
def osl : List Int → IV
  | [] => .nilslice
  | a :: l => sl (a :: l)
theorem osl_ne {l : List Int} (h : l ≠ []) : osl l = sl l := by cases l with | nil => exact absurd rfl h | cons a l => rfl
theorem osl_no (l : List Int) : Noname (osl l) := by cases l with | nil => exact .nilslice | cons a l => exact sl_no _
/-- A number put in its place. -/
theorem put_ok {lo hi n : Int} {l : List Int} {P : Nat} (h : LinesOk lo hi l) (hP : P ≤ l.length) (hlt : ∀ j, j < P → nth l j < n) (hge : P < l.length → n < nth l P) (h0 : lo ≤ n) (h1 : n ≤ hi) :
    LinesOk lo hi ((l.take P ++ [n]) ++ l.drop P) := by
  have hlen : ((l.take P ++ [n]) ++ l.drop P).length = l.length + 1 := by
    simp only [List.length_append, List.length_take, List.length_drop, List.length_cons, List.length_nil]; omega
  constructor
  · apply asc_of_next
    intro k hk hkl
    rw [hlen] at hkl
    rw [nth_ins l n hP, nth_ins l n hP]
    by_cases c1 : k < P
    · rw [if_pos (by omega), if_pos c1]; exact h.asc _ _ (by omega) (by omega)
    · rw [if_neg c1]
      by_cases c2 : k = P
      · rw [if_pos (by omega), if_pos c2]; exact hlt _ (by omega)
      · rw [if_neg c2]
        by_cases c3 : k = P + 1
        · subst c3
          rw [if_neg (by omega), if_pos (by omega)]
          exact hge (by omega)
        · rw [if_neg (by omega), if_neg (by omega)]; exact h.asc _ _ (by omega) (by omega)
  · intro i hi
    rw [hlen] at hi
    rw [nth_ins l n hP]
    split
    · exact h.bnd i (by omega)
    · split
      · exact ⟨h0, h1⟩
      · exact h.bnd (i - 1) (by omega)
theorem Lines_ok (s lo hi most : Int) (h : lo ≤ hi) (h0 : -1000000 ≤ lo) (h1 : hi ≤ 1000000) (hm : 1 ≤ most) (hm1 : most ≤ 1000) : ∃ (l : List Int) (s' : Int), LinesOk lo hi l ∧ 1 ≤ l.length ∧ (l.length : Int) ≤ most ∧
    ∀ (H : Heap) (n : Nat), H n = S1 s → Ev T (.call (.func (.func 130) [] []) [.ptr n 0 0, .int .i64 lo, .int .i64 hi, .int .i64 most] H) (.call (sl l) (H.set n (S1 s'))) := by
  have key := run_one_some T130 (i := 0) (off := 0) (args := [.int .i64 lo, .int .i64 hi, .int .i64 most]) (s := S1 s) (P := fun v z => ∃ (l : List Int) (s' : Int), v = sl l ∧ z = S1 s' ∧ LinesOk lo hi l ∧ 1 ≤ l.length ∧ (l.length : Int) ≤ most)
    (nn_cons (nn_int _ _) (nn_cons (nn_int _ _) (nn_cons (nn_int _ _) nn_none))) (S1_no _) (by
    have hb := Between_any s 1 most hm (by omega) (by omega)
    obtain ⟨m, s1, m0, m1, km⟩ := hb
    conv => whnf
    refine CallP.one (fun H hb => km H _ hb) rfl ?_
    conv => whnf
    refine loop_rule (X := List Int × Int × Nat) (fun x => [(0, .ptr 0 0 0), (1, .int .i64 lo), (2, .int .i64 hi), (9, osl x.1), (10, .int .i64 x.2.2)]) (fun x => [S1 x.2.1]) (fun x => x.2.2)
      (fun x => LinesOk lo hi x.1 ∧ x.1.length + x.2.2 ≤ m.toNat ∧ (0 < x.2.2 ∨ 0 < x.1.length)) ([], s1, m.toNat)
      ⟨⟨fun i j _ hj => by simp at hj, fun i hi => by simp at hi⟩, by simp, by simp only; omega⟩ ⟨rfl, rfl, rfl, rfl, by simp only [ep]; rw [show ((m.toNat : Nat) : Int) = m by omega], trivial⟩ rfl (fun _ _ => rfl) (fun x hx => ?_)
    obtain ⟨l, s, q⟩ := x
    obtain ⟨hl, hq, hz⟩ := hx
    dsimp only at hl hq hz ⊢
    have e1 : (l.map ei).length = l.length := List.length_map ..
    have hb := Between_any s lo hi h (by omega) (by omega)
    obtain ⟨n, s2, n0, n1, kn⟩ := hb
    by_cases hne : l = []
    · subst hne
      conv => whnf
      refine condP.dec (fun hc => ?_) (fun hc => ?_)
      · have hl' : LinesOk lo hi [n] := ⟨fun i j a b => by simp at b; omega, fun i hi => by
          obtain rfl : i = 0 := by simpa using hi
          exact ⟨n0, n1⟩⟩
        conv => whnf
        refine CallP.one (fun H hb => kn H _ hb) rfl ?_
        conv => whnf
        refine loop_step ?_
        conv => whnf
        refine CallP.new Own0_ok ?_
        (repeat ((conv => whnf); refine And.intro rfl ?_)); conv => whnf
        refine .full rfl rfl rfl rfl (by simp) (r := [n].map ei) (fun e he => by simp at he; subst he; rfl) (fun e he c hc => by simp at he; subst he; simp at hc; subst hc; rfl) rfl (n' := 1) rfl (by omega) ?_
        (repeat ((conv => whnf); refine And.intro rfl ?_)); conv => whnf
        refine .none rfl rfl rfl ?_
        repeat' ((conv => whnf); first | (first | refine condP.dec (fun h => ?_) (fun h => ?_) | refine condP.eq (fun h => ?_) (fun h => ?_) | refine condP.ne (fun h => ?_) (fun h => ?_)) | (refine .i64 (by omega) (by omega) ?_) | (refine onSome.intro (idx_fs rfl rfl (by omega) (by omega) (fun _ => rfl)) ?_) | (refine onSome.intro (load_fs rfl (by omega) (by omega) rfl) ?_) | (refine And.intro rfl ?_))
        conv => whnf
        exact .moreF ([n], s2, q - 1) rfl ⟨hl', by simp at hq ⊢; omega, .inr (by simp)⟩ (by dsimp only; omega) ⟨.refl _, .refl _, .refl _, .ints (sz := 1) rfl (fun _ _ h => by cases h) rfl, frz_int (by dsimp only; omega), trivial⟩ rfl
          ⟨.ptr _ _ _ (by simp), .int _ _, .int _ _, (sl_no _).inn _, .int _ _, trivial⟩ ⟨fun j k h h' => (S1_no _ _ (List.getElem_mem h) _ (List.getElem_mem h')).inn _, trivial⟩
      · exfalso; simp at hz; omega
    · have hpos : 0 < l.length := List.length_pos_iff.mpr hne
      rw [osl_ne hne]
      conv => whnf
      refine condP.dec (fun hc => ?_) (fun hc => ?_)
      · conv => whnf
        refine CallP.one (fun H hb => kn H _ hb) rfl ?_
        conv => whnf
        refine loop_rule (X := Nat) (fun j => [(0, .ptr 0 0 0), (1, .int .i64 lo), (2, .int .i64 hi), (9, sl l), (10, .int .i64 q), (11, .int .i64 n), (12, .int .i64 j)]) (fun _ => [S1 s2]) (fun j => l.length - j) (fun j => j ≤ l.length ∧ ∀ i, i < j → nth l i < n) 0
          ⟨Nat.zero_le _, fun i hi => by omega⟩ ⟨rfl, rfl, rfl, rfl, rfl, rfl, rfl, trivial⟩ rfl (fun _ _ => rfl) (fun j hj => ?_)
        obtain ⟨hj, hlt⟩ := hj
        have f0 : at' l (j : Int) = nth l j := rfl
        have nextI : nth l j < n → ∀ i, i < j + 1 → nth l i < n := fun a i hi => by
          rcases Nat.lt_or_ge i j with c | c
          · exact hlt i c
          · obtain rfl : i = j := by omega
            exact a
        have putI : (j < l.length → n < nth l j) → LinesOk lo hi ((l.take j ++ [n]) ++ l.drop j) := fun a => put_ok hl hj hlt a n0 n1
        have plen : ((l.take j ++ [n]) ++ l.drop j).length = l.length + 1 := by
          simp only [List.length_append, List.length_take, List.length_drop, List.length_cons, List.length_nil]; omega
        have tlen : (l.take j).length = j := by rw [List.length_take]; omega
        have dlen : (l.drop j).length = l.length - j := List.length_drop ..
        -- what is left to do in a round
        have hs2 : ∀ (S : Nat → Prop) (j k : Nat) (h : j < [[IV.int .u64 s2]].length) (h' : k < ([[IV.int .u64 s2]][j]).length), Inn S ([[IV.int .u64 s2]][j][k]) := fun S j k h h' => (S1_no s2 _ (List.getElem_mem h) _ (List.getElem_mem h')).inn _
        repeat' ((conv => whnf); first | (first | refine condP.dec (fun h => ?_) (fun h => ?_) | refine condP.eq (fun h => ?_) (fun h => ?_) | refine condP.ne (fun h => ?_) (fun h => ?_)) | (refine .i64 (by omega) (by omega) ?_) | (refine onSome.intro (idx_fs rfl rfl (by omega) (by omega) (fun _ => rfl)) ?_) | (refine onSome.intro (load_fs rfl (by omega) (by omega) rfl) ?_) | (refine And.intro rfl ?_))
        all_goals conv => whnf
        all_goals try (exact .more (j + 1) rfl ⟨by omega, nextI (by omega)⟩ (by omega) ⟨rfl, rfl, rfl, rfl, rfl, rfl, rfl, trivial⟩ rfl ⟨.ptr _ _ _ (by simp), .int _ _, .int _ _, (sl_no _).inn _, .int _ _, .int _ _, .int _ _, trivial⟩ ⟨hs2 _, trivial⟩)
        all_goals refine .done (by simp) ?_
        all_goals repeat' ((conv => whnf); first | (first | refine condP.dec (fun h => ?_) (fun h => ?_) | refine condP.eq (fun h => ?_) (fun h => ?_) | refine condP.ne (fun h => ?_) (fun h => ?_)) | (refine .i64 (by omega) (by omega) ?_) | (refine onSome.intro (idx_fs rfl rfl (by omega) (by omega) (fun _ => rfl)) ?_) | (refine onSome.intro (load_fs rfl (by omega) (by omega) rfl) ?_) | (refine And.intro rfl ?_))
        all_goals first | (exfalso; omega) | skip
        all_goals conv => whnf
        all_goals first
          | exact .moreF (l, s2, q - 1) rfl ⟨hl, by dsimp only; omega, .inr hpos⟩ (by dsimp only; omega) ⟨.refl _, .refl _, .refl _, by dsimp only; rw [osl_ne hne]; exact .refl _, frz_int (by dsimp only; omega), trivial⟩ rfl
              ⟨.ptr _ _ _ (by simp), .int _ _, .int _ _, (osl_no _).inn _, .int _ _, trivial⟩ ⟨hs2 _, trivial⟩
          | skip
        all_goals
          rcases Nat.eq_zero_or_pos j with hj0 | hj0
          · have own : ∀ (H : Heap) (n : Nat), H n = .free → Ev T (.call (.func (.func 147) [] []) [sl (l.take j)] H) (.call (.mslice n 0 0 0 true) (H.set n (.live 1 []))) := by
              intro H n hn
              have := Own_ok (l.take j) (by omega) H n hn
              subst hj0
              exact this
            conv => whnf
            refine onSome.intro (slice_to (l := l) (enc := ei) rfl rfl (by omega) (by omega) (by decide)) ?_
            conv => whnf
            refine onSome.intro (slice_from (l := l) (enc := ei) rfl rfl (by omega) (by omega) (by decide) (fun _ => rfl)) ?_
            conv => whnf
            refine CallP.new own ?_
            conv => whnf
            refine And.intro (slice_from (l := l) (enc := ei) rfl rfl (by omega) (by omega) (by decide) (fun _ => rfl)) ?_
            conv => whnf
            refine .full rfl rfl (es' := [n].map ei) rfl rfl (by simp) (fun e he => by simp at he; subst he; rfl) (fun e he c hc => by simp at he; subst he; simp [ei] at hc; subst hc; rfl) (r := (l.take j ++ [n]).map ei) (by rw [hj0]; rfl) (n' := j + 1) (by rw [List.length_map, List.length_append, tlen]; rfl) (by omega) ?_
            conv => whnf
            refine And.intro (slice_from (l := l) (enc := ei) rfl rfl (by omega) (by omega) (by decide) (fun _ => rfl)) ?_
            conv => whnf
            refine .grow rfl rfl (by rw [List.length_map, List.length_append, tlen]; rfl) rfl (fun q => by have := congrArg List.length q; simp at this; omega) ei_len ei_ok (r := ((l.take j ++ [n]) ++ l.drop j).map ei) (by simp only [List.map_append, Int.toNat_natCast]) (n' := l.length + 1) (by rw [List.length_map, plen]) (by omega) ?_
            repeat' ((conv => whnf); first | (first | refine condP.dec (fun h => ?_) (fun h => ?_) | refine condP.eq (fun h => ?_) (fun h => ?_) | refine condP.ne (fun h => ?_) (fun h => ?_)) | (refine .i64 (by omega) (by omega) ?_) | (refine onSome.intro (idx_fs rfl rfl (by omega) (by omega) (fun _ => rfl)) ?_) | (refine onSome.intro (load_fs rfl (by omega) (by omega) rfl) ?_) | (refine And.intro rfl ?_))
            conv => whnf
            exact .moreF ((l.take j ++ [n]) ++ l.drop j, s2, q - 1) rfl ⟨putI (by omega), by dsimp only; omega, .inr (by dsimp only; omega)⟩ (by dsimp only; omega) ⟨.refl _, .refl _, .refl _, by dsimp only; rw [osl_ne (List.ne_nil_of_length_pos (by omega))]; exact .ints (sz := 1) rfl (fun _ _ h => by cases h) (by omega), frz_int (by dsimp only; omega), trivial⟩ rfl
              ⟨.ptr _ _ _ (by simp), .int _ _, .int _ _, (osl_no _).inn _, .int _ _, trivial⟩ ⟨fun j k h h' => (S1_no _ _ (List.getElem_mem h) _ (List.getElem_mem h')).inn _, trivial⟩
          · have own : ∀ (H : Heap) (n : Nat), H n = .free → Ev T (.call (.func (.func 147) [] []) [sl (l.take j)] H) (.call (.mslice n 0 j j false) (H.set n (.live 1 ((l.take j).map ei)))) := by
              intro H n hn
              have := Own_ok (l.take j) (by omega) H n hn
              rw [tlen, show (l.take j).isEmpty = false by cases hh : l.take j with | nil => rw [hh] at tlen; simp at tlen; omega | cons a b => rfl] at this
              exact this
            rcases Nat.lt_or_ge j l.length with hjl | hjl
            · skip
              conv => whnf
              refine onSome.intro (slice_to (l := l) (enc := ei) rfl rfl (by omega) (by omega) (by decide)) ?_
              conv => whnf
              refine onSome.intro (slice_from (l := l) (enc := ei) rfl rfl (by omega) (by omega) (by decide) (fun _ => rfl)) ?_
              conv => whnf
              refine CallP.new own ?_
              conv => whnf
              refine And.intro (slice_from (l := l) (enc := ei) rfl rfl (by omega) (by omega) (by decide) (fun _ => rfl)) ?_
              conv => whnf
              refine .grow rfl rfl (by rw [List.length_map, tlen]) (es' := [n].map ei) rfl (by simp) (fun e he => by simp at he; subst he; rfl) (fun e he c hc => by simp at he; subst he; simp [ei] at hc; subst hc; rfl) (r := (l.take j ++ [n]).map ei) (by rw [List.map_append]) (n' := j + 1) (by rw [List.length_map, List.length_append, tlen]; rfl) (by omega) ?_
              conv => whnf
              refine And.intro (slice_from (l := l) (enc := ei) rfl rfl (by omega) (by omega) (by decide) (fun _ => rfl)) ?_
              conv => whnf
              refine .grow rfl rfl (by rw [List.length_map, List.length_append, tlen]; rfl) rfl (fun q => by have := congrArg List.length q; simp at this; omega) ei_len ei_ok (r := ((l.take j ++ [n]) ++ l.drop j).map ei) (by simp only [List.map_append, Int.toNat_natCast]) (n' := l.length + 1) (by rw [List.length_map, plen]) (by omega) ?_
              repeat' ((conv => whnf); first | (first | refine condP.dec (fun h => ?_) (fun h => ?_) | refine condP.eq (fun h => ?_) (fun h => ?_) | refine condP.ne (fun h => ?_) (fun h => ?_)) | (refine .i64 (by omega) (by omega) ?_) | (refine onSome.intro (idx_fs rfl rfl (by omega) (by omega) (fun _ => rfl)) ?_) | (refine onSome.intro (load_fs rfl (by omega) (by omega) rfl) ?_) | (refine And.intro rfl ?_))
              conv => whnf
              exact .moreF ((l.take j ++ [n]) ++ l.drop j, s2, q - 1) rfl ⟨putI (by omega), by dsimp only; omega, .inr (by dsimp only; omega)⟩ (by dsimp only; omega) ⟨.refl _, .refl _, .refl _, by dsimp only; rw [osl_ne (List.ne_nil_of_length_pos (by omega))]; exact .ints (sz := 1) rfl (fun _ _ h => by cases h) (by omega), frz_int (by dsimp only; omega), trivial⟩ rfl
                ⟨.ptr _ _ _ (by simp), .int _ _, .int _ _, (osl_no _).inn _, .int _ _, trivial⟩ ⟨fun j k h h' => (S1_no _ _ (List.getElem_mem h) _ (List.getElem_mem h')).inn _, trivial⟩
            · skip
              conv => whnf
              refine onSome.intro (slice_to (l := l) (enc := ei) rfl rfl (by omega) (by omega) (by decide)) ?_
              conv => whnf
              refine onSome.intro (slice_from (l := l) (enc := ei) rfl rfl (by omega) (by omega) (by decide) (fun _ => rfl)) ?_
              conv => whnf
              refine CallP.new own ?_
              conv => whnf
              refine And.intro (slice_from (l := l) (enc := ei) rfl rfl (by omega) (by omega) (by decide) (fun _ => rfl)) ?_
              conv => whnf
              refine .grow rfl rfl (by rw [List.length_map, tlen]) (es' := [n].map ei) rfl (by simp) (fun e he => by simp at he; subst he; rfl) (fun e he c hc => by simp at he; subst he; simp [ei] at hc; subst hc; rfl) (r := (l.take j ++ [n]).map ei) (by rw [List.map_append]) (n' := j + 1) (by rw [List.length_map, List.length_append, tlen]; rfl) (by omega) ?_
              conv => whnf
              refine And.intro (slice_from (l := l) (enc := ei) rfl rfl (by omega) (by omega) (by decide) (fun _ => rfl)) ?_
              conv => whnf
              refine .none rfl rfl (by show some _ = some _; rw [List.drop_eq_nil_of_le (by omega)]; rfl) ?_
              repeat' ((conv => whnf); first | (first | refine condP.dec (fun h => ?_) (fun h => ?_) | refine condP.eq (fun h => ?_) (fun h => ?_) | refine condP.ne (fun h => ?_) (fun h => ?_)) | (refine .i64 (by omega) (by omega) ?_) | (refine onSome.intro (idx_fs rfl rfl (by omega) (by omega) (fun _ => rfl)) ?_) | (refine onSome.intro (load_fs rfl (by omega) (by omega) rfl) ?_) | (refine And.intro rfl ?_))
              conv => whnf
              exact .moreF ((l.take j ++ [n]) ++ l.drop j, s2, q - 1) rfl ⟨putI (by omega), by dsimp only; omega, .inr (by dsimp only; omega)⟩ (by dsimp only; omega) ⟨.refl _, .refl _, .refl _, by dsimp only; rw [osl_ne (List.ne_nil_of_length_pos (by omega)), show (l.take j ++ [n]) ++ l.drop j = l.take j ++ [n] by rw [List.drop_eq_nil_of_le (by omega), List.append_nil]]; exact .ints (sz := 1) rfl (fun _ _ h => by cases h) (by simp; omega), frz_int (by dsimp only; omega), trivial⟩ rfl
                ⟨.ptr _ _ _ (by simp), .int _ _, .int _ _, (osl_no _).inn _, .int _ _, trivial⟩ ⟨fun j k h h' => (S1_no _ _ (List.getElem_mem h) _ (List.getElem_mem h')).inn _, trivial⟩
      · conv => whnf
        refine .done (by simp) ?_
        conv => whnf
        refine .intro (sl l) (S1 s) ⟨l, s, rfl, rfl, hl, hpos, by omega⟩ (sl_no _) (S1_no _) (.one (.inl rfl) rfl rfl (.refl _) (sl_no _)))
  obtain ⟨v, z, ⟨l, s', rfl, rfl, q1, q2, q3⟩, _, _, hh⟩ := key
  exact ⟨l, s', q1, q2, q3, fun H n hn => hh H n hn⟩

end Go.Proofs.YtlfaglkkeahamaaGreat.I
