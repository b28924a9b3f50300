/- The program's orders, counted: the closure that calls itself and yields. -/
import Derived.Test.YtpbadgghhiommaaGkeep
set_option linter.unusedVariables false
set_option maxHeartbeats 16000000
set_option linter.unusedSimpArgs false
namespace Go.Proofs.Ytpbadgghhiommaa.I
open Go.Ideal

abbrev growF : IV := .func (.func 128) [] [.ptr 1 0 0, .ptr 3 0 0, .ptr 4 0 0]
theorem growF_inn : Inn (· < 5) growF := .func _ _ _ (fun i h => by simp at h) (fun i h => by
  match i, h with
  | 0, _ => exact .ptr _ _ _ (by omega)
  | 1, _ => exact .ptr _ _ _ (by omega)
  | 2, _ => exact .ptr _ _ _ (by omega))
/-- Count's memory while orders are counted: the number, the fires, the loop, its yield, the closure. -/
abbrev LC (l : List Fire) (lp : Slot) (c : Int) : List Slot := [.live 1 [[.int .i64 c]], .live 1 [[frsl l]], lp, .live 1 [[.yield 2]], .live 1 [[growF]]]
def nilOr : List Int → IV
  | [] => .nilslice
  | b :: bf => sl (b :: bf)
theorem nilOr_no (bf : List Int) : Noname (nilOr bf) := by
  cases bf with
  | nil => exact .nilslice
  | cons b bf => exact sl_no _
theorem all_used {S : Nat → Prop} : ∀ {L : List Slot}, chkS S L → L.all Slot.used = true
  | [], _ => rfl
  | .live _ es :: l, h => by rw [List.all_cons, all_used (L := l) h.2]; rfl
  | .dead :: l, h => by rw [List.all_cons, all_used (L := l) h]; rfl
  | .loop E _ _ _ _ _ :: l, h => by rw [List.all_cons, all_used (L := l) h.2]; rfl
theorem growC_ok (l : List Fire) (hF : FOk l) (ha : ∀ i : Nat, i < l.length → (at' l (i : Int)).aft.length ≤ 9000000000000000000) (lp : Slot) (hLc : ∀ c, chkS (· < 5) (LC l lp c))
    (hy : ∀ (c : Int) (o : List Int), 0 ≤ c → c ≤ 1000000000 → Ev T (.call (.yield 2) [nilOr o] (Heap.of (LC l lp c))) (.call (.bool true) (Heap.of (LC l lp (c + 1))))) :
    ∀ (d : Nat) (bf : List Int) (m : Nat) (c : Int), bf.length + d = l.length → Mem l.length m bf → 0 ≤ c → c + (ordL l d bf).length ≤ 1000000000 →
    Ev T (.call growF [nilOr bf, .int .i64 (m : Int)] (Heap.of (LC l lp c))) (.call (.bool true) (Heap.of (LC l lp (c + (ordL l d bf).length))))
  | 0, bf, m, c, hb, hM, hc0, hc1 => by
    have hu : ∀ b, b < (LC l lp c).length → (Heap.of (LC l lp c)) b ≠ .free := named_of (L := LC l lp c) (hLc c)
    have e1 : (l.map frR).length = l.length := List.length_map ..
    have e3 : (bf.map ei).length = bf.length := List.length_map ..
    have hlen := hF.len
    rw [ordL] at hc1 ⊢
    have hyc := hy c bf hc0 (by simp at hc1; omega)
    have key := run_keep T128 (fs := []) (args := [nilOr bf, .int .i64 (m : Int)]) (cs := [.ptr 1 0 0, .ptr 3 0 0, .ptr 4 0 0]) (L0 := LC l lp c) (P := fun v L2 => v = .bool true ∧ L2 = LC l lp (c + 1)) hu (by
      rcases bf with _ | ⟨b0, bf⟩
      all_goals repeat' ((conv => whnf); first | (refine condP.eq (fun _ => ?_) (fun h => absurd (by simp at hb ⊢; omega) h)) | (refine .intro _ _ hyc ?_) | (first | refine condP.dec (fun h => ?_) (fun h => ?_) | refine condP.eq (fun h => ?_) (fun h => ?_) | refine condP.ne (fun h => ?_) (fun h => ?_)) | (refine .i64 (by omega) (by omega) ?_) | (refine onSome.intro (idx_fs rfl rfl (by omega) (by omega) (fun _ => rfl)) ?_) | (refine onSome.intro (load_fs rfl (by omega) (by omega) rfl) ?_) | (refine And.intro rfl ?_))
      all_goals conv => whnf
      all_goals exact .intro [(7, .bool true)] (.bool true) (LC l lp (c + 1)) (.inl rfl) ⟨rfl, trivial⟩ ⟨.bool _, trivial⟩ rfl rfl (hLc _) rfl ⟨rfl, rfl⟩)
    obtain ⟨v, L2, ⟨rfl, rfl⟩, _, hh⟩ := key
    exact hh
  | d + 1, bf, m, c, hb, hM, hc0, hc1 => by
    have ih := growC_ok l hF ha lp hLc hy d
    have hu : ∀ b, b < (LC l lp c).length → (Heap.of (LC l lp c)) b ≠ .free := named_of (L := LC l lp c) (hLc c)
    have e1 : (l.map frR).length = l.length := List.length_map ..
    have e3 : (bf.map ei).length = bf.length := List.length_map ..
    have hlen := hF.len
    have hsm := hM.small
    have hstep : ∀ i : Nat, ordP (fun i => if NextP l bf i then ordL l d (bf ++ [(i : Int)]) else []) (i + 1) = ordP (fun i => if NextP l bf i then ordL l d (bf ++ [(i : Int)]) else []) i ++ (if NextP l bf i then ordL l d (bf ++ [(i : Int)]) else []) := fun _ => rfl
    have h00 : ordP (fun i => if NextP l bf i then ordL l d (bf ++ [(i : Int)]) else []) 0 = [] := rfl
    rw [ordL] at hc1 ⊢
    generalize ordP (fun i => if NextP l bf i then ordL l d (bf ++ [(i : Int)]) else []) = P at *
    have hmono : ∀ i : Nat, i ≤ l.length → (P i).length ≤ (P l.length).length := by
      have h1 : ∀ i k : Nat, (P i).length ≤ (P (i + k)).length := fun i k => by
        induction k with
        | zero => exact Nat.le_refl _
        | succ k ihk => rw [← Nat.add_assoc, hstep, List.length_append]; omega
      intro i hi
      have := h1 i (l.length - i)
      rwa [show i + (l.length - i) = l.length by omega] at this
    have key := run_keep T128 (fs := []) (args := [nilOr bf, .int .i64 (m : Int)]) (cs := [.ptr 1 0 0, .ptr 3 0 0, .ptr 4 0 0]) (L0 := LC l lp c) (P := fun v L2 => v = .bool true ∧ L2 = LC l lp (c + (P l.length).length)) hu (by
      rcases bf with _ | ⟨b0, bf⟩
      · repeat' ((conv => whnf); first | (refine condP.eq (fun h => absurd h (by simp at hb ⊢; omega)) (fun _ => ?_)) | (first | refine condP.dec (fun h => ?_) (fun h => ?_) | refine condP.eq (fun h => ?_) (fun h => ?_) | refine condP.ne (fun h => ?_) (fun h => ?_)) | (refine .i64 (by omega) (by omega) ?_) | (refine onSome.intro (idx_fs rfl rfl (by omega) (by omega) (fun _ => rfl)) ?_) | (refine onSome.intro (load_fs rfl (by omega) (by omega) rfl) ?_) | (refine And.intro rfl ?_))
        conv => whnf
        refine loop_rule (X := Nat) (fun i => [(0, nilOr []), (1, .int .i64 (m : Int)), (2, .ptr 1 0 0), (3, .ptr 3 0 0), (4, .ptr 4 0 0), (18, .int .i64 l.length), (19, .int .i64 i)]) (fun i => LC l lp (c + (P i).length)) (fun i => l.length - i) (fun i => i ≤ l.length) 0
          (Nat.zero_le _) ⟨rfl, rfl, rfl, rfl, rfl, by show i6 _ = i6 _; rw [e1], rfl, trivial⟩ (by rw [h00, show c + (([] : List (List Int)).length : Int) = c by simp]) (fun _ _ => rfl) (fun i hi => ?_)
        rcases Nat.lt_or_ge i l.length with hlt | hge
        · have q := may_any l hF ha m [] hM i hlt
          obtain ⟨w, hw, kw⟩ := q
          have hsi := hstep i
          have hm1 := hmono (i + 1) (by omega)
          cases w
          · rw [if_neg (fun h => by have := hw.mpr h; cases this), List.append_nil] at hsi
            repeat' ((conv => whnf); first | (refine condP.dec (fun _ => ?_) (fun h => absurd (by omega) h)) | (refine CallP.pure kw ?_) | (first | refine condP.dec (fun h => ?_) (fun h => ?_) | refine condP.eq (fun h => ?_) (fun h => ?_) | refine condP.ne (fun h => ?_) (fun h => ?_)) | (refine .i64 (by omega) (by omega) ?_) | (refine onSome.intro (idx_fs rfl rfl (by omega) (by omega) (fun _ => rfl)) ?_) | (refine onSome.intro (load_fs rfl (by omega) (by omega) rfl) ?_) | (refine And.intro rfl ?_))
            conv => whnf
            exact .more (i + 1) rfl (by omega) (by omega) ⟨rfl, rfl, rfl, rfl, rfl, rfl, rfl, trivial⟩ (by rw [hsi]; rfl) ⟨(nilOr_no []).inn _, .int _ _, .ptr _ _ _ (by simp), .ptr _ _ _ (by simp), .ptr _ _ _ (by simp), .int _ _, .int _ _, trivial⟩ (hLc _)
          · rw [if_pos (hw.mp rfl)] at hsi
            have hput := hM.put hlen (i := (i : Int)) (by omega) (by omega)
            have hpe := putE_eq (m := m) (i := i) (by omega) (by omega)
            have hlenQ : c + ((P i).length : Int) + (ordL l d ([] ++ [(i : Int)])).length = c + ((P (i + 1)).length : Int) := by rw [hsi, List.length_append]; omega
            have kih := ih ([] ++ [(i : Int)]) (m ||| 2 ^ i) (c + (P i).length) (by simp at hb ⊢; omega) hput (by omega) (by omega)
            rw [hlenQ, ← hpe] at kih
            repeat' ((conv => whnf); first | (refine condP.dec (fun _ => ?_) (fun h => absurd (by omega) h)) | (refine CallP.pure kw ?_) | (refine CallP.inl T115 (all_used (hLc _)) ?_) | (first | refine condP.dec (fun h => ?_) (fun h => ?_) | refine condP.eq (fun h => ?_) (fun h => ?_) | refine condP.ne (fun h => ?_) (fun h => ?_)) | (refine .i64 (by omega) (by omega) ?_) | (refine onSome.intro (idx_fs rfl rfl (by omega) (by omega) (fun _ => rfl)) ?_) | (refine onSome.intro (load_fs rfl (by omega) (by omega) rfl) ?_) | (refine And.intro rfl ?_))
            conv => whnf
            refine .nil (.inl rfl) rfl (by simp) (fun e he => by simp at he; subst he; rfl) (fun e he c hc => by simp at he; subst he; simp at hc; subst hc; rfl) (n' := 1) rfl (by omega) ?_
            (repeat ((conv => whnf); refine And.intro rfl ?_)); conv => whnf
            refine CallP.frz (L := LC l lp (c + (P i).length) ++ [.live 1 [[.int .i64 (i : Int)]], .live 1 [[.int .i64 (i : Int)]]]) [6] (by rw [List.all_append, all_used (hLc _)]; rfl) [sl [(i : Int)], .int .i64 (putE m i)] (.cons (.ints (b := 6) (len := 1) (lb := 1) (ex := false) (sz := 1) (l := [(i : Int)]) rfl (fun _ _ h => by cases h) rfl) (.cons (.refl _) .nil)) ?_
            conv => whnf
            refine CallP.frameL (LC l lp (c + (P i).length)) (LC l lp (c + (P (i + 1)).length)) [.live 1 [[.int .i64 (i : Int)]], .dead] kih rfl growF_inn (fun x hx => by
              rcases List.mem_cons.mp hx with rfl | hx
              · exact (sl_no _).inn _
              · obtain rfl := List.mem_singleton.mp hx; exact .int _ _) (hLc _) (fun s hs => by
              rcases List.mem_cons.mp hs with rfl | hs
              · rfl
              · obtain rfl := List.mem_singleton.mp hs; rfl) ?_
            repeat' ((conv => whnf); first | (refine condP.dec (fun h => absurd h (by omega)) (fun _ => ?_)) | (first | refine condP.dec (fun h => ?_) (fun h => ?_) | refine condP.eq (fun h => ?_) (fun h => ?_) | refine condP.ne (fun h => ?_) (fun h => ?_)) | (refine .i64 (by omega) (by omega) ?_) | (refine onSome.intro (idx_fs rfl rfl (by omega) (by omega) (fun _ => rfl)) ?_) | (refine onSome.intro (load_fs rfl (by omega) (by omega) rfl) ?_) | (refine And.intro rfl ?_))
            all_goals conv => whnf
            all_goals exact .more (i + 1) rfl (by omega) (by omega) ⟨rfl, rfl, rfl, rfl, rfl, rfl, rfl, trivial⟩ rfl ⟨(nilOr_no []).inn _, .int _ _, .ptr _ _ _ (by simp), .ptr _ _ _ (by simp), .ptr _ _ _ (by simp), .int _ _, .int _ _, trivial⟩ (hLc _)
        · obtain rfl : i = l.length := by omega
          repeat' ((conv => whnf); first | (refine condP.dec (fun h => absurd h (by omega)) (fun _ => ?_)) | (first | refine condP.dec (fun h => ?_) (fun h => ?_) | refine condP.eq (fun h => ?_) (fun h => ?_) | refine condP.ne (fun h => ?_) (fun h => ?_)) | (refine .i64 (by omega) (by omega) ?_) | (refine onSome.intro (idx_fs rfl rfl (by omega) (by omega) (fun _ => rfl)) ?_) | (refine onSome.intro (load_fs rfl (by omega) (by omega) rfl) ?_) | (refine And.intro rfl ?_))
          all_goals refine .done (by simp) ?_
          all_goals conv => whnf
          all_goals exact .intro [(7, .bool true)] (.bool true) (LC l lp (c + (P l.length).length)) (.inl rfl) ⟨rfl, trivial⟩ ⟨.bool _, trivial⟩ rfl rfl (hLc _) rfl ⟨rfl, rfl⟩
      · repeat' ((conv => whnf); first | (refine condP.eq (fun h => absurd h (by simp at hb ⊢; omega)) (fun _ => ?_)) | (first | refine condP.dec (fun h => ?_) (fun h => ?_) | refine condP.eq (fun h => ?_) (fun h => ?_) | refine condP.ne (fun h => ?_) (fun h => ?_)) | (refine .i64 (by omega) (by omega) ?_) | (refine onSome.intro (idx_fs rfl rfl (by omega) (by omega) (fun _ => rfl)) ?_) | (refine onSome.intro (load_fs rfl (by omega) (by omega) rfl) ?_) | (refine And.intro rfl ?_))
        conv => whnf
        refine loop_rule (X := Nat) (fun i => [(0, nilOr (b0 :: bf)), (1, .int .i64 (m : Int)), (2, .ptr 1 0 0), (3, .ptr 3 0 0), (4, .ptr 4 0 0), (18, .int .i64 l.length), (19, .int .i64 i)]) (fun i => LC l lp (c + (P i).length)) (fun i => l.length - i) (fun i => i ≤ l.length) 0
          (Nat.zero_le _) ⟨rfl, rfl, rfl, rfl, rfl, by show i6 _ = i6 _; rw [e1], rfl, trivial⟩ (by rw [h00, show c + (([] : List (List Int)).length : Int) = c by simp]) (fun _ _ => rfl) (fun i hi => ?_)
        rcases Nat.lt_or_ge i l.length with hlt | hge
        · have q := may_any l hF ha m (b0 :: bf) hM i hlt
          obtain ⟨w, hw, kw⟩ := q
          have hsi := hstep i
          have hm1 := hmono (i + 1) (by omega)
          cases w
          · rw [if_neg (fun h => by have := hw.mpr h; cases this), List.append_nil] at hsi
            repeat' ((conv => whnf); first | (refine condP.dec (fun _ => ?_) (fun h => absurd (by omega) h)) | (refine CallP.pure kw ?_) | (first | refine condP.dec (fun h => ?_) (fun h => ?_) | refine condP.eq (fun h => ?_) (fun h => ?_) | refine condP.ne (fun h => ?_) (fun h => ?_)) | (refine .i64 (by omega) (by omega) ?_) | (refine onSome.intro (idx_fs rfl rfl (by omega) (by omega) (fun _ => rfl)) ?_) | (refine onSome.intro (load_fs rfl (by omega) (by omega) rfl) ?_) | (refine And.intro rfl ?_))
            conv => whnf
            exact .more (i + 1) rfl (by omega) (by omega) ⟨rfl, rfl, rfl, rfl, rfl, rfl, rfl, trivial⟩ (by rw [hsi]; rfl) ⟨(nilOr_no (b0 :: bf)).inn _, .int _ _, .ptr _ _ _ (by simp), .ptr _ _ _ (by simp), .ptr _ _ _ (by simp), .int _ _, .int _ _, trivial⟩ (hLc _)
          · rw [if_pos (hw.mp rfl)] at hsi
            have hput := hM.put hlen (i := (i : Int)) (by omega) (by omega)
            have hpe := putE_eq (m := m) (i := i) (by omega) (by omega)
            have hlenQ : c + ((P i).length : Int) + (ordL l d ((b0 :: bf) ++ [(i : Int)])).length = c + ((P (i + 1)).length : Int) := by rw [hsi, List.length_append]; omega
            have kih := ih ((b0 :: bf) ++ [(i : Int)]) (m ||| 2 ^ i) (c + (P i).length) (by simp at hb ⊢; omega) hput (by omega) (by omega)
            rw [hlenQ, ← hpe] at kih
            repeat' ((conv => whnf); first | (refine condP.dec (fun _ => ?_) (fun h => absurd (by omega) h)) | (refine CallP.pure kw ?_) | (refine CallP.inl T115 (all_used (hLc _)) ?_) | (first | refine condP.dec (fun h => ?_) (fun h => ?_) | refine condP.eq (fun h => ?_) (fun h => ?_) | refine condP.ne (fun h => ?_) (fun h => ?_)) | (refine .i64 (by omega) (by omega) ?_) | (refine onSome.intro (idx_fs rfl rfl (by omega) (by omega) (fun _ => rfl)) ?_) | (refine onSome.intro (load_fs rfl (by omega) (by omega) rfl) ?_) | (refine And.intro rfl ?_))
            conv => whnf
            refine .full (es := []) (n := 0) rfl rfl rfl rfl (by simp) ei_len ei_ok (r := (b0 :: bf).map ei) rfl (n' := bf.length + 1) (by simp) (by simp only [List.length_cons] at hb; omega) ?_
            (repeat ((conv => whnf); refine And.intro rfl ?_)); conv => whnf
            refine .grow (ex := false) (n := bf.length + 1) (es := (b0 :: bf).map ei) (es' := [[.int .i64 (i : Int)]]) rfl rfl (by simp) rfl (by simp) (fun e he => by simp at he; subst he; rfl) (fun e he c hc => by simp at he; subst he; simp at hc; subst hc; rfl) (r := (b0 :: bf ++ [(i : Int)]).map ei) (by rw [List.map_append]; rfl) (n' := bf.length + 1 + 1) (by simp) (by simp only [List.length_cons] at hb; omega) ?_
            (repeat ((conv => whnf); refine And.intro rfl ?_)); conv => whnf
            refine CallP.frz (L := LC l lp (c + (P i).length) ++ [.live 1 [], .dead, .live 1 [[.int .i64 (i : Int)]], .live 1 ((b0 :: bf ++ [(i : Int)]).map ei)]) [8] (by rw [List.all_append, all_used (hLc _)]; rfl) [sl (b0 :: bf ++ [(i : Int)]), .int .i64 (putE m i)] (.cons (.ints (b := 8) (len := bf.length + 1 + 1) (lb := bf.length + 1 + 1) (ex := false) (sz := 1) (l := b0 :: bf ++ [(i : Int)]) rfl (fun _ _ h => by cases h) (by simp)) (.cons (.refl _) .nil)) ?_
            conv => whnf
            refine CallP.frameL (LC l lp (c + (P i).length)) (LC l lp (c + (P (i + 1)).length)) [.live 1 [], .dead, .live 1 [[.int .i64 (i : Int)]], .dead] kih rfl growF_inn (fun x hx => by
              rcases List.mem_cons.mp hx with rfl | hx
              · exact (sl_no _).inn _
              · obtain rfl := List.mem_singleton.mp hx; exact .int _ _) (hLc _) (fun s hs => by
              simp at hs
              rcases hs with rfl | rfl | rfl | rfl <;> rfl) ?_
            repeat' ((conv => whnf); first | (refine condP.dec (fun h => absurd h (by omega)) (fun _ => ?_)) | (first | refine condP.dec (fun h => ?_) (fun h => ?_) | refine condP.eq (fun h => ?_) (fun h => ?_) | refine condP.ne (fun h => ?_) (fun h => ?_)) | (refine .i64 (by omega) (by omega) ?_) | (refine onSome.intro (idx_fs rfl rfl (by omega) (by omega) (fun _ => rfl)) ?_) | (refine onSome.intro (load_fs rfl (by omega) (by omega) rfl) ?_) | (refine And.intro rfl ?_))
            all_goals conv => whnf
            all_goals exact .more (i + 1) rfl (by omega) (by omega) ⟨rfl, rfl, rfl, rfl, rfl, rfl, rfl, trivial⟩ rfl ⟨(nilOr_no (b0 :: bf)).inn _, .int _ _, .ptr _ _ _ (by simp), .ptr _ _ _ (by simp), .ptr _ _ _ (by simp), .int _ _, .int _ _, trivial⟩ (hLc _)
        · obtain rfl : i = l.length := by omega
          repeat' ((conv => whnf); first | (refine condP.dec (fun h => absurd h (by omega)) (fun _ => ?_)) | (first | refine condP.dec (fun h => ?_) (fun h => ?_) | refine condP.eq (fun h => ?_) (fun h => ?_) | refine condP.ne (fun h => ?_) (fun h => ?_)) | (refine .i64 (by omega) (by omega) ?_) | (refine onSome.intro (idx_fs rfl rfl (by omega) (by omega) (fun _ => rfl)) ?_) | (refine onSome.intro (load_fs rfl (by omega) (by omega) rfl) ?_) | (refine And.intro rfl ?_))
          all_goals refine .done (by simp) ?_
          all_goals conv => whnf
          all_goals exact .intro [(7, .bool true)] (.bool true) (LC l lp (c + (P l.length).length)) (.inl rfl) ⟨rfl, trivial⟩ ⟨.bool _, trivial⟩ rfl rfl (hLc _) rfl ⟨rfl, rfl⟩)
    obtain ⟨v, L2, ⟨rfl, rfl⟩, _, hh⟩ := key
    exact hh

end Go.Proofs.Ytpbadgghhiommaa.I
