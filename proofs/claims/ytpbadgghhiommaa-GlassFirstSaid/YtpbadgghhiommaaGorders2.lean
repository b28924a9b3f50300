/- The program's orders, the first one: the closure that calls itself and yields once. -/
import Derived.Test.YtpbadgghhiommaaGcount
set_option linter.unusedVariables false
set_option maxHeartbeats 16000000
set_option linter.unusedSimpArgs false
namespace Go.Proofs.Ytpbadgghhiommaa.I
open Go.Ideal

abbrev growG : IV := .func (.func 128) [] [.ptr 2 0 0, .ptr 4 0 0, .ptr 5 0 0]
theorem growG_inn : Inn (· < 6) growG := .func _ _ _ (fun i h => by simp at h) (fun i h => by
  match i, h with
  | 0, _ => exact .ptr _ _ _ (by omega)
  | 1, _ => exact .ptr _ _ _ (by omega)
  | 2, _ => exact .ptr _ _ _ (by omega))
/-- First's memory while orders are handed out. -/
abbrev LF (l : List Fire) (lp : Slot) (a : IV) : List Slot := [.live 1 [[a]], .live 1 [[.int .i64 0]], .live 1 [[frsl l]], lp, .live 1 [[.yield 3]], .live 1 [[growG]]]
theorem growG_ok (l : List Fire) (hF : FOk l) (ha : ∀ i : Nat, i < l.length → (at' l (i : Int)).aft.length ≤ 9000000000000000000) (lp lq : Slot) (hLp : chkS (· < 6) (LF l lp .nilslice)) (hLq : ∀ o, chkS (· < 6) (LF l lq (nilOr o)))
    (hy : ∀ o : List Int, Ev T (.call (.yield 3) [nilOr o] (Heap.of (LF l lp .nilslice))) (.call (.bool false) (Heap.of (LF l lq (nilOr o))))) :
    ∀ (d : Nat) (bf : List Int) (m : Nat), bf.length + d = l.length → Mem l.length m bf →
    (ordL l d bf = [] → Ev T (.call growG [nilOr bf, .int .i64 (m : Int)] (Heap.of (LF l lp .nilslice))) (.call (.bool true) (Heap.of (LF l lp .nilslice)))) ∧
    ∀ o os, ordL l d bf = o :: os → Ev T (.call growG [nilOr bf, .int .i64 (m : Int)] (Heap.of (LF l lp .nilslice))) (.call (.bool false) (Heap.of (LF l lq (nilOr o))))
  | 0, bf, m, hb, hM => by
    have hu : ∀ b, b < (LF l lp .nilslice).length → (Heap.of (LF l lp .nilslice)) b ≠ .free := named_of (L := LF l lp .nilslice) hLp
    have e1 : (l.map frR).length = l.length := List.length_map ..
    have e3 : (bf.map ei).length = bf.length := List.length_map ..
    have hlen := hF.len
    have hyc := hy bf
    have key := run_keep T128 (fs := []) (args := [nilOr bf, .int .i64 (m : Int)]) (cs := [.ptr 2 0 0, .ptr 4 0 0, .ptr 5 0 0]) (L0 := LF l lp .nilslice) (P := fun v L2 => v = .bool false ∧ L2 = LF l lq (nilOr bf)) hu (by
      rcases bf with _ | ⟨b0, bf⟩
      all_goals repeat' ((conv => whnf); first | (refine condP.eq (fun _ => ?_) (fun h => absurd (by simp at hb ⊢; omega) h)) | (refine .intro _ _ hyc ?_) | (first | refine condP.dec (fun h => ?_) (fun h => ?_) | refine condP.eq (fun h => ?_) (fun h => ?_) | refine condP.ne (fun h => ?_) (fun h => ?_)) | (refine .i64 (by omega) (by omega) ?_) | (refine onSome.intro (idx_fs rfl rfl (by omega) (by omega) (fun _ => rfl)) ?_) | (refine onSome.intro (load_fs rfl (by omega) (by omega) rfl) ?_) | (refine And.intro rfl ?_))
      all_goals conv => whnf
      · exact .intro [(7, .bool false)] (.bool false) (LF l lq (nilOr [])) (.inl rfl) ⟨rfl, trivial⟩ ⟨.bool _, trivial⟩ rfl rfl (hLq _) rfl ⟨rfl, rfl⟩
      · exact .intro [(7, .bool false)] (.bool false) (LF l lq (nilOr (b0 :: bf))) (.inl rfl) ⟨rfl, trivial⟩ ⟨.bool _, trivial⟩ rfl rfl (hLq _) rfl ⟨rfl, rfl⟩)
    obtain ⟨v, L2, ⟨rfl, rfl⟩, _, hh⟩ := key
    rw [ordL]
    exact ⟨fun h => (by cases h), fun o os h => (by cases h; exact hh)⟩
  | d + 1, bf, m, hb, hM => by
    have ih := growG_ok l hF ha lp lq hLp hLq hy d
    have hu : ∀ b, b < (LF l lp .nilslice).length → (Heap.of (LF l lp .nilslice)) b ≠ .free := named_of (L := LF l lp .nilslice) hLp
    have e1 : (l.map frR).length = l.length := List.length_map ..
    have e3 : (bf.map ei).length = bf.length := List.length_map ..
    have hlen := hF.len
    have hsm := hM.small
    have hstep : ∀ i : Nat, ordP (fun i => if NextP l bf i then ordL l d (bf ++ [(i : Int)]) else []) (i + 1) = ordP (fun i => if NextP l bf i then ordL l d (bf ++ [(i : Int)]) else []) i ++ (if NextP l bf i then ordL l d (bf ++ [(i : Int)]) else []) := fun _ => rfl
    have h00 : ordP (fun i => if NextP l bf i then ordL l d (bf ++ [(i : Int)]) else []) 0 = [] := rfl
    rw [ordL]
    generalize ordP (fun i => if NextP l bf i then ordL l d (bf ++ [(i : Int)]) else []) = P at *
    have hpre : ∀ i : Nat, i ≤ l.length → ∃ t, P l.length = P i ++ t := by
      have h1 : ∀ i k : Nat, ∃ t, P (i + k) = P i ++ t := fun i k => by
        induction k with
        | zero => exact ⟨[], by simp⟩
        | succ k ihk =>
          obtain ⟨t, ht⟩ := ihk
          exact ⟨_, by rw [← Nat.add_assoc, hstep, ht, List.append_assoc]⟩
      intro i hi
      have := h1 i (l.length - i)
      rwa [show i + (l.length - i) = l.length by omega] at this
    have key := run_keep T128 (fs := []) (args := [nilOr bf, .int .i64 (m : Int)]) (cs := [.ptr 2 0 0, .ptr 4 0 0, .ptr 5 0 0]) (L0 := LF l lp .nilslice) (P := fun v L2 => (P l.length = [] → v = .bool true ∧ L2 = LF l lp .nilslice) ∧ ∀ o os, P l.length = o :: os → v = .bool false ∧ L2 = LF l lq (nilOr o)) hu (by
      rcases bf with _ | ⟨b0, bf⟩
      · repeat' ((conv => whnf); first | (refine condP.eq (fun h => absurd h (by simp at hb ⊢; omega)) (fun _ => ?_)) | (first | refine condP.dec (fun h => ?_) (fun h => ?_) | refine condP.eq (fun h => ?_) (fun h => ?_) | refine condP.ne (fun h => ?_) (fun h => ?_)) | (refine .i64 (by omega) (by omega) ?_) | (refine onSome.intro (idx_fs rfl rfl (by omega) (by omega) (fun _ => rfl)) ?_) | (refine onSome.intro (load_fs rfl (by omega) (by omega) rfl) ?_) | (refine And.intro rfl ?_))
        conv => whnf
        refine loop_rule (X := Nat) (fun i => [(0, nilOr []), (1, .int .i64 (m : Int)), (2, .ptr 2 0 0), (3, .ptr 4 0 0), (4, .ptr 5 0 0), (18, .int .i64 l.length), (19, .int .i64 i)]) (fun i => LF l lp .nilslice) (fun i => l.length - i) (fun i => i ≤ l.length ∧ P i = []) 0
          ⟨Nat.zero_le _, h00⟩ ⟨rfl, rfl, rfl, rfl, rfl, by show i6 _ = i6 _; rw [e1], rfl, trivial⟩ rfl (fun _ _ => rfl) (fun i hi => ?_)
        obtain ⟨hi, hPi⟩ := hi
        rcases Nat.lt_or_ge i l.length with hlt | hge
        · have q := may_any l hF ha m [] hM i hlt
          obtain ⟨w, hw, kw⟩ := q
          have hsi := hstep i
          have hpr := hpre (i + 1) (by omega)
          cases w
          · rw [if_neg (fun h => by have := hw.mpr h; cases this), List.append_nil] at hsi
            repeat' ((conv => whnf); first | (refine condP.dec (fun _ => ?_) (fun h => absurd (by omega) h)) | (refine CallP.pure kw ?_) | (first | refine condP.dec (fun h => ?_) (fun h => ?_) | refine condP.eq (fun h => ?_) (fun h => ?_) | refine condP.ne (fun h => ?_) (fun h => ?_)) | (refine .i64 (by omega) (by omega) ?_) | (refine onSome.intro (idx_fs rfl rfl (by omega) (by omega) (fun _ => rfl)) ?_) | (refine onSome.intro (load_fs rfl (by omega) (by omega) rfl) ?_) | (refine And.intro rfl ?_))
            conv => whnf
            exact .more (i + 1) rfl ⟨by omega, by rw [hsi]; exact hPi⟩ (by omega) ⟨rfl, rfl, rfl, rfl, rfl, rfl, rfl, trivial⟩ rfl ⟨(nilOr_no []).inn _, .int _ _, .ptr _ _ _ (by simp), .ptr _ _ _ (by simp), .ptr _ _ _ (by simp), .int _ _, .int _ _, trivial⟩ hLp
          · rw [if_pos (hw.mp rfl), hPi, List.nil_append] at hsi
            have hput := hM.put hlen (i := (i : Int)) (by omega) (by omega)
            have hpe := putE_eq (m := m) (i := i) (by omega) (by omega)
            have kih := ih ([] ++ [(i : Int)]) (m ||| 2 ^ i) (by simp at hb ⊢; omega) hput
            rw [← hsi, ← hpe] at kih
            repeat' ((conv => whnf); first | (refine condP.dec (fun _ => ?_) (fun h => absurd (by omega) h)) | (refine CallP.pure kw ?_) | (refine CallP.inl T115 (all_used hLp) ?_) | (first | refine condP.dec (fun h => ?_) (fun h => ?_) | refine condP.eq (fun h => ?_) (fun h => ?_) | refine condP.ne (fun h => ?_) (fun h => ?_)) | (refine .i64 (by omega) (by omega) ?_) | (refine onSome.intro (idx_fs rfl rfl (by omega) (by omega) (fun _ => rfl)) ?_) | (refine onSome.intro (load_fs rfl (by omega) (by omega) rfl) ?_) | (refine And.intro rfl ?_))
            conv => whnf
            refine .nil (.inl rfl) rfl (by simp) (fun e he => by simp at he; subst he; rfl) (fun e he c hc => by simp at he; subst he; simp at hc; subst hc; rfl) (n' := 1) rfl (by omega) ?_
            (repeat ((conv => whnf); refine And.intro rfl ?_)); conv => whnf
            refine CallP.frz (L := LF l lp .nilslice ++ [.live 1 [[.int .i64 (i : Int)]], .live 1 [[.int .i64 (i : Int)]]]) [7] (by rw [List.all_append, all_used hLp]; rfl) [sl [(i : Int)], .int .i64 (putE m i)] (.cons (.ints (b := 7) (len := 1) (lb := 1) (ex := false) (sz := 1) (l := [(i : Int)]) rfl (fun _ _ h => by cases h) rfl) (.cons (.refl _) .nil)) ?_
            conv => whnf
            cases hq : P (i + 1) with
            | nil =>
              refine CallP.frameL (LF l lp .nilslice) (LF l lp .nilslice) [.live 1 [[.int .i64 (i : Int)]], .dead] (kih.1 hq) rfl growG_inn (fun x hx => by
                rcases List.mem_cons.mp hx with rfl | hx
                · exact (sl_no _).inn _
                · obtain rfl := List.mem_singleton.mp hx; exact .int _ _) hLp (fun s hs => by
                simp at hs
                rcases hs with rfl | rfl <;> rfl) ?_
              repeat' ((conv => whnf); first | (refine condP.dec (fun h => absurd h (by omega)) (fun _ => ?_)) | (first | refine condP.dec (fun h => ?_) (fun h => ?_) | refine condP.eq (fun h => ?_) (fun h => ?_) | refine condP.ne (fun h => ?_) (fun h => ?_)) | (refine .i64 (by omega) (by omega) ?_) | (refine onSome.intro (idx_fs rfl rfl (by omega) (by omega) (fun _ => rfl)) ?_) | (refine onSome.intro (load_fs rfl (by omega) (by omega) rfl) ?_) | (refine And.intro rfl ?_))
              all_goals conv => whnf
              all_goals exact .more (i + 1) rfl ⟨by omega, hq⟩ (by omega) ⟨rfl, rfl, rfl, rfl, rfl, rfl, rfl, trivial⟩ rfl ⟨(nilOr_no []).inn _, .int _ _, .ptr _ _ _ (by simp), .ptr _ _ _ (by simp), .ptr _ _ _ (by simp), .int _ _, .int _ _, trivial⟩ hLp
            | cons o os =>
              refine CallP.frameL (LF l lp .nilslice) (LF l lq (nilOr o)) [.live 1 [[.int .i64 (i : Int)]], .dead] (kih.2 o os hq) rfl growG_inn (fun x hx => by
                rcases List.mem_cons.mp hx with rfl | hx
                · exact (sl_no _).inn _
                · obtain rfl := List.mem_singleton.mp hx; exact .int _ _) hLp (fun s hs => by
                simp at hs
                rcases hs with rfl | rfl <;> rfl) ?_
              repeat' ((conv => whnf); first | (refine condP.dec (fun h => absurd h (by omega)) (fun _ => ?_)) | (first | refine condP.dec (fun h => ?_) (fun h => ?_) | refine condP.eq (fun h => ?_) (fun h => ?_) | refine condP.ne (fun h => ?_) (fun h => ?_)) | (refine .i64 (by omega) (by omega) ?_) | (refine onSome.intro (idx_fs rfl rfl (by omega) (by omega) (fun _ => rfl)) ?_) | (refine onSome.intro (load_fs rfl (by omega) (by omega) rfl) ?_) | (refine And.intro rfl ?_))
              refine .done (by simp) ?_
              conv => whnf
              exact .intro [(7, .bool false)] (.bool false) (LF l lq (nilOr o)) (.inl rfl) ⟨rfl, trivial⟩ ⟨.bool _, trivial⟩ rfl rfl (hLq _) rfl (by
                obtain ⟨t, ht⟩ := hpr
                rw [hq] at ht
                exact ⟨fun h => (by rw [ht] at h; cases h), fun o' os' h => (by rw [ht] at h; cases h; exact ⟨rfl, rfl⟩)⟩)
        · obtain rfl : i = l.length := by omega
          repeat' ((conv => whnf); first | (refine condP.dec (fun h => absurd h (by omega)) (fun _ => ?_)) | (first | refine condP.dec (fun h => ?_) (fun h => ?_) | refine condP.eq (fun h => ?_) (fun h => ?_) | refine condP.ne (fun h => ?_) (fun h => ?_)) | (refine .i64 (by omega) (by omega) ?_) | (refine onSome.intro (idx_fs rfl rfl (by omega) (by omega) (fun _ => rfl)) ?_) | (refine onSome.intro (load_fs rfl (by omega) (by omega) rfl) ?_) | (refine And.intro rfl ?_))
          all_goals refine .done (by simp) ?_
          all_goals conv => whnf
          all_goals exact .intro [(7, .bool true)] (.bool true) (LF l lp .nilslice) (.inl rfl) ⟨rfl, trivial⟩ ⟨.bool _, trivial⟩ rfl rfl hLp rfl ⟨fun _ => ⟨rfl, rfl⟩, fun o os h => (by rw [hPi] at h; cases h)⟩
      · repeat' ((conv => whnf); first | (refine condP.eq (fun h => absurd h (by simp at hb ⊢; omega)) (fun _ => ?_)) | (first | refine condP.dec (fun h => ?_) (fun h => ?_) | refine condP.eq (fun h => ?_) (fun h => ?_) | refine condP.ne (fun h => ?_) (fun h => ?_)) | (refine .i64 (by omega) (by omega) ?_) | (refine onSome.intro (idx_fs rfl rfl (by omega) (by omega) (fun _ => rfl)) ?_) | (refine onSome.intro (load_fs rfl (by omega) (by omega) rfl) ?_) | (refine And.intro rfl ?_))
        conv => whnf
        refine loop_rule (X := Nat) (fun i => [(0, nilOr (b0 :: bf)), (1, .int .i64 (m : Int)), (2, .ptr 2 0 0), (3, .ptr 4 0 0), (4, .ptr 5 0 0), (18, .int .i64 l.length), (19, .int .i64 i)]) (fun i => LF l lp .nilslice) (fun i => l.length - i) (fun i => i ≤ l.length ∧ P i = []) 0
          ⟨Nat.zero_le _, h00⟩ ⟨rfl, rfl, rfl, rfl, rfl, by show i6 _ = i6 _; rw [e1], rfl, trivial⟩ rfl (fun _ _ => rfl) (fun i hi => ?_)
        obtain ⟨hi, hPi⟩ := hi
        rcases Nat.lt_or_ge i l.length with hlt | hge
        · have q := may_any l hF ha m (b0 :: bf) hM i hlt
          obtain ⟨w, hw, kw⟩ := q
          have hsi := hstep i
          have hpr := hpre (i + 1) (by omega)
          cases w
          · rw [if_neg (fun h => by have := hw.mpr h; cases this), List.append_nil] at hsi
            repeat' ((conv => whnf); first | (refine condP.dec (fun _ => ?_) (fun h => absurd (by omega) h)) | (refine CallP.pure kw ?_) | (first | refine condP.dec (fun h => ?_) (fun h => ?_) | refine condP.eq (fun h => ?_) (fun h => ?_) | refine condP.ne (fun h => ?_) (fun h => ?_)) | (refine .i64 (by omega) (by omega) ?_) | (refine onSome.intro (idx_fs rfl rfl (by omega) (by omega) (fun _ => rfl)) ?_) | (refine onSome.intro (load_fs rfl (by omega) (by omega) rfl) ?_) | (refine And.intro rfl ?_))
            conv => whnf
            exact .more (i + 1) rfl ⟨by omega, by rw [hsi]; exact hPi⟩ (by omega) ⟨rfl, rfl, rfl, rfl, rfl, rfl, rfl, trivial⟩ rfl ⟨(nilOr_no (b0 :: bf)).inn _, .int _ _, .ptr _ _ _ (by simp), .ptr _ _ _ (by simp), .ptr _ _ _ (by simp), .int _ _, .int _ _, trivial⟩ hLp
          · rw [if_pos (hw.mp rfl), hPi, List.nil_append] at hsi
            have hput := hM.put hlen (i := (i : Int)) (by omega) (by omega)
            have hpe := putE_eq (m := m) (i := i) (by omega) (by omega)
            have kih := ih ((b0 :: bf) ++ [(i : Int)]) (m ||| 2 ^ i) (by simp at hb ⊢; omega) hput
            rw [← hsi, ← hpe] at kih
            repeat' ((conv => whnf); first | (refine condP.dec (fun _ => ?_) (fun h => absurd (by omega) h)) | (refine CallP.pure kw ?_) | (refine CallP.inl T115 (all_used hLp) ?_) | (first | refine condP.dec (fun h => ?_) (fun h => ?_) | refine condP.eq (fun h => ?_) (fun h => ?_) | refine condP.ne (fun h => ?_) (fun h => ?_)) | (refine .i64 (by omega) (by omega) ?_) | (refine onSome.intro (idx_fs rfl rfl (by omega) (by omega) (fun _ => rfl)) ?_) | (refine onSome.intro (load_fs rfl (by omega) (by omega) rfl) ?_) | (refine And.intro rfl ?_))
            conv => whnf
            refine .full (es := []) (n := 0) rfl rfl rfl rfl (by simp) ei_len ei_ok (r := (b0 :: bf).map ei) rfl (n' := bf.length + 1) (by simp) (by simp only [List.length_cons] at hb; omega) ?_
            (repeat ((conv => whnf); refine And.intro rfl ?_)); conv => whnf
            refine .grow (ex := false) (n := bf.length + 1) (es := (b0 :: bf).map ei) (es' := [[.int .i64 (i : Int)]]) rfl rfl (by simp) rfl (by simp) (fun e he => by simp at he; subst he; rfl) (fun e he c hc => by simp at he; subst he; simp at hc; subst hc; rfl) (r := (b0 :: bf ++ [(i : Int)]).map ei) (by rw [List.map_append]; rfl) (n' := bf.length + 1 + 1) (by simp) (by simp only [List.length_cons] at hb; omega) ?_
            (repeat ((conv => whnf); refine And.intro rfl ?_)); conv => whnf
            refine CallP.frz (L := LF l lp .nilslice ++ [.live 1 [], .dead, .live 1 [[.int .i64 (i : Int)]], .live 1 ((b0 :: bf ++ [(i : Int)]).map ei)]) [9] (by rw [List.all_append, all_used hLp]; rfl) [sl (b0 :: bf ++ [(i : Int)]), .int .i64 (putE m i)] (.cons (.ints (b := 9) (len := bf.length + 1 + 1) (lb := bf.length + 1 + 1) (ex := false) (sz := 1) (l := b0 :: bf ++ [(i : Int)]) rfl (fun _ _ h => by cases h) (by simp)) (.cons (.refl _) .nil)) ?_
            conv => whnf
            cases hq : P (i + 1) with
            | nil =>
              refine CallP.frameL (LF l lp .nilslice) (LF l lp .nilslice) [.live 1 [], .dead, .live 1 [[.int .i64 (i : Int)]], .dead] (kih.1 hq) rfl growG_inn (fun x hx => by
                rcases List.mem_cons.mp hx with rfl | hx
                · exact (sl_no _).inn _
                · obtain rfl := List.mem_singleton.mp hx; exact .int _ _) hLp (fun s hs => by
                simp at hs
                rcases hs with rfl | rfl | rfl | rfl <;> rfl) ?_
              repeat' ((conv => whnf); first | (refine condP.dec (fun h => absurd h (by omega)) (fun _ => ?_)) | (first | refine condP.dec (fun h => ?_) (fun h => ?_) | refine condP.eq (fun h => ?_) (fun h => ?_) | refine condP.ne (fun h => ?_) (fun h => ?_)) | (refine .i64 (by omega) (by omega) ?_) | (refine onSome.intro (idx_fs rfl rfl (by omega) (by omega) (fun _ => rfl)) ?_) | (refine onSome.intro (load_fs rfl (by omega) (by omega) rfl) ?_) | (refine And.intro rfl ?_))
              all_goals conv => whnf
              all_goals exact .more (i + 1) rfl ⟨by omega, hq⟩ (by omega) ⟨rfl, rfl, rfl, rfl, rfl, rfl, rfl, trivial⟩ rfl ⟨(nilOr_no (b0 :: bf)).inn _, .int _ _, .ptr _ _ _ (by simp), .ptr _ _ _ (by simp), .ptr _ _ _ (by simp), .int _ _, .int _ _, trivial⟩ hLp
            | cons o os =>
              refine CallP.frameL (LF l lp .nilslice) (LF l lq (nilOr o)) [.live 1 [], .dead, .live 1 [[.int .i64 (i : Int)]], .dead] (kih.2 o os hq) rfl growG_inn (fun x hx => by
                rcases List.mem_cons.mp hx with rfl | hx
                · exact (sl_no _).inn _
                · obtain rfl := List.mem_singleton.mp hx; exact .int _ _) hLp (fun s hs => by
                simp at hs
                rcases hs with rfl | rfl | rfl | rfl <;> rfl) ?_
              repeat' ((conv => whnf); first | (refine condP.dec (fun h => absurd h (by omega)) (fun _ => ?_)) | (first | refine condP.dec (fun h => ?_) (fun h => ?_) | refine condP.eq (fun h => ?_) (fun h => ?_) | refine condP.ne (fun h => ?_) (fun h => ?_)) | (refine .i64 (by omega) (by omega) ?_) | (refine onSome.intro (idx_fs rfl rfl (by omega) (by omega) (fun _ => rfl)) ?_) | (refine onSome.intro (load_fs rfl (by omega) (by omega) rfl) ?_) | (refine And.intro rfl ?_))
              refine .done (by simp) ?_
              conv => whnf
              exact .intro [(7, .bool false)] (.bool false) (LF l lq (nilOr o)) (.inl rfl) ⟨rfl, trivial⟩ ⟨.bool _, trivial⟩ rfl rfl (hLq _) rfl (by
                obtain ⟨t, ht⟩ := hpr
                rw [hq] at ht
                exact ⟨fun h => (by rw [ht] at h; cases h), fun o' os' h => (by rw [ht] at h; cases h; exact ⟨rfl, rfl⟩)⟩)
        · obtain rfl : i = l.length := by omega
          repeat' ((conv => whnf); first | (refine condP.dec (fun h => absurd h (by omega)) (fun _ => ?_)) | (first | refine condP.dec (fun h => ?_) (fun h => ?_) | refine condP.eq (fun h => ?_) (fun h => ?_) | refine condP.ne (fun h => ?_) (fun h => ?_)) | (refine .i64 (by omega) (by omega) ?_) | (refine onSome.intro (idx_fs rfl rfl (by omega) (by omega) (fun _ => rfl)) ?_) | (refine onSome.intro (load_fs rfl (by omega) (by omega) rfl) ?_) | (refine And.intro rfl ?_))
          all_goals refine .done (by simp) ?_
          all_goals conv => whnf
          all_goals exact .intro [(7, .bool true)] (.bool true) (LF l lp .nilslice) (.inl rfl) ⟨rfl, trivial⟩ ⟨.bool _, trivial⟩ rfl rfl hLp rfl ⟨fun _ => ⟨rfl, rfl⟩, fun o os h => (by rw [hPi] at h; cases h)⟩)
    obtain ⟨v, L2, ⟨g1, g2⟩, _, hh⟩ := key
    refine ⟨fun h => ?_, fun o os h => ?_⟩
    · obtain ⟨rfl, rfl⟩ := g1 h
      exact hh
    · obtain ⟨rfl, rfl⟩ := g2 o os h
      exact hh

end Go.Proofs.Ytpbadgghhiommaa.I
