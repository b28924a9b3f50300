/- Copies of stuffs, programmes and fires; equal ones. -/
import Derived.Test.YtpbadgghhiommaaGfire
import Derived.Test.YtpbadgghhiommaaGkit2
set_option linter.unusedVariables false
set_option maxHeartbeats 16000000
set_option linter.unusedSimpArgs false
namespace Go.Proofs.Ytpbadgghhiommaa.I
open Go.Ideal

theorem condP.same5 {a b c d e : Int} {A B : Prop} (h : A) : condP (a == a && (b == b && (c == c && (d == d && (e == e && true))))) A B := condP.intro (fun _ => h) (fun q => absurd q (by simp))
theorem OwnStuff_ok (b : Int) (zs : List Zone) (hz : zs.length ≤ 100000) (H : Heap) : Ev T (.call (.func (.func 27) [] []) [stuffI b zs] H) (.call (stuffI b zs) H) := by
  refine run_pure T27 (stuffI_no _ _) (nn_cons (stuffI_no _ _) nn_none) ?_ H
  rcases zs with _ | ⟨z, zs⟩
  · conv => whnf
    refine .none rfl rfl rfl ?_
    conv => whnf
    exact .intro (.agg [.int .i64 b, .mslice 2 0 0 0 true]) (.inl rfl) rfl (.aggL (.cons (.refl _) (.cons (.whole (sz := 5) (es := []) rfl (fun _ _ h => by cases h) rfl (.refl _)) .nil)))
  · conv => whnf
    refine .full (es := []) (n := 0) rfl rfl rfl rfl (by simp) (fun e he => by obtain ⟨z, _, rfl⟩ := List.mem_map.mp he; rfl) (fun e he c hc => by obtain ⟨z, _, rfl⟩ := List.mem_map.mp he; simp [zr] at hc; rcases hc with rfl | rfl | rfl | rfl | rfl <;> rfl) (r := (z :: zs).map zr) rfl (n' := zs.length + 1) (by simp) (by simp only [List.length_cons] at hz; omega) ?_
    conv => whnf
    exact .intro (.agg [.int .i64 b, .mslice 3 0 (zs.length + 1) (zs.length + 1) false]) (.inl rfl) rfl (.aggL (.cons (.refl _) (.cons (.whole (sz := 5) (es := (z :: zs).map zr) rfl (fun _ _ h => by cases h) (by simp) (.refl _)) .nil)))
theorem OwnOven_ok (f : Int) (ls : List Leg) (hz : ls.length ≤ 100000) (H : Heap) : Ev T (.call (.func (.func 28) [] []) [ovenI f ls] H) (.call (ovenI f ls) H) := by
  refine run_pure T28 (ovenI_no _ _) (nn_cons (ovenI_no _ _) nn_none) ?_ H
  rcases ls with _ | ⟨z, ls⟩
  · conv => whnf
    refine .none rfl rfl rfl ?_
    conv => whnf
    exact .intro (.agg [.int .i64 f, .mslice 2 0 0 0 true]) (.inl rfl) rfl (.aggL (.cons (.refl _) (.cons (.whole (sz := 2) (es := []) rfl (fun _ _ h => by cases h) rfl (.refl _)) .nil)))
  · conv => whnf
    refine .full (es := []) (n := 0) rfl rfl rfl rfl (by simp) (fun e he => by obtain ⟨z, _, rfl⟩ := List.mem_map.mp he; rfl) (fun e he c hc => by obtain ⟨z, _, rfl⟩ := List.mem_map.mp he; simp [lr] at hc; rcases hc with rfl | rfl <;> rfl) (r := (z :: ls).map lr) rfl (n' := ls.length + 1) (by simp) (by simp only [List.length_cons] at hz; omega) ?_
    conv => whnf
    exact .intro (.agg [.int .i64 f, .mslice 3 0 (ls.length + 1) (ls.length + 1) false]) (.inl rfl) rfl (.aggL (.cons (.refl _) (.cons (.whole (sz := 2) (es := (z :: ls).map lr) rfl (fun _ _ h => by cases h) (by simp) (.refl _)) .nil)))
theorem Own_ok (l : List Int) (hl : l.length ≤ 1000000) (H : Heap) : Ev T (.call (.func (.func 84) [] []) [sl l] H) (.call (sl l) H) := by
  refine run_pure T84 (sl_no _) (nn_cons (sl_no _) nn_none) ?_ H
  cases l with
  | nil =>
    conv => whnf
    refine .none rfl rfl rfl ?_
    conv => whnf
    exact .intro (.mslice 0 0 0 0 true) (.inl rfl) rfl (.ints (sz := 1) (l := []) rfl (fun _ _ h => by cases h) rfl)
  | cons a l =>
    conv => whnf
    refine .full rfl rfl rfl rfl (by simp) ei_len ei_ok (List.nil_append _) (List.length_map ..) (by simp only [List.length_cons] at hl ⊢; omega) ?_
    conv => whnf
    exact .intro (.mslice 1 0 (l.length + 1) (l.length + 1) false) (.inl rfl) rfl (.ints (sz := 1) rfl (fun _ _ h => by cases h) rfl)
theorem OwnFires_ok (l : List Fire) (hl : l.length ≤ 100000) (ha : ∀ i : Nat, i < l.length → (at' l (i : Int)).aft.length ≤ 100000) (H : Heap) : Ev T (.call (.func (.func 29) [] []) [frsl l] H) (.call (frsl l) H) := by
  refine run_pure T29 (frsl_no _) (nn_cons (frsl_no _) nn_none) ?_ H
  rcases Nat.eq_zero_or_pos l.length with h0 | hp
  · obtain rfl := List.length_eq_zero_iff.mp h0
    conv => whnf
    refine .none (v := .mslice 0 0 0 0 true) rfl rfl rfl ?_
    repeat' ((conv => whnf); first | (refine loop_step ?_) | (refine condP.dec (fun h => absurd h (by omega)) (fun _ => ?_)) | (first | refine condP.dec (fun h => ?_) (fun h => ?_) | refine condP.eq (fun h => ?_) (fun h => ?_) | refine condP.ne (fun h => ?_) (fun h => ?_)) | (refine .i64 (by omega) (by omega) ?_) | (refine onSome.intro (idx_fs rfl rfl (by omega) (by omega) (fun _ => rfl)) ?_) | (refine onSome.intro (load_fs rfl (by omega) (by omega) rfl) ?_) | (refine And.intro rfl ?_))
    all_goals first | (exfalso; omega) | skip
    all_goals conv => whnf
    all_goals exact .intro (.mslice 0 0 0 0 true) (.inl rfl) rfl (.whole (sz := 3) (es := []) rfl (fun _ _ h => by cases h) rfl (.refl _))
  · conv => whnf
    refine .full (es := []) (n := 0) rfl rfl rfl rfl (by intro q; have := congrArg List.length q; simp at this; subst this; simp at hp) (fun e he => by obtain ⟨z, _, rfl⟩ := List.mem_map.mp he; rfl) (fun e he c hc => by obtain ⟨z, _, rfl⟩ := List.mem_map.mp he; simp [frR] at hc; rcases hc with rfl | rfl | rfl <;> rfl) (r := l.map frR) rfl (n' := l.length) (by simp) (by omega) ?_
    conv => whnf
    refine loop_rule (X := Nat) (fun i => [(3, .mslice 1 0 l.length l.length false), (4, .int .i64 i)]) (fun _ => [.live 3 [], .live 3 (l.map frR)]) (fun i => l.length - i) (fun i => i ≤ l.length) 0
      (Nat.zero_le _) ⟨rfl, rfl, trivial⟩ rfl (fun _ _ => rfl) (fun i hi => ?_)
    rcases Nat.lt_or_ge i l.length with hlt | hge
    · have haf := ha i hlt
      have eg : at' l (i : Int) = l[i] := at'_get hlt
      rw [eg] at haf
      have ko := Own_ok l[i].aft (by omega)
      repeat' ((conv => whnf); first | (refine condP.dec (fun _ => ?_) (fun h => absurd (by omega) h)) | (refine onSome.intro (idx_ms rfl rfl rfl (by omega) (by omega)) ?_) | (refine onSome.intro (load_ms (l := l) (enc := frR) (i := (i : Int)) (v := sl l[i].aft) rfl rfl (by omega) (by omega) (by rw [eg]; rfl)) ?_) | (refine CallP.pure ko ?_) | (first | refine condP.dec (fun h => ?_) (fun h => ?_) | refine condP.eq (fun h => ?_) (fun h => ?_) | refine condP.ne (fun h => ?_) (fun h => ?_)) | (refine .i64 (by omega) (by omega) ?_) | (refine onSome.intro (idx_fs rfl rfl (by omega) (by omega) (fun _ => rfl)) ?_) | (refine onSome.intro (load_fs rfl (by omega) (by omega) rfl) ?_) | (refine And.intro rfl ?_))
      conv => whnf
      refine onSome.intro (get_enc (i := i) (by omega)) ?_
      conv => whnf
      refine store_enc (enc := frR) (a := l[i]) (l' := l) rfl (List.set_getElem_self _) ?_
      (repeat ((conv => whnf); refine And.intro rfl ?_)); conv => whnf
      refine .i64 (by omega) (by omega) ?_
      conv => whnf
      exact .more (i + 1) rfl (by omega) (by omega) ⟨rfl, rfl, trivial⟩ rfl ⟨.mslice _ _ _ _ _ (by simp), .int _ _, trivial⟩
        ⟨fun j k hj => by simp at hj, fun j k hj hk => (noS_map (sz := 3) (enc := frR) (fun a => frR_no a) _ (List.getElem_mem hj) _ (List.getElem_mem hk)).inn _, trivial⟩
    · obtain rfl : i = l.length := by omega
      conv => whnf
      refine condP.dec (fun h => absurd h (by omega)) (fun _ => ?_)
      conv => whnf
      refine .done (by simp) ?_
      conv => whnf
      exact .intro (.mslice 1 0 l.length l.length false) (.inl rfl) rfl (.whole (sz := 3) rfl (fun _ _ h => by cases h) (by rw [List.length_map]) (.refl _))

theorem sames_self (b : Int) (zs : List Zone) (hz : zs.length ≤ 9223372036854775807) (H : Heap) : Ev T (.call (.func (.func 36) [] []) [stuffI b zs, stuffI b zs] H) (.call (.bool true) H) := by
  refine run_pure T36 (nn_bool _) (nn_cons (stuffI_no _ _) (nn_cons (stuffI_no _ _) nn_none)) ?_ H
  have e1 : (zs.map zr).length = zs.length := List.length_map ..
  repeat' ((conv => whnf); first | (refine condP.same1 ?_) | (refine condP.differ1 ?_) | (first | refine condP.dec (fun h => ?_) (fun h => ?_) | refine condP.eq (fun h => ?_) (fun h => ?_) | refine condP.ne (fun h => ?_) (fun h => ?_)) | (refine .i64 (by omega) (by omega) ?_) | (refine onSome.intro (idx_fs rfl rfl (by omega) (by omega) (fun _ => rfl)) ?_) | (refine onSome.intro (load_fs rfl (by omega) (by omega) rfl) ?_) | (refine And.intro rfl ?_))
  all_goals first | (exfalso; omega) | skip
  all_goals conv => whnf
  refine loop_rule (X := Nat) (fun i => [(2, .ptr 0 0 0), (3, .ptr 1 0 0), (5, .int .i64 i)]) (fun _ => [.live 2 [[.int .i64 b, zsl zs]], .live 2 [[.int .i64 b, zsl zs]]]) (fun i => zs.length - i) (fun i => i ≤ zs.length) 0
    (Nat.zero_le _) ⟨rfl, rfl, rfl, trivial⟩ rfl (fun _ _ => rfl) (fun i hi => ?_)
  rcases Nat.lt_or_ge i zs.length with hlt | hge
  · generalize hf : at' zs (i : Int) = f at *
    repeat' ((conv => whnf); first | (refine condP.dec (fun _ => ?_) (fun h => absurd (by omega) h)) | (refine condP.same5 ?_) | (refine onSome.intro (load_fs (l := zs) (enc := zr) (i := (i : Int)) (v := .agg (zr f)) rfl (by omega) (by omega) (by rw [hf]; rfl)) ?_) | (first | refine condP.dec (fun h => ?_) (fun h => ?_) | refine condP.eq (fun h => ?_) (fun h => ?_) | refine condP.ne (fun h => ?_) (fun h => ?_)) | (refine .i64 (by omega) (by omega) ?_) | (refine onSome.intro (idx_fs rfl rfl (by omega) (by omega) (fun _ => rfl)) ?_) | (refine onSome.intro (load_fs rfl (by omega) (by omega) rfl) ?_) | (refine And.intro rfl ?_))
    all_goals first | (exfalso; omega) | skip
    all_goals conv => whnf
    all_goals exact .more (i + 1) rfl (by omega) (by omega) ⟨rfl, rfl, rfl, trivial⟩ rfl ⟨.ptr _ _ _ (by simp), .ptr _ _ _ (by simp), .int _ _, trivial⟩ ⟨row_inn (stuff_row _ _), row_inn (stuff_row _ _), trivial⟩
  · obtain rfl : i = zs.length := by omega
    conv => whnf
    refine condP.dec (fun h => absurd h (by omega)) (fun _ => ?_)
    conv => whnf
    refine .done (by simp) ?_
    conv => whnf
    exact .intro (.bool true) (.inl rfl) rfl (.refl _)
theorem sameo_self (f : Int) (ls : List Leg) (hz : ls.length ≤ 9223372036854775807) (H : Heap) : Ev T (.call (.func (.func 37) [] []) [ovenI f ls, ovenI f ls] H) (.call (.bool true) H) := by
  refine run_pure T37 (nn_bool _) (nn_cons (ovenI_no _ _) (nn_cons (ovenI_no _ _) nn_none)) ?_ H
  have e1 : (ls.map lr).length = ls.length := List.length_map ..
  repeat' ((conv => whnf); first | (refine condP.same1 ?_) | (refine condP.differ1 ?_) | (first | refine condP.dec (fun h => ?_) (fun h => ?_) | refine condP.eq (fun h => ?_) (fun h => ?_) | refine condP.ne (fun h => ?_) (fun h => ?_)) | (refine .i64 (by omega) (by omega) ?_) | (refine onSome.intro (idx_fs rfl rfl (by omega) (by omega) (fun _ => rfl)) ?_) | (refine onSome.intro (load_fs rfl (by omega) (by omega) rfl) ?_) | (refine And.intro rfl ?_))
  all_goals first | (exfalso; omega) | skip
  all_goals conv => whnf
  refine loop_rule (X := Nat) (fun i => [(2, .ptr 0 0 0), (3, .ptr 1 0 0), (5, .int .i64 i)]) (fun _ => [.live 2 [[.int .i64 f, lsl ls]], .live 2 [[.int .i64 f, lsl ls]]]) (fun i => ls.length - i) (fun i => i ≤ ls.length) 0
    (Nat.zero_le _) ⟨rfl, rfl, rfl, trivial⟩ rfl (fun _ _ => rfl) (fun i hi => ?_)
  rcases Nat.lt_or_ge i ls.length with hlt | hge
  · generalize hf : at' ls (i : Int) = g at *
    repeat' ((conv => whnf); first | (refine condP.dec (fun _ => ?_) (fun h => absurd (by omega) h)) | (refine condP.same2 ?_) | (refine onSome.intro (load_fs (l := ls) (enc := lr) (i := (i : Int)) (v := .agg (lr g)) rfl (by omega) (by omega) (by rw [hf]; rfl)) ?_) | (first | refine condP.dec (fun h => ?_) (fun h => ?_) | refine condP.eq (fun h => ?_) (fun h => ?_) | refine condP.ne (fun h => ?_) (fun h => ?_)) | (refine .i64 (by omega) (by omega) ?_) | (refine onSome.intro (idx_fs rfl rfl (by omega) (by omega) (fun _ => rfl)) ?_) | (refine onSome.intro (load_fs rfl (by omega) (by omega) rfl) ?_) | (refine And.intro rfl ?_))
    all_goals first | (exfalso; omega) | skip
    all_goals conv => whnf
    all_goals exact .more (i + 1) rfl (by omega) (by omega) ⟨rfl, rfl, rfl, trivial⟩ rfl ⟨.ptr _ _ _ (by simp), .ptr _ _ _ (by simp), .int _ _, trivial⟩ ⟨row_inn (oven_row _ _), row_inn (oven_row _ _), trivial⟩
  · obtain rfl : i = ls.length := by omega
    conv => whnf
    refine condP.dec (fun h => absurd h (by omega)) (fun _ => ?_)
    conv => whnf
    refine .done (by simp) ?_
    conv => whnf
    exact .intro (.bool true) (.inl rfl) rfl (.refl _)

end Go.Proofs.Ytpbadgghhiommaa.I
