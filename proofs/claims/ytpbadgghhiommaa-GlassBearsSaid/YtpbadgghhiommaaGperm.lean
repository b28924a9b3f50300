/- All orders of the numbers below n, and those of them that are right. -/
import Derived.Test.YtpbadgghhiommaaGgood
import Derived.Test.YtpbadgghhiommaaGrord2
import Derived.Test.YtpbadgghhiommaaGterm
import Derived.Test.YtpbadgghhiommaaGown
set_option linter.unusedVariables false
set_option maxHeartbeats 16000000
set_option linter.unusedSimpArgs false
namespace Go.Proofs.Ytpbadgghhiommaa.I
open Go.Ideal

/-- All orders that begin as given, d numbers to come. -/
def permL (n : Nat) : Nat → List Int → List (List Int)
  | 0, u => [u]
  | d + 1, u => ordP (fun i => if (i : Int) ∈ u then [] else permL n d (u ++ [(i : Int)])) n
theorem ordP_congr {f g : Nat → List (List Int)} : ∀ {k : Nat}, (∀ i, i < k → f i = g i) → ordP f k = ordP g k
  | 0, _ => rfl
  | k + 1, h => by rw [ordP, ordP, ordP_congr (fun i hi => h i (by omega)), h k (by omega)]
theorem ordP_filter {f : Nat → List (List Int)} {p : List Int → Bool} : ∀ {k : Nat}, (ordP f k).filter p = ordP (fun i => (f i).filter p) k
  | 0 => rfl
  | k + 1 => by rw [ordP, ordP, List.filter_append, ordP_filter]
theorem ordP_mem {f : Nat → List (List Int)} {o : List Int} : ∀ {k : Nat}, o ∈ ordP f k → ∃ i, i < k ∧ o ∈ f i
  | 0, h => by cases h
  | k + 1, h => by
    rw [ordP] at h
    rcases List.mem_append.mp h with h | h
    · obtain ⟨i, hi, ho⟩ := ordP_mem h
      exact ⟨i, by omega, ho⟩
    · exact ⟨k, by omega, h⟩
theorem permL_len (n : Nat) (hn : n ≤ 8) : ∀ (d : Nat) (u : List Int), (permL n d u).length ≤ 8 ^ d
  | 0, u => by simp [permL]
  | d + 1, u => by
    rw [permL]
    have := ordP_len (f := fun i => if (i : Int) ∈ u then [] else permL n d (u ++ [(i : Int)])) (M := 8 ^ d) (fun i => by
      split
      · simp
      · exact permL_len n hn d _) n
    have h2 : n * 8 ^ d ≤ 8 * 8 ^ d := Nat.mul_le_mul_right _ hn
    rw [Nat.pow_succ]
    omega
theorem permL_pre {n : Nat} : ∀ {d : Nat} {u o : List Int}, o ∈ permL n d u → ∃ t, o = u ++ t ∧ t.length = d
  | 0, u, o, h => by
    rw [permL, List.mem_singleton] at h
    exact ⟨[], by simp [h], rfl⟩
  | d + 1, u, o, h => by
    rw [permL] at h
    obtain ⟨i, hi, ho⟩ := ordP_mem h
    split at ho
    · cases ho
    · obtain ⟨t, rfl, ht⟩ := permL_pre ho
      exact ⟨(i : Int) :: t, by simp, by simp [ht]⟩
theorem permL_nodup {n : Nat} : ∀ {d : Nat} {u o : List Int}, u.Nodup → (∀ b ∈ u, 0 ≤ b ∧ b < n) → o ∈ permL n d u → o.Nodup ∧ ∀ b ∈ o, 0 ≤ b ∧ b < n
  | 0, u, o, hu, hb, h => by
    rw [permL, List.mem_singleton] at h
    rw [h]; exact ⟨hu, hb⟩
  | d + 1, u, o, hu, hb, h => by
    rw [permL] at h
    obtain ⟨i, hi, ho⟩ := ordP_mem h
    split at ho
    · cases ho
    · rename_i hni
      refine permL_nodup (List.nodup_append.mpr ⟨hu, by simp, fun a ha b hb e => ?_⟩) (fun b hb' => ?_) ho
      · obtain rfl := List.mem_singleton.mp hb
        subst e
        exact hni ha
      · rcases List.mem_append.mp hb' with q | q
        · exact hb b q
        · obtain rfl := List.mem_singleton.mp q; omega
theorem at_append {α : Type} [Inhabited α] {a b : List α} {k : Nat} (h : k < a.length) : at' (a ++ b) (k : Int) = at' a (k : Int) := by
  rw [at'_get (show k < (a ++ b).length by simp; omega), at'_get h, List.getElem_append_left h]
theorem step_append {l : List Fire} {a b : List Int} {j : Nat} (h : j < a.length) : StepP l (a ++ b) j ↔ StepP l a j := by
  unfold StepP
  rw [at_append h, List.take_append_of_le_length (by omega)]
noncomputable instance (l : List Fire) (o : List Int) : Decidable (RightP l o) := Classical.propDecidable _
/-- Those of all orders that are right are the right orders. -/
theorem perm_right {l : List Fire} (h0 : firesE l = 0) : ∀ (d : Nat) (bf : List Int), bf.length + d = l.length → (∀ j : Nat, j < bf.length → StepP l bf j) → (permL l.length d bf).filter (fun o => decide (RightP l o)) = ordL l d bf
  | 0, bf, hb, hs => by
    rw [permL, ordL, List.filter_cons_of_pos (by rw [decide_eq_true_eq]; exact ⟨h0, by omega, hs⟩)]
    rfl
  | d + 1, bf, hb, hs => by
    rw [permL, ordL, ordP_filter]
    refine ordP_congr fun i hi => ?_
    by_cases hm : (i : Int) ∈ bf
    · rw [if_pos hm, if_neg (fun h : NextP l bf i => h.2.2 hm)]
      rfl
    · rw [if_neg hm]
      have e1 : at' (bf ++ [(i : Int)]) (bf.length : Int) = i := at_snoc_eq
      have hst : StepP l (bf ++ [(i : Int)]) bf.length ↔ NextP l bf i := by
        unfold StepP
        rw [e1, List.take_left]
        exact ⟨fun h => h.2, fun h => ⟨by omega, h⟩⟩
      by_cases hN : NextP l bf i
      · rw [if_pos hN]
        refine perm_right h0 d _ (by simp; omega) (fun j hj => ?_)
        simp only [List.length_append, List.length_singleton] at hj
        by_cases q : j < bf.length
        · exact (step_append q).mpr (hs j q)
        · obtain rfl : j = bf.length := by omega
          exact hst.mpr hN
      · rw [if_neg hN]
        refine List.filter_eq_nil_iff.mpr fun o ho hr => hN ?_
        rw [decide_eq_true_eq] at hr
        obtain ⟨t, rfl, ht⟩ := permL_pre ho
        have := hr.2.2 bf.length (by simp)
        rw [step_append (by simp)] at this
        exact hst.mp this
theorem all_right {l : List Fire} (h0 : firesE l = 0) : (permL l.length l.length []).filter (fun o => decide (RightP l o)) = allL l := perm_right h0 _ _ (by simp) (fun j hj => by simp at hj)

theorem OpP.snocs {E : Env} {L : List Slot} {zero : List Cst} {bytes : Nat} {s x : Opd} {K : IV → List Slot → Prop} {α : Type} {enc : α → List IV} {l Q : List α} {b : Nat} (hs : s.ev E = omsl b l) (hH : L[b]? = some (lsS zero.length enc l)) (hx : elsOf (Heap.of L) (x.ev E) = some (Q.map enc)) (hQ : Q ≠ [])
    (hz : ∀ a, (enc a).length = zero.length) (hok : ∀ a, ∀ c ∈ enc a, IV.cellOk c = true) (hbig : (l.length + Q.length) * (bytes + 1) ≤ 2 ^ 40)
    (k : setK L b .dead fun L1 => litK L1.length fun n => snocK L1 (.live zero.length ((l ++ Q).map enc)) (K (.mslice n 0 (l.length + Q.length) (l.length + Q.length) false))) : OpP E L (.append zero bytes s x) K := by
  have hne : Q.map enc ≠ [] := by simpa using hQ
  have hz1 : ∀ e ∈ Q.map enc, e.length = zero.length := fun e he => by obtain ⟨a, _, rfl⟩ := List.mem_map.mp he; exact hz a
  have hok1 : ∀ e ∈ Q.map enc, ∀ c ∈ e, IV.cellOk c = true := fun e he => by obtain ⟨a, _, rfl⟩ := List.mem_map.mp he; exact hok a
  cases l with
  | nil =>
    obtain ⟨h1, h2⟩ := setK_elim k
    have e : L.set b .dead = L := by
      apply List.ext_getElem? ; intro i
      by_cases q : i = b
      · subst q; rw [List.getElem?_set_self h1]; exact hH.symm
      · rw [List.getElem?_set_ne (fun z => q z.symm)]
    rw [e] at h2
    exact .nil (n' := Q.length) (.inl hs) hx hne hz1 hok1 (by simp) (by simpa using hbig) (by simpa using h2)
  | cons a l =>
    refine .grow (n' := (a :: l).length + Q.length) (r := ((a :: l) ++ Q).map enc) hs hH (by simp) hx hne hz1 hok1 (by rw [List.map_append]) (by simp; omega) hbig k
theorem el_no (a : List Int) : ∀ x ∈ el a, Noname x := nn_cons (sl_no _) nn_none

theorem permutations_ok (n : Nat) (hn : n ≤ 8) : ∀ (d : Nat) (u : List Int), u.length + d = n → ∀ H,
    Ev T (.call (.func (.func 65) [] []) [.int .i64 n, sl u] H) (.call (sll (permL n d u)) H)
  | 0, u, hu, H => by
    refine run_pure T65 (sll_no _) (nn_cons (nn_int _ _) (nn_cons (sl_no _) nn_none)) ?_ H
    have e1 : (u.map ei).length = u.length := List.length_map ..
    have ko := Own_ok u (by omega)
    repeat' ((conv => whnf); first | (refine condP.eq (fun _ => ?_) (fun h => absurd (by omega) h)) | (refine CallP.pure ko ?_) | (first | refine condP.dec (fun h => ?_) (fun h => ?_) | refine condP.eq (fun h => ?_) (fun h => ?_) | refine condP.ne (fun h => ?_) (fun h => ?_)) | (refine .i64 (by omega) (by omega) ?_) | (refine onSome.intro (idx_fs rfl rfl (by omega) (by omega) (fun _ => rfl)) ?_) | (refine onSome.intro (load_fs rfl (by omega) (by omega) rfl) ?_) | (refine And.intro rfl ?_))
    conv => whnf
    exact .intro (.mslice 0 0 1 1 true) (.inl rfl) rfl (.whole (sz := 1) (es := [[sl u]]) rfl (fun _ _ h => by cases h) rfl (.refl _))
  | d + 1, u, hu, H => by
    have ih := permutations_ok n hn d
    refine run_pure T65 (sll_no _) (nn_cons (nn_int _ _) (nn_cons (sl_no _) nn_none)) ?_ H
    have e1 : (u.map ei).length = u.length := List.length_map ..
    have hpow : 8 ^ d ≤ 8 ^ 8 := Nat.pow_le_pow_right (by omega) (by omega)
    have hf : ∀ i : Nat, (if (i : Int) ∈ u then [] else permL n d (u ++ [(i : Int)])).length ≤ 8 ^ d := fun i => by
      split
      · simp
      · exact permL_len n hn d _
    have hbound : ∀ k, k ≤ n → (ordP (fun i => if (i : Int) ∈ u then [] else permL n d (u ++ [(i : Int)])) k).length ≤ 8 * 8 ^ 8 := fun k hk => by
      have := ordP_len (f := fun i => if (i : Int) ∈ u then [] else permL n d (u ++ [(i : Int)])) (M := 8 ^ d) hf k
      have h2 : k * 8 ^ d ≤ 8 * 8 ^ 8 := Nat.mul_le_mul (by omega) hpow
      omega
    have hstep : ∀ i : Nat, ordP (fun i => if (i : Int) ∈ u then [] else permL n d (u ++ [(i : Int)])) (i + 1) = ordP (fun i => if (i : Int) ∈ u then [] else permL n d (u ++ [(i : Int)])) i ++ (if (i : Int) ∈ u then [] else permL n d (u ++ [(i : Int)])) := fun _ => rfl
    have h00 : ordP (fun i => if (i : Int) ∈ u then [] else permL n d (u ++ [(i : Int)])) 0 = [] := rfl
    rw [permL]
    generalize ordP (fun i => if (i : Int) ∈ u then [] else permL n d (u ++ [(i : Int)])) = P at *
    repeat' ((conv => whnf); first | (refine condP.eq (fun h => absurd h (by omega)) (fun _ => ?_)) | (first | refine condP.dec (fun h => ?_) (fun h => ?_) | refine condP.eq (fun h => ?_) (fun h => ?_) | refine condP.ne (fun h => ?_) (fun h => ?_)) | (refine .i64 (by omega) (by omega) ?_) | (refine onSome.intro (idx_fs rfl rfl (by omega) (by omega) (fun _ => rfl)) ?_) | (refine onSome.intro (load_fs rfl (by omega) (by omega) rfl) ?_) | (refine And.intro rfl ?_))
    conv => whnf
    refine .pad 1 ?_
    refine loop_grow (X := Nat) (fun i => [(0, .int .i64 n), (1, sl u), (5, omsl 0 (P i)), (6, .int .i64 i)]) (fun i => [lsS 1 el (P i)]) (fun i => n - i) (fun i => i ≤ n) 0
      (Nat.zero_le _) ⟨rfl, rfl, (by show IV.nilslice = omsl 0 (P 0); rw [h00]; rfl), rfl, trivial⟩ (by show [Slot.dead] = [lsS 1 el (P 0)]; rw [h00]; rfl) (fun i hi => ?_)
    rcases Nat.lt_or_ge i n with hlt | hge
    · have q := Has_any u (by omega) (i : Int)
      obtain ⟨w, hw, kw⟩ := q
      have hsi := hstep i
      have hb1 := hbound i hi
      have hfi := hf i
      cases w
      · rw [if_neg (fun h => by have := hw.mpr h; cases this)] at hsi hfi
        have kih := ih (u ++ [(i : Int)]) (by simp; omega)
        generalize hQ : permL n d (u ++ [(i : Int)]) = Q at *
        have hu1 : List.all [lsS 1 el (P i)] Slot.used = true := by rw [List.all_cons, lsS_used]; rfl
        rcases u with _ | ⟨u0, u⟩
        · have hu2 : List.all [lsS 1 el (P i), .live 1 [], .live 1 [[.int .i64 (i : Int)]], .live 1 ([(i : Int)].map ei)] Slot.used = true := by rw [List.all_cons, lsS_used]; rfl
          repeat' ((conv => whnf); first | (refine force_om ?_) | (refine forceC_om ?_) | (refine condP.dec (fun _ => ?_) (fun h => absurd (by omega) h)) | (refine CallP.pure kw ?_) | (refine CallP.inl T84 hu1 ?_) | (first | refine condP.dec (fun h => ?_) (fun h => ?_) | refine condP.eq (fun h => ?_) (fun h => ?_) | refine condP.ne (fun h => ?_) (fun h => ?_)) | (refine .i64 (by omega) (by omega) ?_) | (refine onSome.intro (idx_fs rfl rfl (by omega) (by omega) (fun _ => rfl)) ?_) | (refine onSome.intro (load_fs rfl (by omega) (by omega) rfl) ?_) | (refine And.intro rfl ?_))
          conv => whnf
          refine .none (v := .mslice 1 0 0 0 true) rfl rfl rfl ?_
          conv => whnf
          refine .full (es := []) (n := 0) rfl rfl rfl rfl (by simp) (fun e he => by simp at he; subst he; rfl) (fun e he c hc => by simp at he; subst he; simp at hc; subst hc; rfl) (r := [(i : Int)].map ei) rfl (n' := 1) rfl (by omega) ?_
          conv => whnf
          refine CallP.frz [3] hu2 [.int .i64 n, sl [(i : Int)]] (.cons (.refl _) (.cons (.ints (sz := 1) (l := [(i : Int)]) rfl (fun _ _ h => by cases h) rfl) .nil)) ?_
          conv => whnf
          refine CallP.pure kih ?_
          conv => whnf
          rcases Q with _ | ⟨q0, Q⟩
          · refine .none (v := omsl 0 (P i)) rfl (by cases P i <;> rfl) rfl ?_
            repeat' ((conv => whnf); first | (refine force_om ?_) | (refine forceC_om ?_) | (first | refine condP.dec (fun h => ?_) (fun h => ?_) | refine condP.eq (fun h => ?_) (fun h => ?_) | refine condP.ne (fun h => ?_) (fun h => ?_)) | (refine .i64 (by omega) (by omega) ?_) | (refine onSome.intro (idx_fs rfl rfl (by omega) (by omega) (fun _ => rfl)) ?_) | (refine onSome.intro (load_fs rfl (by omega) (by omega) rfl) ?_) | (refine And.intro rfl ?_))
            rw [List.append_nil] at hsi
            exact .more (i + 1) [0] rfl (by omega) (by omega) rfl ⟨.same (.int _ _), .same (sl_no _), (by rw [hsi]; exact .omsl rfl), .nn (.int _ _) (frz_int (by omega)), trivial⟩ ⟨(by rw [hsi]; exact .same (lsS_no el_no)), trivial⟩
          · refine OpP.snocs (enc := el) (l := P i) (Q := q0 :: Q) (b := 0) rfl rfl rfl (by simp) (fun _ => rfl) (fun a c hc => by obtain rfl := List.mem_singleton.mp hc; rfl) (by simp only [List.length_cons] at hfi ⊢; omega) ?_
            repeat' ((conv => whnf); first | (refine force_om ?_) | (refine forceC_om ?_) | (first | refine condP.dec (fun h => ?_) (fun h => ?_) | refine condP.eq (fun h => ?_) (fun h => ?_) | refine condP.ne (fun h => ?_) (fun h => ?_)) | (refine .i64 (by omega) (by omega) ?_) | (refine onSome.intro (idx_fs rfl rfl (by omega) (by omega) (fun _ => rfl)) ?_) | (refine onSome.intro (load_fs rfl (by omega) (by omega) rfl) ?_) | (refine And.intro rfl ?_))
            exact .more (i + 1) [4] rfl (by omega) (by omega) rfl ⟨.same (.int _ _), .same (sl_no _), (by rw [hsi]; exact .grown rfl (by simp) (by simp)), .nn (.int _ _) (frz_int (by omega)), trivial⟩ ⟨(by rw [hsi, lsS_ne (by simp)]; exact .same (noS_map el_no)), trivial⟩
        · have hu2 : List.all [lsS 1 el (P i), .live 1 [], .dead, .live 1 [[.int .i64 (i : Int)]], .live 1 ((u0 :: u ++ [(i : Int)]).map ei)] Slot.used = true := by rw [List.all_cons, lsS_used]; rfl
          repeat' ((conv => whnf); first | (refine force_om ?_) | (refine forceC_om ?_) | (refine condP.dec (fun _ => ?_) (fun h => absurd (by omega) h)) | (refine CallP.pure kw ?_) | (refine CallP.inl T84 hu1 ?_) | (first | refine condP.dec (fun h => ?_) (fun h => ?_) | refine condP.eq (fun h => ?_) (fun h => ?_) | refine condP.ne (fun h => ?_) (fun h => ?_)) | (refine .i64 (by omega) (by omega) ?_) | (refine onSome.intro (idx_fs rfl rfl (by omega) (by omega) (fun _ => rfl)) ?_) | (refine onSome.intro (load_fs rfl (by omega) (by omega) rfl) ?_) | (refine And.intro rfl ?_))
          conv => whnf
          refine .full (es := []) (n := 0) rfl rfl rfl rfl (by simp) ei_len ei_ok (r := (u0 :: u).map ei) rfl (n' := u.length + 1) (by simp) (by simp only [List.length_cons] at hu; omega) ?_
          conv => whnf
          refine .grow (ex := false) (n := u.length + 1) (es := (u0 :: u).map ei) (es' := [[.int .i64 (i : Int)]]) rfl rfl (by simp) rfl (by simp) (fun e he => by simp at he; subst he; rfl) (fun e he c hc => by simp at he; subst he; simp at hc; subst hc; rfl) (r := (u0 :: u ++ [(i : Int)]).map ei) (by rw [List.map_append]; rfl) (n' := u.length + 1 + 1) (by simp) (by simp only [List.length_cons] at hu; omega) ?_
          conv => whnf
          refine CallP.frz [4] hu2 [.int .i64 n, sl (u0 :: u ++ [(i : Int)])] (.cons (.refl _) (.cons (.ints (sz := 1) (l := u0 :: u ++ [(i : Int)]) rfl (fun _ _ h => by cases h) (by simp)) .nil)) ?_
          conv => whnf
          refine CallP.pure kih ?_
          conv => whnf
          rcases Q with _ | ⟨q0, Q⟩
          · refine .none (v := omsl 0 (P i)) rfl (by cases P i <;> rfl) rfl ?_
            repeat' ((conv => whnf); first | (refine force_om ?_) | (refine forceC_om ?_) | (first | refine condP.dec (fun h => ?_) (fun h => ?_) | refine condP.eq (fun h => ?_) (fun h => ?_) | refine condP.ne (fun h => ?_) (fun h => ?_)) | (refine .i64 (by omega) (by omega) ?_) | (refine onSome.intro (idx_fs rfl rfl (by omega) (by omega) (fun _ => rfl)) ?_) | (refine onSome.intro (load_fs rfl (by omega) (by omega) rfl) ?_) | (refine And.intro rfl ?_))
            rw [List.append_nil] at hsi
            exact .more (i + 1) [0] rfl (by omega) (by omega) rfl ⟨.same (.int _ _), .same (sl_no _), (by rw [hsi]; exact .omsl rfl), .nn (.int _ _) (frz_int (by omega)), trivial⟩ ⟨(by rw [hsi]; exact .same (lsS_no el_no)), trivial⟩
          · refine OpP.snocs (enc := el) (l := P i) (Q := q0 :: Q) (b := 0) rfl rfl rfl (by simp) (fun _ => rfl) (fun a c hc => by obtain rfl := List.mem_singleton.mp hc; rfl) (by simp only [List.length_cons] at hfi ⊢; omega) ?_
            repeat' ((conv => whnf); first | (refine force_om ?_) | (refine forceC_om ?_) | (first | refine condP.dec (fun h => ?_) (fun h => ?_) | refine condP.eq (fun h => ?_) (fun h => ?_) | refine condP.ne (fun h => ?_) (fun h => ?_)) | (refine .i64 (by omega) (by omega) ?_) | (refine onSome.intro (idx_fs rfl rfl (by omega) (by omega) (fun _ => rfl)) ?_) | (refine onSome.intro (load_fs rfl (by omega) (by omega) rfl) ?_) | (refine And.intro rfl ?_))
            exact .more (i + 1) [5] rfl (by omega) (by omega) rfl ⟨.same (.int _ _), .same (sl_no _), (by rw [hsi]; exact .grown rfl (by simp) (by simp)), .nn (.int _ _) (frz_int (by omega)), trivial⟩ ⟨(by rw [hsi, lsS_ne (by simp)]; exact .same (noS_map el_no)), trivial⟩
      · rw [if_pos (hw.mp rfl), List.append_nil] at hsi
        repeat' ((conv => whnf); first | (refine force_om ?_) | (refine forceC_om ?_) | (refine condP.dec (fun _ => ?_) (fun h => absurd (by omega) h)) | (refine CallP.pure kw ?_) | (first | refine condP.dec (fun h => ?_) (fun h => ?_) | refine condP.eq (fun h => ?_) (fun h => ?_) | refine condP.ne (fun h => ?_) (fun h => ?_)) | (refine .i64 (by omega) (by omega) ?_) | (refine onSome.intro (idx_fs rfl rfl (by omega) (by omega) (fun _ => rfl)) ?_) | (refine onSome.intro (load_fs rfl (by omega) (by omega) rfl) ?_) | (refine And.intro rfl ?_))
        conv => whnf
        exact .more (i + 1) [0] rfl (by omega) (by omega) rfl ⟨.same (.int _ _), .same (sl_no _), (by rw [hsi]; exact .omsl rfl), .same (.int _ _), trivial⟩ ⟨(by rw [hsi]; exact .same (lsS_no el_no)), trivial⟩
    · obtain rfl : i = n := by omega
      repeat' ((conv => whnf); first | (refine force_om ?_) | (refine forceC_om ?_) | (refine condP.dec (fun h => absurd h (by omega)) (fun _ => ?_)) | (first | refine condP.dec (fun h => ?_) (fun h => ?_) | refine condP.eq (fun h => ?_) (fun h => ?_) | refine condP.ne (fun h => ?_) (fun h => ?_)) | (refine .i64 (by omega) (by omega) ?_) | (refine onSome.intro (idx_fs rfl rfl (by omega) (by omega) (fun _ => rfl)) ?_) | (refine onSome.intro (load_fs rfl (by omega) (by omega) rfl) ?_) | (refine And.intro rfl ?_))
      refine .done (by simp) ?_
      repeat' ((conv => whnf); first | (refine force_om ?_) | (refine forceC_om ?_) | (first | refine condP.dec (fun h => ?_) (fun h => ?_) | refine condP.eq (fun h => ?_) (fun h => ?_) | refine condP.ne (fun h => ?_) (fun h => ?_)) | (refine .i64 (by omega) (by omega) ?_) | (refine onSome.intro (idx_fs rfl rfl (by omega) (by omega) (fun _ => rfl)) ?_) | (refine onSome.intro (load_fs rfl (by omega) (by omega) rfl) ?_) | (refine And.intro rfl ?_))
      exact .intro (omsl 0 (P i)) (.inl rfl) rfl (.oml (enc := el) rfl (fun _ _ h => by cases h))

end Go.Proofs.Ytpbadgghhiommaa.I
