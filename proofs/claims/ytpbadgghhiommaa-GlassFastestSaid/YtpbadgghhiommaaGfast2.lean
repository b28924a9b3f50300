/- All lists of digits, as the reference makes them. -/
import Derived.Test.YtpbadgghhiommaaGfast1
import Derived.Test.YtpbadgghhiommaaGorders
import Derived.Test.YtpbadgghhiommaaGperm
set_option linter.unusedVariables false
set_option maxHeartbeats 16000000
set_option linter.unusedSimpArgs false
namespace Go.Proofs.Ytpbadgghhiommaa.I
open Go.Ideal

/-- A list of lists in the making: the empty one is nothing at all. -/
def elN (o : List Int) : List IV := [nilOr o]
theorem elN_no (o : List Int) : ∀ x ∈ elN o, Noname x := nn_cons (nilOr_no o) nn_none
theorem elN_frz {H H' : Heap} : ∀ (L : List (List Int)), FzE H H' (L.map elN) (L.map el)
  | [] => .nil
  | o :: L => by
    refine .cons (.cons ?_ .nil) (elN_frz L)
    cases o with
    | nil => exact .nil
    | cons a o => exact .refl _
theorem listsL_mem {b : Nat} : ∀ {m : Nat} {o : List Int}, o ∈ listsL b m → o.length = m
  | 0, o, h => by
    obtain rfl := List.mem_singleton.mp h
    rfl
  | m + 1, o, h => by
    rw [listsL] at h
    have key : ∀ K, K ≤ (listsL b m).length → o ∈ extL b (listsL b m) K → o.length = m + 1 := by
      intro K
      induction K with
      | zero => intro _ h; cases h
      | succ K ih =>
        intro hK h
        rw [extL] at h
        rcases List.mem_append.mp h with h | h
        · exact ih (by omega) h
        · simp only [ext, List.mem_map] at h
          obtain ⟨i, _, rfl⟩ := h
          have : at' (listsL b m) (K : Int) ∈ listsL b m := by rw [at'_get (show K < (listsL b m).length by omega)]; exact List.getElem_mem _
          rw [List.length_append, listsL_mem this]
          rfl
    exact key _ (Nat.le_refl _) h
theorem listsL_elN {b m : Nat} : (listsL b (m + 1)).map elN = (listsL b (m + 1)).map el := by
  refine List.map_congr_left fun o ho => ?_
  have := listsL_mem ho
  cases o with
  | nil => simp at this
  | cons a o => rfl

theorem lists_ok (m b : Nat) (hm : m ≤ 4) (hb1 : 1 ≤ b) (hb4 : b ≤ 4) (H : Heap) : Ev T (.call (.func (.func 117) [] []) [.int .i64 m, .int .i64 b] H) (.call (sll (listsL b m)) H) := by
  refine run_pure T117 (sll_no _) (nn_cons (nn_int _ _) (nn_cons (nn_int _ _) nn_none)) ?_ H
  have hpow : ∀ i, i ≤ 4 → b ^ i ≤ 256 := fun i hi => Nat.le_trans (Nat.pow_le_pow_left hb4 i) (Nat.le_trans (Nat.pow_le_pow_right (by decide) hi) (by decide))
  have hpos : ∀ i, 0 < b ^ i := fun i => Nat.pow_pos hb1
  conv => whnf
  refine loop_grow (X := Nat × Bool) (fun x => [(0, .int .i64 m), (1, .int .i64 b), (5, .mslice 0 0 (listsL b x.1).length (listsL b x.1).length x.2), (6, .int .i64 x.1)]) (fun x => [.live 1 ((listsL b x.1).map elN)]) (fun x => m - x.1) (fun x => x.1 ≤ m) (0, true)
    (Nat.zero_le _) ⟨rfl, rfl, rfl, rfl, trivial⟩ rfl (fun x hx => ?_)
  obtain ⟨i, ex⟩ := x
  dsimp only at hx ⊢
  have hLl := listsL_len b i
  have hLb := hpow i (by omega)
  rcases Nat.lt_or_ge i m with hlt | hge
  · have hG : extL b (listsL b i) (listsL b i).length = listsL b (i + 1) := rfl
    have hGl := listsL_len b (i + 1)
    have hGb := hpow (i + 1) (by omega)
    have hGp := hpos (i + 1)
    have hGe : (listsL b (i + 1)).map elN = (listsL b (i + 1)).map el := listsL_elN
    have hLm : ∀ o ∈ listsL b i, o.length = i := fun o ho => listsL_mem ho
    generalize hGG : listsL b (i + 1) = G at *
    generalize listsL b i = L at *
    have e1 : (L.map elN).length = L.length := List.length_map ..
    have hkb : ∀ k, k ≤ L.length → k * b ≤ 1024 := fun k hk => by
      have := Nat.mul_le_mul hk hb4
      have := Nat.mul_le_mul_left L.length hb4
      have : k * b ≤ L.length * 4 := Nat.mul_le_mul hk hb4
      omega
    repeat' ((conv => whnf); first | (refine condP.dec (fun _ => ?_) (fun h => absurd (by omega) h)) | (first | refine condP.dec (fun h => ?_) (fun h => ?_) | refine condP.eq (fun h => ?_) (fun h => ?_) | refine condP.ne (fun h => ?_) (fun h => ?_)) | (refine .i64 (by omega) (by omega) ?_) | (refine onSome.intro (idx_fs rfl rfl (by omega) (by omega) (fun _ => rfl)) ?_) | (refine onSome.intro (load_fs rfl (by omega) (by omega) rfl) ?_) | (refine And.intro rfl ?_))
    conv => whnf
    refine .pad 1 ?_
    refine loop_grow (X := Nat) (fun k => [(0, .int .i64 m), (1, .int .i64 b), (5, .mslice 0 0 L.length L.length ex), (6, .int .i64 i), (7, omsl 1 (extL b L k)), (8, .int .i64 k)]) (fun k => [.live 1 (L.map elN), lsS 1 el (extL b L k)]) (fun k => L.length - k) (fun k => k ≤ L.length) 0
      (Nat.zero_le _) ⟨rfl, rfl, rfl, rfl, rfl, rfl, trivial⟩ rfl (fun k hk => ?_)
    have hkk := hkb k hk
    rcases Nat.lt_or_ge k L.length with hkl | hkg
    · have hnx : extL b L (k + 1) = extL b L k ++ ext (at' L (k : Int)) b := rfl
      generalize ho : at' L (k : Int) = o at *
      repeat' ((conv => whnf); first | (refine force_om ?_) | (refine forceC_om ?_) | (refine condP.dec (fun _ => ?_) (fun h => absurd (by omega) h)) | (first | refine condP.dec (fun h => ?_) (fun h => ?_) | refine condP.eq (fun h => ?_) (fun h => ?_) | refine condP.ne (fun h => ?_) (fun h => ?_)) | (refine .i64 (by omega) (by omega) ?_) | (refine onSome.intro (idx_fs rfl rfl (by omega) (by omega) (fun _ => rfl)) ?_) | (refine onSome.intro (load_fs rfl (by omega) (by omega) rfl) ?_) | (refine And.intro rfl ?_))
      conv => whnf
      refine loop_grow (X := Nat) (fun n => [(0, .int .i64 m), (1, .int .i64 b), (5, .mslice 0 0 L.length L.length ex), (6, .int .i64 i), (7, omsl 1 (extL b L k ++ ext o n)), (8, .int .i64 k), (9, .int .i64 n)]) (fun n => [.live 1 (L.map elN), lsS 1 el (extL b L k ++ ext o n)]) (fun n => b - n) (fun n => n ≤ b) 0
        (Nat.zero_le _) ⟨rfl, rfl, rfl, rfl, (by show omsl 1 _ = omsl 1 (_ ++ []); rw [List.append_nil]), rfl, rfl, trivial⟩ (by show [_, _] = [_, lsS 1 el (_ ++ [])]; rw [List.append_nil]) (fun n hn => ?_)
      rcases Nat.lt_or_ge n b with hnl | hng
      · rcases o with _ | ⟨o0, o⟩
        · repeat' ((conv => whnf); first | (refine force_om ?_) | (refine forceC_om ?_) | (refine condP.dec (fun _ => ?_) (fun h => absurd (by omega) h)) | (refine onSome.intro (idx_ms rfl rfl rfl (by omega) (by omega)) ?_) | (refine onSome.intro (load_ms (l := L) (enc := elN) (i := (k : Int)) (v := .nilslice) rfl rfl (by omega) (by omega) (by rw [ho]; rfl)) ?_) | (first | refine condP.dec (fun h => ?_) (fun h => ?_) | refine condP.eq (fun h => ?_) (fun h => ?_) | refine condP.ne (fun h => ?_) (fun h => ?_)) | (refine .i64 (by omega) (by omega) ?_) | (refine onSome.intro (idx_fs rfl rfl (by omega) (by omega) (fun _ => rfl)) ?_) | (refine onSome.intro (load_fs rfl (by omega) (by omega) rfl) ?_) | (refine And.intro rfl ?_))
          · refine .none (v := .mslice 2 0 0 0 true) rfl rfl rfl ?_
            conv => whnf
            refine .full (es := []) (n := 0) rfl rfl rfl rfl (by simp) (fun e he => by simp at he; subst he; rfl) (fun e he c hc => by simp at he; subst he; simp at hc; subst hc; rfl) (r := [(n : Int)].map ei) rfl (n' := 1) rfl (by omega) ?_
            conv => whnf
            refine .snoc (enc := el) (l := extL b L k ++ ext [] n) (b := 1) (r := [.mslice 4 0 1 1 false]) rfl rfl rfl rfl (fun c hc => by obtain rfl := List.mem_singleton.mp hc; rfl) (by simp only [List.length_append, extL_len, ext_len]; omega) ?_
            (repeat ((conv => whnf); refine And.intro rfl ?_)); conv => whnf
            refine .i64 (by omega) (by omega) ?_
            conv => whnf
            exact .more (n + 1) [0, 6] rfl (by omega) (by omega) rfl ⟨.same (.int _ _), .same (.int _ _), .ms rfl, .same (.int _ _), (by rw [ext_succ, ← List.append_assoc]; exact .grown rfl (by simp; omega) (by simp)), .same (.int _ _), .nn (.int _ _) (frz_int (by omega)), trivial⟩
              ⟨.same (noS_map elN_no), (by rw [ext_succ, ← List.append_assoc]; exact .snocL (enc := el) (a := [] ++ [(n : Int)]) el_no (.cons (.nn (sl_no _) (.ints (sz := 1) (l := [] ++ [(n : Int)]) rfl (fun _ _ h => by cases h) (by simp))) .nil)), trivial⟩
        · have hol : o.length ≤ 10 := by
            have := hLm (at' L (k : Int)) (by rw [at'_get hkl]; exact List.getElem_mem _)
            rw [ho] at this
            simp only [List.length_cons] at this
            omega
          repeat' ((conv => whnf); first | (refine force_om ?_) | (refine forceC_om ?_) | (refine condP.dec (fun _ => ?_) (fun h => absurd (by omega) h)) | (refine onSome.intro (idx_ms rfl rfl rfl (by omega) (by omega)) ?_) | (refine onSome.intro (load_ms (l := L) (enc := elN) (i := (k : Int)) (v := sl (o0 :: o)) rfl rfl (by omega) (by omega) (by rw [ho]; rfl)) ?_) | (first | refine condP.dec (fun h => ?_) (fun h => ?_) | refine condP.eq (fun h => ?_) (fun h => ?_) | refine condP.ne (fun h => ?_) (fun h => ?_)) | (refine .i64 (by omega) (by omega) ?_) | (refine onSome.intro (idx_fs rfl rfl (by omega) (by omega) (fun _ => rfl)) ?_) | (refine onSome.intro (load_fs rfl (by omega) (by omega) rfl) ?_) | (refine And.intro rfl ?_))
          · refine .full (es := []) (n := 0) rfl rfl rfl rfl (by simp) ei_len ei_ok (r := (o0 :: o).map ei) rfl (n' := o.length + 1) (by simp) (by omega) ?_
            conv => whnf
            refine .grow (ex := false) (n := o.length + 1) (es := (o0 :: o).map ei) (es' := [[.int .i64 (n : Int)]]) rfl rfl (by simp) rfl (by simp) (fun e he => by simp at he; subst he; rfl) (fun e he c hc => by simp at he; subst he; simp at hc; subst hc; rfl) (r := (o0 :: o ++ [(n : Int)]).map ei) (by rw [List.map_append]; rfl) (n' := o.length + 1 + 1) (by simp) (by omega) ?_
            conv => whnf
            refine .snoc (enc := el) (l := extL b L k ++ ext (o0 :: o) n) (b := 1) (r := [.mslice 5 0 (o.length + 1 + 1) (o.length + 1 + 1) false]) rfl rfl rfl rfl (fun c hc => by obtain rfl := List.mem_singleton.mp hc; rfl) (by simp only [List.length_append, extL_len, ext_len]; omega) ?_
            (repeat ((conv => whnf); refine And.intro rfl ?_)); conv => whnf
            refine .i64 (by omega) (by omega) ?_
            conv => whnf
            exact .more (n + 1) [0, 7] rfl (by omega) (by omega) rfl ⟨.same (.int _ _), .same (.int _ _), .ms rfl, .same (.int _ _), (by rw [ext_succ, ← List.append_assoc]; exact .grown rfl (by simp; omega) (by simp)), .same (.int _ _), .nn (.int _ _) (frz_int (by omega)), trivial⟩
              ⟨.same (noS_map elN_no), (by rw [ext_succ, ← List.append_assoc]; exact .snocL (enc := el) (a := o0 :: o ++ [(n : Int)]) el_no (.cons (.nn (sl_no _) (.ints (sz := 1) (l := o0 :: o ++ [(n : Int)]) rfl (fun _ _ h => by cases h) (by simp))) .nil)), trivial⟩
      · obtain rfl : n = b := by omega
        rw [← hnx]
        repeat' ((conv => whnf); first | (refine force_om ?_) | (refine forceC_om ?_) | (refine condP.dec (fun h => absurd h (by omega)) (fun _ => ?_)) | (first | refine condP.dec (fun h => ?_) (fun h => ?_) | refine condP.eq (fun h => ?_) (fun h => ?_) | refine condP.ne (fun h => ?_) (fun h => ?_)) | (refine .i64 (by omega) (by omega) ?_) | (refine onSome.intro (idx_fs rfl rfl (by omega) (by omega) (fun _ => rfl)) ?_) | (refine onSome.intro (load_fs rfl (by omega) (by omega) rfl) ?_) | (refine And.intro rfl ?_))
        refine .done (by simp) ?_
        repeat' ((conv => whnf); first | (refine force_om ?_) | (refine forceC_om ?_) | (first | refine condP.dec (fun h => ?_) (fun h => ?_) | refine condP.eq (fun h => ?_) (fun h => ?_) | refine condP.ne (fun h => ?_) (fun h => ?_)) | (refine .i64 (by omega) (by omega) ?_) | (refine onSome.intro (idx_fs rfl rfl (by omega) (by omega) (fun _ => rfl)) ?_) | (refine onSome.intro (load_fs rfl (by omega) (by omega) rfl) ?_) | (refine And.intro rfl ?_))
        exact .more (k + 1) [0, 1] rfl (by omega) (by omega) rfl ⟨.same (.int _ _), .same (.int _ _), .ms rfl, .same (.int _ _), .omsl rfl, .nn (.int _ _) (frz_int (by omega)), trivial⟩ ⟨.same (noS_map elN_no), .same (lsS_no el_no), trivial⟩
    · obtain rfl : k = L.length := by omega
      rw [hG]
      have hne : G ≠ [] := by intro q; rw [q] at hGl; simp at hGl; omega
      repeat' ((conv => whnf); first | (refine force_om ?_) | (refine forceC_om ?_) | (refine condP.dec (fun h => absurd h (by omega)) (fun _ => ?_)) | (first | refine condP.dec (fun h => ?_) (fun h => ?_) | refine condP.eq (fun h => ?_) (fun h => ?_) | refine condP.ne (fun h => ?_) (fun h => ?_)) | (refine .i64 (by omega) (by omega) ?_) | (refine onSome.intro (idx_fs rfl rfl (by omega) (by omega) (fun _ => rfl)) ?_) | (refine onSome.intro (load_fs rfl (by omega) (by omega) rfl) ?_) | (refine And.intro rfl ?_))
      refine .done (by simp) ?_
      repeat' ((conv => whnf); first | (refine force_om ?_) | (refine forceC_om ?_) | (first | refine condP.dec (fun h => ?_) (fun h => ?_) | refine condP.eq (fun h => ?_) (fun h => ?_) | refine condP.ne (fun h => ?_) (fun h => ?_)) | (refine .i64 (by omega) (by omega) ?_) | (refine onSome.intro (idx_fs rfl rfl (by omega) (by omega) (fun _ => rfl)) ?_) | (refine onSome.intro (load_fs rfl (by omega) (by omega) rfl) ?_) | (refine And.intro rfl ?_))
      exact .more (i + 1, false) [1] rfl (by dsimp only; omega) (by dsimp only; omega) rfl ⟨.same (.int _ _), .same (.int _ _), (by dsimp only; rw [hGG, omsl_ne hne]; exact .ms rfl), .nn (.int _ _) (frz_int (by dsimp only; omega)), trivial⟩
        ⟨(by dsimp only; rw [hGG, hGe, lsS_ne hne]; exact .same (noS_map el_no)), trivial⟩
  · obtain rfl : i = m := by omega
    repeat' ((conv => whnf); first | (refine condP.dec (fun h => absurd h (by omega)) (fun _ => ?_)) | (first | refine condP.dec (fun h => ?_) (fun h => ?_) | refine condP.eq (fun h => ?_) (fun h => ?_) | refine condP.ne (fun h => ?_) (fun h => ?_)) | (refine .i64 (by omega) (by omega) ?_) | (refine onSome.intro (idx_fs rfl rfl (by omega) (by omega) (fun _ => rfl)) ?_) | (refine onSome.intro (load_fs rfl (by omega) (by omega) rfl) ?_) | (refine And.intro rfl ?_))
    refine .done (by simp) ?_
    conv => whnf
    exact .intro (.mslice 0 0 (listsL b i).length (listsL b i).length ex) (.inl rfl) rfl (.whole (sz := 1) rfl (fun _ _ h => by cases h) (by simp) (elN_frz _))

end Go.Proofs.Ytpbadgghhiommaa.I
