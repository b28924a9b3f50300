/- The reference's orders: all right orders, their number and the first. -/
import Derived.Test.YtpbadgghhiommaaGright2
set_option linter.unusedVariables false
set_option maxHeartbeats 16000000
set_option linter.unusedSimpArgs false
namespace Go.Proofs.Ytpbadgghhiommaa.I
open Go.Ideal

def ordP (f : Nat → List (List Int)) : Nat → List (List Int)
  | 0 => []
  | k + 1 => ordP f k ++ f k
noncomputable instance (l : List Fire) (bf : List Int) (i : Int) : Decidable (NextP l bf i) := Classical.propDecidable _
/-- All right orders that begin as given, d fires to come. -/
noncomputable def ordL (l : List Fire) : Nat → List Int → List (List Int)
  | 0, bf => [bf]
  | d + 1, bf => ordP (fun i => if NextP l bf i then ordL l d (bf ++ [(i : Int)]) else []) l.length
theorem ordP_len {f : Nat → List (List Int)} {M : Nat} (h : ∀ i, (f i).length ≤ M) : ∀ k, (ordP f k).length ≤ k * M
  | 0 => by simp [ordP]
  | k + 1 => by
    rw [ordP, List.length_append, Nat.add_mul]
    have := ordP_len h k
    have := h k
    omega
theorem ordL_len (l : List Fire) (hl : l.length ≤ 8) : ∀ (d : Nat) (bf : List Int), (ordL l d bf).length ≤ 8 ^ d
  | 0, bf => by simp [ordL]
  | d + 1, bf => by
    rw [ordL]
    have := ordP_len (f := fun i => if NextP l bf i then ordL l d (bf ++ [(i : Int)]) else []) (M := 8 ^ d) (fun i => by
      split
      · exact ordL_len l hl d _
      · simp) l.length
    have h2 : l.length * 8 ^ d ≤ 8 * 8 ^ d := Nat.mul_le_mul_right _ hl
    rw [Nat.pow_succ]
    omega
/-- What stands for the first order found so far. -/
def vf : Option (List Int) → IV
  | none => .nilslice
  | some q => sl q
theorem vf_no (v : Option (List Int)) : Noname (vf v) := by
  cases v with
  | none => exact .nilslice
  | some q => exact sl_no _
def FirstV (P : List (List Int)) (v : Option (List Int)) : Prop := (P = [] → v = none ∨ v = some []) ∧ ∀ o os, P = o :: os → v = some o
theorem FirstV.frz {H H' : Heap} {P : List (List Int)} {v : Option (List Int)} (h : FirstV P v) : Frz H H' (vf v) (sl (P.headD [])) := by
  cases P with
  | nil =>
    rcases h.1 rfl with rfl | rfl
    · exact .nil
    · exact .refl _
  | cons o os => rw [h.2 o os rfl]; exact .refl _

theorem rorders_ok (l : List Fire) (hF : FOk l) (ha : ∀ i : Nat, i < l.length → (at' l (i : Int)).aft.length ≤ 9000000000000000000) : ∀ (d : Nat) (bf : List Int), bf.length + d = l.length → (∀ b ∈ bf, 0 ≤ b ∧ b < l.length) → ∀ H,
    Ev T (.call (.func (.func 102) [] []) [frsl l, sl bf] H) (.call (.tuple [.int .i64 ((ordL l d bf).length : Int), sl ((ordL l d bf).headD [])]) H)
  | 0, bf, hb, hin, H => by
    refine run_pure T102 (nn_tuple (nn_cons (nn_int _ _) (nn_cons (sl_no _) nn_none))) (nn_cons (frsl_no _) (nn_cons (sl_no _) nn_none)) ?_ H
    have hlen := hF.len
    have e1 : (l.map frR).length = l.length := List.length_map ..
    have e3 : (bf.map ei).length = bf.length := List.length_map ..
    rw [ordL]
    rcases bf with _ | ⟨b0, bf⟩
    · repeat' ((conv => whnf); first | (refine condP.eq (fun _ => ?_) (fun h => absurd (by simp at hb ⊢; omega) h)) | (first | refine condP.dec (fun h => ?_) (fun h => ?_) | refine condP.eq (fun h => ?_) (fun h => ?_) | refine condP.ne (fun h => ?_) (fun h => ?_)) | (refine .i64 (by omega) (by omega) ?_) | (refine onSome.intro (idx_fs rfl rfl (by omega) (by omega) (fun _ => rfl)) ?_) | (refine onSome.intro (load_fs rfl (by omega) (by omega) rfl) ?_) | (refine And.intro rfl ?_))
      conv => whnf
      refine .none (v := .mslice 0 0 0 0 true) rfl rfl rfl ?_
      conv => whnf
      exact .intro (.tuple [.int .i64 1, .mslice 0 0 0 0 true]) (.inl rfl) rfl (.tupleL (.cons (.refl _) (.cons (.ints (sz := 1) (l := []) rfl (fun _ _ h => by cases h) rfl) .nil)))
    · repeat' ((conv => whnf); first | (refine condP.eq (fun _ => ?_) (fun h => absurd (by omega) h)) | (first | refine condP.dec (fun h => ?_) (fun h => ?_) | refine condP.eq (fun h => ?_) (fun h => ?_) | refine condP.ne (fun h => ?_) (fun h => ?_)) | (refine .i64 (by omega) (by omega) ?_) | (refine onSome.intro (idx_fs rfl rfl (by omega) (by omega) (fun _ => rfl)) ?_) | (refine onSome.intro (load_fs rfl (by omega) (by omega) rfl) ?_) | (refine And.intro rfl ?_))
      conv => whnf
      refine .full (es := []) (n := 0) rfl rfl rfl rfl (by simp) ei_len ei_ok (r := (b0 :: bf).map ei) rfl (n' := bf.length + 1) (by simp) (by simp only [List.length_cons] at hb; omega) ?_
      conv => whnf
      exact .intro (.tuple [.int .i64 1, .mslice 1 0 (bf.length + 1) (bf.length + 1) false]) (.inl rfl) rfl (.tupleL (.cons (.refl _) (.cons (.ints (sz := 1) (l := b0 :: bf) rfl (fun _ _ h => by cases h) rfl) .nil)))
  | d + 1, bf, hb, hin, H => by
    have ih := rorders_ok l hF ha d
    refine run_pure T102 (nn_tuple (nn_cons (nn_int _ _) (nn_cons (sl_no _) nn_none))) (nn_cons (frsl_no _) (nn_cons (sl_no _) nn_none)) ?_ H
    have hlen := hF.len
    have e1 : (l.map frR).length = l.length := List.length_map ..
    have e3 : (bf.map ei).length = bf.length := List.length_map ..
    have hpow : 8 ^ d ≤ 8 ^ 8 := Nat.pow_le_pow_right (by omega) (by omega)
    have hbound : ∀ k, k ≤ l.length → (ordP (fun i => if NextP l bf i then ordL l d (bf ++ [(i : Int)]) else []) k).length ≤ 8 * 8 ^ 8 := fun k hk => by
      have := ordP_len (f := fun i => if NextP l bf i then ordL l d (bf ++ [(i : Int)]) else []) (M := 8 ^ d) (fun i => by
        split
        · exact ordL_len l hlen d _
        · simp) k
      have h2 : k * 8 ^ d ≤ 8 * 8 ^ 8 := Nat.mul_le_mul (by omega) hpow
      omega
    have hstep : ∀ i : Nat, ordP (fun i => if NextP l bf i then ordL l d (bf ++ [(i : Int)]) else []) (i + 1) = ordP (fun i => if NextP l bf i then ordL l d (bf ++ [(i : Int)]) else []) i ++ (if NextP l bf i then ordL l d (bf ++ [(i : Int)]) else []) := fun _ => rfl
    have h00 : ordP (fun i => if NextP l bf i then ordL l d (bf ++ [(i : Int)]) else []) 0 = [] := rfl
    rw [ordL]
    generalize ordP (fun i => if NextP l bf i then ordL l d (bf ++ [(i : Int)]) else []) = P at *
    repeat' ((conv => whnf); first | (refine condP.eq (fun h => absurd h (by omega)) (fun _ => ?_)) | (first | refine condP.dec (fun h => ?_) (fun h => ?_) | refine condP.eq (fun h => ?_) (fun h => ?_) | refine condP.ne (fun h => ?_) (fun h => ?_)) | (refine .i64 (by omega) (by omega) ?_) | (refine onSome.intro (idx_fs rfl rfl (by omega) (by omega) (fun _ => rfl)) ?_) | (refine onSome.intro (load_fs rfl (by omega) (by omega) rfl) ?_) | (refine And.intro rfl ?_))
    conv => whnf
    refine loop_rule (X := Nat × Option (List Int)) (fun x => [(0, frsl l), (1, sl bf), (6, .int .i64 ((P x.1).length : Int)), (7, vf x.2), (8, .int .i64 x.1)]) (fun _ => []) (fun x => l.length - x.1) (fun x => x.1 ≤ l.length ∧ FirstV (P x.1) x.2) (0, none)
      ⟨Nat.zero_le _, fun _ => .inl rfl, fun o os h => by rw [h00] at h; cases h⟩ ⟨rfl, rfl, (by show i6 _ = i6 _; rw [h00]; rfl), rfl, rfl, trivial⟩ rfl (fun _ _ => rfl) (fun x hx => ?_)
    obtain ⟨i, v⟩ := x
    obtain ⟨hi, hv⟩ := hx
    dsimp only at hi hv ⊢
    rcases Nat.lt_or_ge i l.length with hlt | hge
    · have q := next_any l hF ha bf (by omega) hin i hlt
      obtain ⟨w, hw, kw⟩ := q
      have hsi := hstep i
      have hin' : ∀ b ∈ bf ++ [(i : Int)], 0 ≤ b ∧ b < l.length := fun b hb => by
        rcases List.mem_append.mp hb with h | h
        · exact hin b h
        · obtain rfl := List.mem_singleton.mp h; omega
      have kih := ih (bf ++ [(i : Int)]) (by simp; omega) hin'
      have hb1 := hbound i hi
      have hb2 := hbound (i + 1) (by omega)
      cases w
      · rw [if_neg (fun h => by have := hw.mpr h; cases this), List.append_nil] at hsi
        repeat' ((conv => whnf); first | (refine condP.dec (fun _ => ?_) (fun h => absurd (by omega) h)) | (refine CallP.pure kw ?_) | (first | refine condP.dec (fun h => ?_) (fun h => ?_) | refine condP.eq (fun h => ?_) (fun h => ?_) | refine condP.ne (fun h => ?_) (fun h => ?_)) | (refine .i64 (by omega) (by omega) ?_) | (refine onSome.intro (idx_fs rfl rfl (by omega) (by omega) (fun _ => rfl)) ?_) | (refine onSome.intro (load_fs rfl (by omega) (by omega) rfl) ?_) | (refine And.intro rfl ?_))
        conv => whnf
        exact .more (i + 1, v) rfl ⟨by dsimp only; omega, by rw [hsi]; exact hv⟩ (by dsimp only; omega) ⟨rfl, rfl, (by show i6 _ = i6 _; rw [hsi]), rfl, rfl, trivial⟩ rfl ⟨(frsl_no _).inn _, (sl_no _).inn _, .int _ _, (vf_no v).inn _, .int _ _, trivial⟩ trivial
      · rw [if_pos (hw.mp rfl)] at hsi
        generalize ordL l d (bf ++ [(i : Int)]) = Q at *
        have hlenQ : ((P (i + 1)).length : Int) = (P i).length + Q.length := by rw [hsi, List.length_append]; omega
        have hnew : P i = [] → FirstV (P (i + 1)) (some (Q.headD [])) := fun h => by
          rw [hsi, h, List.nil_append]
          refine ⟨fun e => ?_, fun o os e => ?_⟩
          · rw [e]; exact .inr rfl
          · rw [e]; rfl
        have hold : P i ≠ [] → FirstV (P (i + 1)) v := fun h => by
          rw [hsi]
          refine ⟨fun e => absurd (List.append_eq_nil_iff.mp e).1 h, fun o os e => ?_⟩
          cases hp : P i with
          | nil => exact absurd hp h
          | cons o' os' =>
            rw [hp] at e
            have := hv.2 o' os' hp
            cases e
            exact this
        have hz : ((P i).length : Int) = 0 → P i = [] := fun h => List.length_eq_zero_iff.mp (by omega)
        have hnz : ¬ ((P i).length : Int) = 0 → P i ≠ [] := fun h e => h (by rw [e]; rfl)
        generalize hA : ((P i).length : Int) = A at *
        generalize hB : (Q.length : Int) = B at *
        generalize Q.headD [] = qv at *
        rcases bf with _ | ⟨b0, bf⟩
        · repeat' ((conv => whnf); first | (refine condP.dec (fun _ => ?_) (fun h => absurd (by omega) h)) | (refine CallP.pure kw ?_) | (first | refine condP.dec (fun h => ?_) (fun h => ?_) | refine condP.eq (fun h => ?_) (fun h => ?_) | refine condP.ne (fun h => ?_) (fun h => ?_)) | (refine .i64 (by omega) (by omega) ?_) | (refine onSome.intro (idx_fs rfl rfl (by omega) (by omega) (fun _ => rfl)) ?_) | (refine onSome.intro (load_fs rfl (by omega) (by omega) rfl) ?_) | (refine And.intro rfl ?_))
          conv => whnf
          refine .none (v := .mslice 0 0 0 0 true) rfl rfl rfl ?_
          conv => whnf
          refine .full (es := []) (n := 0) rfl rfl rfl rfl (by simp) (fun e he => by simp at he; subst he; rfl) (fun e he c hc => by simp at he; subst he; simp at hc; subst hc; rfl) (r := [(i : Int)].map ei) rfl (n' := 1) rfl (by omega) ?_
          conv => whnf
          refine CallP.frz [2] rfl [frsl l, sl [(i : Int)]] (.cons (.refl _) (.cons (.ints (sz := 1) (l := [(i : Int)]) rfl (fun _ _ h => by cases h) rfl) .nil)) ?_
          conv => whnf
          refine CallP.pure kih ?_
          repeat' ((conv => whnf); first | (refine condP.eq (fun h => ?_) (fun h => ?_)) | (first | refine condP.dec (fun h => ?_) (fun h => ?_) | refine condP.eq (fun h => ?_) (fun h => ?_) | refine condP.ne (fun h => ?_) (fun h => ?_)) | (refine .i64 (by omega) (by omega) ?_) | (refine onSome.intro (idx_fs rfl rfl (by omega) (by omega) (fun _ => rfl)) ?_) | (refine onSome.intro (load_fs rfl (by omega) (by omega) rfl) ?_) | (refine And.intro rfl ?_))
          · conv => whnf
            exact .more (i + 1, some qv) rfl ⟨by dsimp only; omega, hnew (hz (by assumption))⟩ (by dsimp only; omega) ⟨rfl, rfl, (by show i6 _ = i6 _; rw [hlenQ]), rfl, rfl, trivial⟩ rfl ⟨(frsl_no _).inn _, (sl_no _).inn _, .int _ _, (sl_no _).inn _, .int _ _, trivial⟩ trivial
          · conv => whnf
            exact .more (i + 1, v) rfl ⟨by dsimp only; omega, hold (hnz (by assumption))⟩ (by dsimp only; omega) ⟨rfl, rfl, (by show i6 _ = i6 _; rw [hlenQ]), rfl, rfl, trivial⟩ rfl ⟨(frsl_no _).inn _, (sl_no _).inn _, .int _ _, (vf_no v).inn _, .int _ _, trivial⟩ trivial
        · repeat' ((conv => whnf); first | (refine condP.dec (fun _ => ?_) (fun h => absurd (by omega) h)) | (refine CallP.pure kw ?_) | (first | refine condP.dec (fun h => ?_) (fun h => ?_) | refine condP.eq (fun h => ?_) (fun h => ?_) | refine condP.ne (fun h => ?_) (fun h => ?_)) | (refine .i64 (by omega) (by omega) ?_) | (refine onSome.intro (idx_fs rfl rfl (by omega) (by omega) (fun _ => rfl)) ?_) | (refine onSome.intro (load_fs rfl (by omega) (by omega) rfl) ?_) | (refine And.intro rfl ?_))
          conv => whnf
          refine .full (es := []) (n := 0) rfl rfl rfl rfl (by simp) ei_len ei_ok (r := (b0 :: bf).map ei) rfl (n' := bf.length + 1) (by simp) (by simp only [List.length_cons] at hb; omega) ?_
          conv => whnf
          refine .grow (ex := false) (n := bf.length + 1) (es := (b0 :: bf).map ei) (es' := [[.int .i64 (i : Int)]]) rfl rfl (by simp) rfl (by simp) (fun e he => by simp at he; subst he; rfl) (fun e he c hc => by simp at he; subst he; simp at hc; subst hc; rfl) (r := (b0 :: bf ++ [(i : Int)]).map ei) (by rw [List.map_append]; rfl) (n' := bf.length + 1 + 1) (by simp) (by simp only [List.length_cons] at hb; omega) ?_
          conv => whnf
          refine CallP.frz [3] rfl [frsl l, sl (b0 :: bf ++ [(i : Int)])] (.cons (.refl _) (.cons (.ints (sz := 1) (l := b0 :: bf ++ [(i : Int)]) rfl (fun _ _ h => by cases h) (by simp)) .nil)) ?_
          conv => whnf
          refine CallP.pure kih ?_
          repeat' ((conv => whnf); first | (refine condP.eq (fun h => ?_) (fun h => ?_)) | (first | refine condP.dec (fun h => ?_) (fun h => ?_) | refine condP.eq (fun h => ?_) (fun h => ?_) | refine condP.ne (fun h => ?_) (fun h => ?_)) | (refine .i64 (by omega) (by omega) ?_) | (refine onSome.intro (idx_fs rfl rfl (by omega) (by omega) (fun _ => rfl)) ?_) | (refine onSome.intro (load_fs rfl (by omega) (by omega) rfl) ?_) | (refine And.intro rfl ?_))
          · conv => whnf
            exact .more (i + 1, some qv) rfl ⟨by dsimp only; omega, hnew (hz (by assumption))⟩ (by dsimp only; omega) ⟨rfl, rfl, (by show i6 _ = i6 _; rw [hlenQ]), rfl, rfl, trivial⟩ rfl ⟨(frsl_no _).inn _, (sl_no _).inn _, .int _ _, (sl_no _).inn _, .int _ _, trivial⟩ trivial
          · conv => whnf
            exact .more (i + 1, v) rfl ⟨by dsimp only; omega, hold (hnz (by assumption))⟩ (by dsimp only; omega) ⟨rfl, rfl, (by show i6 _ = i6 _; rw [hlenQ]), rfl, rfl, trivial⟩ rfl ⟨(frsl_no _).inn _, (sl_no _).inn _, .int _ _, (vf_no v).inn _, .int _ _, trivial⟩ trivial
    · obtain rfl : i = l.length := by omega
      conv => whnf
      refine condP.dec (fun h => absurd h (by omega)) (fun _ => ?_)
      conv => whnf
      refine .done (by simp) ?_
      cases v
      · conv => whnf
        exact .intro (.tuple [.int .i64 ((P l.length).length : Int), .nilslice]) (.inl rfl) rfl (.tupleL (.cons (.refl _) (.cons hv.frz .nil)))
      · conv => whnf
        exact .intro (.tuple [.int .i64 ((P l.length).length : Int), sl _]) (.inl rfl) rfl (.tupleL (.cons (.refl _) (.cons hv.frz .nil)))

end Go.Proofs.Ytpbadgghhiommaa.I
