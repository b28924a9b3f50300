/- GlassFirst runs to true. -/
import Derived.Test.YtpbadgghhiommaaGperm
import Derived.Test.YtpbadgghhiommaaGcount
import Derived.Test.YtpbadgghhiommaaGfirst2
set_option linter.unusedVariables false
set_option maxHeartbeats 32000000
set_option linter.unusedSimpArgs false
namespace Go.Proofs.Ytpbadgghhiommaa.I
open Go.Ideal

theorem ascB_ge {n : Int} {af : List Int} (h : AscB n af) : ∀ k : Nat, k < af.length → (k : Int) ≤ at' af (k : Int)
  | 0, hk => (h 0 hk).1
  | k + 1, hk => by
    have h1 := ascB_ge h k (by omega)
    have h2 := (h (k + 1) hk).2.2 (by omega)
    rw [show ((k + 1 : Nat) : Int) - 1 = (k : Int) by omega] at h2
    omega
theorem ascB_len {n : Nat} {af : List Int} (h : AscB n af) : af.length ≤ n := by
  rcases Nat.lt_or_ge n af.length with q | q
  · have := ascB_ge h n q
    have := (h n q).2.1
    omega
  · exact q
theorem same_slf (o : List Int) (h : o.length ≤ 9223372036854775807) (H : Heap) : Ev T (.call (.func (.func 52) [] []) [sl o, sl o] H) (.call (.bool true) H) := by
  have := Same_ok o o h H
  rwa [decide_eq_true rfl] at this

theorem GlassFirst_ok (nums : List Int) (hn : nums.length ≤ 9223372036854775807) (H : Heap) :
    Ev T (.call (.func (.func 11) [] []) [sl nums] H) (.call (.bool true) H) := by
  refine run_pure T11 (nn_bool _) (nn_cons (sl_no _) nn_none) ?_ H
  have q := NewDice_ok nums hn
  obtain ⟨s0, kd⟩ := q
  have q := FiresOf_good s0 5 (by omega) (by omega)
  obtain ⟨fl, s1, hfl, hgood, kf⟩ := q
  have h0 : firesE fl = 0 := (fires_iff fl).mpr ⟨by omega, hgood⟩
  have haft : ∀ i : Nat, i < fl.length → (at' fl (i : Int)).aft.length ≤ 9000000000000000000 := fun i hi => by
    have := ascB_len (hgood i hi).aft
    omega
  have e5 : (fl.map frR).length = fl.length := List.length_map ..
  have kp := permutations_ok fl.length (by omega) fl.length [] (by simp)
  have hpl := permL_len fl.length (by omega) fl.length []
  have hpow : 8 ^ fl.length ≤ 8 ^ 5 := Nat.pow_le_pow_right (by omega) (by omega)
  have hmem : ∀ o ∈ permL fl.length fl.length [], o.length = fl.length := fun o ho => by
    obtain ⟨t, rfl, ht⟩ := permL_pre ho
    simpa using ht
  have hall := all_right h0
  have kc := Count_ok fl (by omega) haft
  have kr := FirstL_ok fl (by omega) haft
  unfold countR at kc
  unfold firstR at kr
  rw [if_neg (by simp [h0])] at kc kr
  generalize permL fl.length fl.length [] = P at *
  generalize allL fl = A at *
  have e6 : (P.map el).length = P.length := List.length_map ..
  have hs0 : (P.take 0).filter (fun o => decide (RightP fl o)) = [] := rfl
  have hsE : (P.take P.length).filter (fun o => decide (RightP fl o)) = A := by rw [List.take_length]; exact hall
  have hstep : ∀ i : Nat, i < P.length → (P.take (i + 1)).filter (fun o => decide (RightP fl o)) = (P.take i).filter (fun o => decide (RightP fl o)) ++ (if RightP fl (at' P (i : Int)) then [at' P (i : Int)] else []) := fun i hi => by
    rw [List.take_succ_eq_append_getElem hi, List.filter_append, at'_get hi]
    congr 1
    by_cases h : RightP fl P[i]
    · rw [if_pos h, List.filter_cons_of_pos (by rw [decide_eq_true_eq]; exact h)]; rfl
    · rw [if_neg h, List.filter_cons_of_neg (by rw [decide_eq_true_eq]; exact h)]; rfl
  have hlen : ∀ i, ((P.take i).filter (fun o => decide (RightP fl o))).length ≤ 32768 := fun i => by
    have h1 := List.length_filter_le (fun o => decide (RightP fl o)) (P.take i)
    have h2 : (P.take i).length ≤ P.length := by rw [List.length_take]; omega
    have : (8 : Nat) ^ 5 = 32768 := by decide
    omega
  have hR : ∃ R : Nat → List (List Int), R = fun i => (P.take i).filter (fun o => decide (RightP fl o)) := ⟨_, rfl⟩
  obtain ⟨R, hR⟩ := hR
  have hR' : ∀ i, (P.take i).filter (fun o => decide (RightP fl o)) = R i := fun i => by rw [hR]
  have hsRm := hR' P.length
  simp only [hR'] at hs0 hsE hstep hlen
  clear hR hR' hall
  repeat' ((conv => whnf); first | (refine CallP.new kd ?_) | (refine CallP.one (fun H hb => kf H _ hb) rfl ?_) | (refine CallP.frz [] rfl [.int .i64 fl.length, sl []] (.cons (by rw [e5]; exact .refl _) (.cons .nil .nil)) ?_) | (refine CallP.pure kp ?_) | (first | refine condP.dec (fun h => ?_) (fun h => ?_) | refine condP.eq (fun h => ?_) (fun h => ?_) | refine condP.ne (fun h => ?_) (fun h => ?_)) | (refine .i64 (by omega) (by omega) ?_) | (refine onSome.intro (idx_fs rfl rfl (by omega) (by omega) (fun _ => rfl)) ?_) | (refine onSome.intro (load_fs rfl (by omega) (by omega) rfl) ?_) | (refine And.intro rfl ?_))
  all_goals first | (exfalso; omega) | skip
  conv => whnf
  refine loop_rule (X := Nat × Option (List Int)) (fun x => [(3, frsl fl), (4, sll P), (5, .int .i64 ((R x.1).length : Int)), (6, vf x.2), (7, .int .i64 x.1)]) (fun _ => [S1 s1]) (fun x => P.length - x.1) (fun x => x.1 ≤ P.length ∧ FirstV (R x.1) x.2) (0, none)
    ⟨Nat.zero_le _, fun _ => .inl rfl, fun o os h => by rw [hs0] at h; cases h⟩ ⟨rfl, rfl, (by show i6 _ = i6 _; rw [hs0]; rfl), rfl, rfl, trivial⟩ rfl (fun _ _ => rfl) (fun x hx => ?_)
  obtain ⟨i, v⟩ := x
  obtain ⟨hi, hv⟩ := hx
  dsimp only at hi hv ⊢
  rcases Nat.lt_or_ge i P.length with hlt | hge
  · have hsi := hstep i hlt
    have hli := hlen i
    have hom := hmem _ (List.getElem_mem hlt)
    rw [← at'_get hlt] at hom
    have q := Right_any fl (by omega) haft (at' P (i : Int)) (by omega)
    obtain ⟨w, hw, kw⟩ := q
    generalize ho : at' P (i : Int) = o at *
    cases w
    · rw [if_neg (fun h => by have := hw.mpr h; cases this), List.append_nil] at hsi
      repeat' ((conv => whnf); first | (refine condP.dec (fun _ => ?_) (fun h => absurd (by omega) h)) | (refine onSome.intro (load_fs (l := P) (enc := el) (i := (i : Int)) (v := sl o) rfl (by omega) (by omega) (by rw [ho]; rfl)) ?_) | (refine CallP.pure kw ?_) | (first | refine condP.dec (fun h => ?_) (fun h => ?_) | refine condP.eq (fun h => ?_) (fun h => ?_) | refine condP.ne (fun h => ?_) (fun h => ?_)) | (refine .i64 (by omega) (by omega) ?_) | (refine onSome.intro (idx_fs rfl rfl (by omega) (by omega) (fun _ => rfl)) ?_) | (refine onSome.intro (load_fs rfl (by omega) (by omega) rfl) ?_) | (refine And.intro rfl ?_))
      all_goals conv => whnf
      exact .more (i + 1, v) rfl ⟨by dsimp only; omega, by rw [hsi]; exact hv⟩ (by dsimp only; omega) ⟨rfl, rfl, (by show i6 _ = i6 _; rw [hsi]), rfl, rfl, trivial⟩ rfl ⟨(frsl_no _).inn _, (sll_no _).inn _, .int _ _, (vf_no v).inn _, .int _ _, trivial⟩ ⟨(fun j k h h' => (S1_no s1 _ (List.getElem_mem h) _ (List.getElem_mem h')).inn _), trivial⟩
    · rw [if_pos (hw.mp rfl)] at hsi
      have hz : ((R i).length : Int) = 0 → R i = [] := fun h => List.length_eq_zero_iff.mp (by omega)
      have hnz : ¬ ((R i).length : Int) = 0 → R i ≠ [] := fun h e => h (by rw [e]; rfl)
      have hlenQ : ((R (i + 1)).length : Int) = (R i).length + 1 := by rw [hsi, List.length_append]; simp
      have hnew : R i = [] → FirstV (R (i + 1)) (some o) := fun h => by
        rw [hsi, h, List.nil_append]
        refine ⟨fun e => (by cases e), fun o' os e => ?_⟩
        cases e; rfl
      have hold : R i ≠ [] → FirstV (R (i + 1)) v := fun h => by
        rw [hsi]
        refine ⟨fun e => absurd (List.append_eq_nil_iff.mp e).1 h, fun o' os e => ?_⟩
        cases hp : R i with
        | nil => exact absurd hp h
        | cons o2 os2 =>
          rw [hp] at e
          have := hv.2 o2 os2 hp
          cases e
          exact this
      generalize hA : ((R i).length : Int) = a at *
      repeat' ((conv => whnf); first | (refine condP.dec (fun _ => ?_) (fun h => absurd (by omega) h)) | (refine onSome.intro (load_fs (l := P) (enc := el) (i := (i : Int)) (v := sl o) rfl (by omega) (by omega) (by rw [ho]; rfl)) ?_) | (refine CallP.pure kw ?_) | (first | refine condP.dec (fun h => ?_) (fun h => ?_) | refine condP.eq (fun h => ?_) (fun h => ?_) | refine condP.ne (fun h => ?_) (fun h => ?_)) | (refine .i64 (by omega) (by omega) ?_) | (refine onSome.intro (idx_fs rfl rfl (by omega) (by omega) (fun _ => rfl)) ?_) | (refine onSome.intro (load_fs rfl (by omega) (by omega) rfl) ?_) | (refine And.intro rfl ?_))
      · conv => whnf
        exact .more (i + 1, some o) rfl ⟨by dsimp only; omega, hnew (hz (by assumption))⟩ (by dsimp only; omega) ⟨rfl, rfl, (by show i6 _ = i6 _; rw [hlenQ]), rfl, rfl, trivial⟩ rfl ⟨(frsl_no _).inn _, (sll_no _).inn _, .int _ _, (sl_no _).inn _, .int _ _, trivial⟩ ⟨(fun j k h h' => (S1_no s1 _ (List.getElem_mem h) _ (List.getElem_mem h')).inn _), trivial⟩
      · conv => whnf
        exact .more (i + 1, v) rfl ⟨by dsimp only; omega, hold (hnz (by assumption))⟩ (by dsimp only; omega) ⟨rfl, rfl, (by show i6 _ = i6 _; rw [hlenQ]), rfl, rfl, trivial⟩ rfl ⟨(frsl_no _).inn _, (sll_no _).inn _, .int _ _, (vf_no v).inn _, .int _ _, trivial⟩ ⟨(fun j k h h' => (S1_no s1 _ (List.getElem_mem h) _ (List.getElem_mem h')).inn _), trivial⟩
  · obtain rfl : i = P.length := by omega
    rw [hsE] at hv
    have hA := hlen P.length
    rw [hsE] at hA
    rw [hsE]
    rcases A with _ | ⟨o, os⟩
    · rw [if_pos (show ([] : List (List Int)).length = 0 from rfl)] at kr
      repeat' ((conv => whnf); first | (refine condP.dec (fun h => absurd h (by omega)) (fun _ => ?_)) | (first | refine condP.dec (fun h => ?_) (fun h => ?_) | refine condP.eq (fun h => ?_) (fun h => ?_) | refine condP.ne (fun h => ?_) (fun h => ?_)) | (refine .i64 (by omega) (by omega) ?_) | (refine onSome.intro (idx_fs rfl rfl (by omega) (by omega) (fun _ => rfl)) ?_) | (refine onSome.intro (load_fs rfl (by omega) (by omega) rfl) ?_) | (refine And.intro rfl ?_))
      refine .done (by simp) ?_
      repeat' ((conv => whnf); first | (refine CallP.pure kc ?_) | (refine CallP.pure kr ?_) | (refine CallP.pure awake_ok ?_) | (first | refine condP.dec (fun h => ?_) (fun h => ?_) | refine condP.eq (fun h => ?_) (fun h => ?_) | refine condP.ne (fun h => ?_) (fun h => ?_)) | (refine .i64 (by omega) (by omega) ?_) | (refine onSome.intro (idx_fs rfl rfl (by omega) (by omega) (fun _ => rfl)) ?_) | (refine onSome.intro (load_fs rfl (by omega) (by omega) rfl) ?_) | (refine And.intro rfl ?_))
      all_goals first | (exfalso; omega) | skip
      all_goals conv => whnf
      all_goals exact PureP.intro (.bool true) (.inl rfl) rfl (.refl _)
    · have hv := hv.2 o os rfl
      subst hv
      rw [if_neg (by simp)] at kr
      have ho : o ∈ P := by
        have : o ∈ R P.length := by rw [hsE]; exact List.mem_cons_self
        rw [← hsRm, List.mem_filter] at this
        exact List.mem_of_mem_take this.1
      have ks := same_slf o (by have := hmem o ho; omega)
      have hlA : ((o :: os).length : Int) ≠ 0 := by simp; omega
      have kr' : ∃ z : Int, z = 0 ∧ ∀ H, Ev T (.call (.func (.func 59) [] []) [frsl fl] H) (.call (.tuple [sl o, .int .i64 z]) H) := ⟨0, rfl, kr⟩
      have kc' : ∃ z : Int, z = 0 ∧ ∀ H, Ev T (.call (.func (.func 61) [] []) [frsl fl] H) (.call (.tuple [.int .i64 ((o :: os).length : Int), .int .i64 z]) H) := ⟨0, rfl, kc⟩
      obtain ⟨z1, hz1, kr'⟩ := kr'
      obtain ⟨z2, hz2, kc'⟩ := kc'
      clear kr kc hpl hpow hA hsE hstep hlen hs0 hv hsRm
      generalize ((o :: os).length : Int) = B at *
      repeat' ((conv => whnf); first | (refine condP.dec (fun h => absurd h (by omega)) (fun _ => ?_)) | (first | refine condP.dec (fun h => ?_) (fun h => ?_) | refine condP.eq (fun h => ?_) (fun h => ?_) | refine condP.ne (fun h => ?_) (fun h => ?_)) | (refine .i64 (by omega) (by omega) ?_) | (refine onSome.intro (idx_fs rfl rfl (by omega) (by omega) (fun _ => rfl)) ?_) | (refine onSome.intro (load_fs rfl (by omega) (by omega) rfl) ?_) | (refine And.intro rfl ?_))
      refine .done (by simp) ?_
      conv => whnf
      refine CallP.pure kc' ?_
      conv => whnf
      refine CallP.pure kr' ?_
      conv => whnf
      rw [show (B == 0) = false by simpa using hlA]
      conv => whnf
      first | rw [show (z2 == 0) = true by simpa using hz2] | refine condP.eq (fun _ => ?_) (fun h => absurd hz2 h)
      conv => whnf
      first | rw [show (z1 == 0) = true by simpa using hz1] | refine condP.eq (fun _ => ?_) (fun h => absurd hz1 h)
      conv => whnf
      first | rw [show (B == B) = true by simp] | refine condP.same1 ?_
      conv => whnf
      refine CallP.pure ks ?_
      conv => whnf
      refine CallP.pure awake_ok ?_
      conv => whnf
      exact PureP.intro (.bool true) (.inl rfl) rfl (.refl _)

end Go.Proofs.Ytpbadgghhiommaa.I
