/- Grids and plates that are asked for: the program and the reference. -/
import Derived.Test.YtlfaglkkeahamaaGreatNplt
import Derived.Test.YtlfaglkkeahamaaGreatNrset2
set_option linter.unusedVariables false
set_option maxHeartbeats 16000000
set_option linter.unusedSimpArgs false
namespace Go.Proofs.YtlfaglkkeahamaaGreat.I
open Go.Ideal

theorem vs_of {x : List Rg} {m : Int} (h : RgsOk x m (-1000000) 1000000) : Vs x := fun k => by
  rcases Nat.lt_or_ge k x.length with q | q
  · have := h.ok k q
    have a := this.a
    have b := this.b
    have c := this.c
    omega
  · rw [at'_out q]; decide
def grdE (n : Net) (i : Int) (x : List Rg) : Int := if netE n ≠ 0 then netE n else if Out3 i 0 (n.stages.length - 1) then 2 else rgsE x (n.ins + n.stages.length) (-1000000) 1000000
def grdV (n : Net) (i : Int) (x : List Rg) : Rg := if grdE n i x = 0 then (at' n.stages i).grid x else ⟨0, 0⟩
theorem c9Grid_ok {n : Net} (hn : n.Sz) (i : Int) {x : List Rg} (hx : x.length ≤ 9223372036854775807) (H : Heap) :
    Ev T (.call (.func (.func 49) [] []) [n.I, .int .i64 i, rgsI x] H) (.call (.tuple [(grdV n i x).I, .int .i64 (grdE n i x)]) H) := by
  refine run_pure T49 (nn_tuple (nn_cons (Rg.I_no _) (nn_cons (nn_int _ _) nn_none))) (nn_cons n.I_no (nn_cons (nn_int _ _) (nn_cons (rgsI_no _) nn_none))) ?_ H
  have kC := c9check_ok n hn
  have kV := c9volts_ok x (n.ins + n.stages.length) (-1000000) hx
  have e2 : (n.stages.map Stg.R).length = n.stages.length := List.length_map ..
  have hs := hn.s
  by_cases h1 : netE n = 0
  · have hok := netE_zero.mp h1
    have i0 := hok.i0
    have i1 := hok.i1
    have s1 := hok.s1
    rw [h1] at kC
    have kN := c9nodes_ok n (by omega) (by omega) (by omega)
    have kO := c9out_ok i 0 ((((n.stages.map Stg.R).length : Nat) : Int) - 1)
    rw [e2] at kO
    by_cases h2 : Out3 i 0 ((n.stages.length : Int) - 1)
    · have hE : grdE n i x = 2 := by unfold grdE; rw [if_neg (fun q => q h1), if_pos h2]
      have hV : grdV n i x = ⟨0, 0⟩ := by unfold grdV; rw [hE, if_neg (by simp)]
      rw [hE, hV]
      rw [decide_eq_true h2] at kO
      repeat' ((conv => whnf); first | (refine CallP.pure kC ?_) | (refine CallP.pure kO ?_) | (rw [e2]) | (first | refine condP.dec (fun h => ?_) (fun h => ?_) | refine condP.eq (fun h => ?_) (fun h => ?_) | refine condP.ne (fun h => ?_) (fun h => ?_)) | (refine .i64 (by omega) (by omega) ?_) | (refine onSome.intro (idx_fs rfl rfl (by omega) (by omega) (fun _ => rfl)) ?_) | (refine onSome.intro (load_fs rfl (by omega) (by omega) rfl) ?_) | (refine And.intro rfl ?_))
      all_goals first | (exfalso; omega) | skip
      conv => whnf
      exact .intro (.tuple [.agg [.int .i64 0, .int .i64 0], .int .i64 2]) (.inl rfl) rfl (.refl _)
    · have hE : grdE n i x = rgsE x (n.ins + n.stages.length) (-1000000) 1000000 := by unfold grdE; rw [if_neg (fun q => q h1), if_neg h2]
      rw [decide_eq_false h2] at kO
      unfold Out3 at h2
      by_cases h3 : rgsE x (n.ins + n.stages.length) (-1000000) 1000000 = 0
      · have hr := rgsE_zero.mp h3
        have kG := c9grid_ok hok (i := i.toNat) (by omega) (vs_of hr) hr.len
        rw [Int.toNat_of_nonneg (by omega)] at kG
        rw [h3] at kV hE
        have hV : grdV n i x = (at' n.stages i).grid x := by unfold grdV; rw [hE, if_pos rfl]
        rw [hE, hV]
        generalize (at' n.stages i).grid x = w at *
        repeat' ((conv => whnf); first | (refine CallP.pure kC ?_) | (refine CallP.pure kO ?_) | (refine CallP.pure kN ?_) | (refine CallP.pure kV ?_) | (refine CallP.pure kG ?_) | (rw [e2]) | (first | refine condP.dec (fun h => ?_) (fun h => ?_) | refine condP.eq (fun h => ?_) (fun h => ?_) | refine condP.ne (fun h => ?_) (fun h => ?_)) | (refine .i64 (by omega) (by omega) ?_) | (refine onSome.intro (idx_fs rfl rfl (by omega) (by omega) (fun _ => rfl)) ?_) | (refine onSome.intro (load_fs rfl (by omega) (by omega) rfl) ?_) | (refine And.intro rfl ?_))
        all_goals first | (exfalso; omega) | skip
        conv => whnf
        exact .intro (.tuple [w.I, .int .i64 0]) (.inl rfl) rfl (.refl _)
      · have hV : grdV n i x = ⟨0, 0⟩ := by unfold grdV; rw [hE, if_neg h3]
        rw [hE, hV]
        generalize rgsE x (n.ins + n.stages.length) (-1000000) 1000000 = e at *
        repeat' ((conv => whnf); first | (refine CallP.pure kC ?_) | (refine CallP.pure kO ?_) | (refine CallP.pure kN ?_) | (refine CallP.pure kV ?_) | (rw [e2]) | (first | refine condP.dec (fun h => ?_) (fun h => ?_) | refine condP.eq (fun h => ?_) (fun h => ?_) | refine condP.ne (fun h => ?_) (fun h => ?_)) | (refine .i64 (by omega) (by omega) ?_) | (refine onSome.intro (idx_fs rfl rfl (by omega) (by omega) (fun _ => rfl)) ?_) | (refine onSome.intro (load_fs rfl (by omega) (by omega) rfl) ?_) | (refine And.intro rfl ?_))
        all_goals first | (exfalso; omega) | skip
        conv => whnf
        exact .intro (.tuple [.agg [.int .i64 0, .int .i64 0], .int .i64 e]) (.inl rfl) rfl (.refl _)
  · have hE : grdE n i x = netE n := by unfold grdE; rw [if_pos h1]
    have hV : grdV n i x = ⟨0, 0⟩ := by unfold grdV; rw [hE, if_neg h1]
    rw [hE, hV]
    generalize netE n = e at *
    repeat' ((conv => whnf); first | (refine CallP.pure kC ?_) | (first | refine condP.dec (fun h => ?_) (fun h => ?_) | refine condP.eq (fun h => ?_) (fun h => ?_) | refine condP.ne (fun h => ?_) (fun h => ?_)) | (refine .i64 (by omega) (by omega) ?_) | (refine onSome.intro (idx_fs rfl rfl (by omega) (by omega) (fun _ => rfl)) ?_) | (refine onSome.intro (load_fs rfl (by omega) (by omega) rfl) ?_) | (refine And.intro rfl ?_))
    all_goals first | (exfalso; omega) | skip
    conv => whnf
    exact .intro (.tuple [.agg [.int .i64 0, .int .i64 0], .int .i64 e]) (.inl rfl) rfl (.refl _)
theorem r9Grid_ok {n : Net} (hn : n.Sz) (i : Int) {x : List Rg} (hx : x.length ≤ 9223372036854775807) (H : Heap) :
    Ev T (.call (.func (.func 50) [] []) [n.I, .int .i64 i, rgsI x] H) (.call (.tuple [(grdV n i x).I, .int .i64 (grdE n i x)]) H) := by
  refine run_pure T50 (nn_tuple (nn_cons (Rg.I_no _) (nn_cons (nn_int _ _) nn_none))) (nn_cons n.I_no (nn_cons (nn_int _ _) (nn_cons (rgsI_no _) nn_none))) ?_ H
  have kC := r9check_ok n hn
  have kV := r9volts_ok x (n.ins + n.stages.length) (-1000000) 1000000 hx
  have e2 : (n.stages.map Stg.R).length = n.stages.length := List.length_map ..
  have hs := hn.s
  by_cases h1 : netE n = 0
  · have hok := netE_zero.mp h1
    have i0 := hok.i0
    have i1 := hok.i1
    have s1 := hok.s1
    rw [h1] at kC
    have kO := r9out_ok i 0 ((((n.stages.map Stg.R).length : Nat) : Int) - 1)
    rw [e2] at kO
    by_cases h2 : Out3 i 0 ((n.stages.length : Int) - 1)
    · have hE : grdE n i x = 2 := by unfold grdE; rw [if_neg (fun q => q h1), if_pos h2]
      have hV : grdV n i x = ⟨0, 0⟩ := by unfold grdV; rw [hE, if_neg (by simp)]
      rw [hE, hV]
      rw [decide_eq_true h2] at kO
      repeat' ((conv => whnf); first | (refine CallP.pure kC ?_) | (refine CallP.pure kO ?_) | (rw [e2]) | (first | refine condP.dec (fun h => ?_) (fun h => ?_) | refine condP.eq (fun h => ?_) (fun h => ?_) | refine condP.ne (fun h => ?_) (fun h => ?_)) | (refine .i64 (by omega) (by omega) ?_) | (refine onSome.intro (idx_fs rfl rfl (by omega) (by omega) (fun _ => rfl)) ?_) | (refine onSome.intro (load_fs rfl (by omega) (by omega) rfl) ?_) | (refine And.intro rfl ?_))
      all_goals first | (exfalso; omega) | skip
      conv => whnf
      exact .intro (.tuple [.agg [.int .i64 0, .int .i64 0], .int .i64 2]) (.inl rfl) rfl (.refl _)
    · have hE : grdE n i x = rgsE x (n.ins + n.stages.length) (-1000000) 1000000 := by unfold grdE; rw [if_neg (fun q => q h1), if_neg h2]
      rw [decide_eq_false h2] at kO
      unfold Out3 at h2
      by_cases h3 : rgsE x (n.ins + n.stages.length) (-1000000) 1000000 = 0
      · have hr := rgsE_zero.mp h3
        have kG := r9grid_ok (hok.st i.toNat (by omega)) (vs_of hr) hr.len
        rw [Int.toNat_of_nonneg (by omega)] at kG
        rw [h3] at kV hE
        have hV : grdV n i x = (at' n.stages i).grid x := by unfold grdV; rw [hE, if_pos rfl]
        rw [hE, hV]
        generalize hf : at' n.stages i = s at *
        generalize s.grid x = w at *
        repeat' ((conv => whnf); first | (refine CallP.pure kC ?_) | (refine CallP.pure kO ?_) | (refine CallP.pure kV ?_) | (refine onSome.intro (load_fs (l := n.stages) (enc := Stg.R) (i := i) (v := s.I) rfl (by omega) (by omega) (by rw [hf]; rfl)) ?_) | (refine CallP.pure kG ?_) | (rw [e2]) | (first | refine condP.dec (fun h => ?_) (fun h => ?_) | refine condP.eq (fun h => ?_) (fun h => ?_) | refine condP.ne (fun h => ?_) (fun h => ?_)) | (refine .i64 (by omega) (by omega) ?_) | (refine onSome.intro (idx_fs rfl rfl (by omega) (by omega) (fun _ => rfl)) ?_) | (refine onSome.intro (load_fs rfl (by omega) (by omega) rfl) ?_) | (refine And.intro rfl ?_))
        all_goals first | (exfalso; omega) | skip
        conv => whnf
        exact .intro (.tuple [w.I, .int .i64 0]) (.inl rfl) rfl (.refl _)
      · have hV : grdV n i x = ⟨0, 0⟩ := by unfold grdV; rw [hE, if_neg h3]
        rw [hE, hV]
        generalize rgsE x (n.ins + n.stages.length) (-1000000) 1000000 = e at *
        repeat' ((conv => whnf); first | (refine CallP.pure kC ?_) | (refine CallP.pure kO ?_) | (refine CallP.pure kV ?_) | (rw [e2]) | (first | refine condP.dec (fun h => ?_) (fun h => ?_) | refine condP.eq (fun h => ?_) (fun h => ?_) | refine condP.ne (fun h => ?_) (fun h => ?_)) | (refine .i64 (by omega) (by omega) ?_) | (refine onSome.intro (idx_fs rfl rfl (by omega) (by omega) (fun _ => rfl)) ?_) | (refine onSome.intro (load_fs rfl (by omega) (by omega) rfl) ?_) | (refine And.intro rfl ?_))
        all_goals first | (exfalso; omega) | skip
        conv => whnf
        exact .intro (.tuple [.agg [.int .i64 0, .int .i64 0], .int .i64 e]) (.inl rfl) rfl (.refl _)
  · have hE : grdE n i x = netE n := by unfold grdE; rw [if_pos h1]
    have hV : grdV n i x = ⟨0, 0⟩ := by unfold grdV; rw [hE, if_neg h1]
    rw [hE, hV]
    generalize netE n = e at *
    repeat' ((conv => whnf); first | (refine CallP.pure kC ?_) | (first | refine condP.dec (fun h => ?_) (fun h => ?_) | refine condP.eq (fun h => ?_) (fun h => ?_) | refine condP.ne (fun h => ?_) (fun h => ?_)) | (refine .i64 (by omega) (by omega) ?_) | (refine onSome.intro (idx_fs rfl rfl (by omega) (by omega) (fun _ => rfl)) ?_) | (refine onSome.intro (load_fs rfl (by omega) (by omega) rfl) ?_) | (refine And.intro rfl ?_))
    all_goals first | (exfalso; omega) | skip
    conv => whnf
    exact .intro (.tuple [.agg [.int .i64 0, .int .i64 0], .int .i64 e]) (.inl rfl) rfl (.refl _)
theorem r9Plate_ok {n : Net} (hn : n.Sz) (i : Int) (g : Rg) (H : Heap) :
    Ev T (.call (.func (.func 51) [] []) [n.I, .int .i64 i, g.I] H) (.call (.tuple [(pltV n i g).I, .int .i64 (pltE n i g)]) H) := by
  refine run_pure T51 (nn_tuple (nn_cons (Rg.I_no _) (nn_cons (nn_int _ _) nn_none))) (nn_cons n.I_no (nn_cons (nn_int _ _) (nn_cons (Rg.I_no _) nn_none))) ?_ H
  have kC := r9check_ok n hn
  have kV := r9rng_ok g (-1000000) 1000000
  have e2 : (n.stages.map Stg.R).length = n.stages.length := List.length_map ..
  have e3 : (n.tubes.map Fam.R).length = n.tubes.length := List.length_map ..
  have hs := hn.s
  by_cases h1 : netE n = 0
  · have hok := netE_zero.mp h1
    have s1 := hok.s1
    rw [h1] at kC
    have kO := r9out_ok i 0 ((((n.stages.map Stg.R).length : Nat) : Int) - 1)
    rw [e2] at kO
    by_cases h2 : Out3 i 0 ((n.stages.length : Int) - 1)
    · have hE : pltE n i g = 2 := by unfold pltE; rw [if_neg (fun q => q h1), if_pos h2]
      have hV : pltV n i g = ⟨0, 0⟩ := by unfold pltV; rw [hE, if_neg (by simp)]
      rw [hE, hV]
      rw [decide_eq_true h2] at kO
      repeat' ((conv => whnf); first | (refine CallP.pure kC ?_) | (refine CallP.pure kO ?_) | (rw [e2]) | (first | refine condP.dec (fun h => ?_) (fun h => ?_) | refine condP.eq (fun h => ?_) (fun h => ?_) | refine condP.ne (fun h => ?_) (fun h => ?_)) | (refine .i64 (by omega) (by omega) ?_) | (refine onSome.intro (idx_fs rfl rfl (by omega) (by omega) (fun _ => rfl)) ?_) | (refine onSome.intro (load_fs rfl (by omega) (by omega) rfl) ?_) | (refine And.intro rfl ?_))
      all_goals first | (exfalso; omega) | skip
      conv => whnf
      exact .intro (.tuple [.agg [.int .i64 0, .int .i64 0], .int .i64 2]) (.inl rfl) rfl (.refl _)
    · have hE : pltE n i g = rgE g (-1000000) 1000000 := by unfold pltE; rw [if_neg (fun q => q h1), if_neg h2]
      rw [decide_eq_false h2] at kO
      unfold Out3 at h2
      by_cases h3 : rgE g (-1000000) 1000000 = 0
      · have hst := hok.st i.toNat (by omega)
        have hF := hok.tube (i := i.toNat) (by omega)
        have kG := r9plate_ok hF hst (rgE_zero.mp h3)
        rw [Int.toNat_of_nonneg (by omega)] at kG hst
        have t0 := hst.t0
        have t1 := hst.t1
        rw [h3] at kV hE
        have hV : pltV n i g = (at' n.stages i).plate (at' n.tubes (at' n.stages i).tube) g := by unfold pltV; rw [hE, if_pos rfl]
        rw [hE, hV]
        generalize hf : at' n.stages i = s at *
        generalize hfp : at' n.tubes s.tube = F at *
        generalize s.plate F g = w at *
        repeat' ((conv => whnf); first | (refine CallP.pure kC ?_) | (refine CallP.pure kO ?_) | (refine CallP.pure kV ?_) | (refine onSome.intro (load_fs (l := n.stages) (enc := Stg.R) (i := i) (v := s.I) rfl (by omega) (by omega) (by rw [hf]; rfl)) ?_) | (refine onSome.intro (idx_fs (l := n.tubes) (enc := Fam.R) (n := s.tube) rfl rfl (by omega) (by omega) (fun _ => rfl)) ?_) | (refine onSome.intro (load_fs (l := n.tubes) (enc := Fam.R) (i := s.tube) (v := F.I) rfl (by omega) (by omega) (by rw [hfp]; rfl)) ?_) | (refine And.intro (load_fs (l := n.tubes) (enc := Fam.R) (i := s.tube) (v := F.I) rfl (by omega) (by omega) (by rw [hfp]; rfl)) ?_) | (refine CallP.pure kG ?_) | (rw [e2]) | (first | refine condP.dec (fun h => ?_) (fun h => ?_) | refine condP.eq (fun h => ?_) (fun h => ?_) | refine condP.ne (fun h => ?_) (fun h => ?_)) | (refine .i64 (by omega) (by omega) ?_) | (refine onSome.intro (idx_fs rfl rfl (by omega) (by omega) (fun _ => rfl)) ?_) | (refine onSome.intro (load_fs rfl (by omega) (by omega) rfl) ?_) | (refine And.intro rfl ?_))
        all_goals first | (exfalso; omega) | skip
        conv => whnf
        exact .intro (.tuple [w.I, .int .i64 0]) (.inl rfl) rfl (.refl _)
      · have hV : pltV n i g = ⟨0, 0⟩ := by unfold pltV; rw [hE, if_neg h3]
        rw [hE, hV]
        generalize rgE g (-1000000) 1000000 = e at *
        repeat' ((conv => whnf); first | (refine CallP.pure kC ?_) | (refine CallP.pure kO ?_) | (refine CallP.pure kV ?_) | (rw [e2]) | (first | refine condP.dec (fun h => ?_) (fun h => ?_) | refine condP.eq (fun h => ?_) (fun h => ?_) | refine condP.ne (fun h => ?_) (fun h => ?_)) | (refine .i64 (by omega) (by omega) ?_) | (refine onSome.intro (idx_fs rfl rfl (by omega) (by omega) (fun _ => rfl)) ?_) | (refine onSome.intro (load_fs rfl (by omega) (by omega) rfl) ?_) | (refine And.intro rfl ?_))
        all_goals first | (exfalso; omega) | skip
        conv => whnf
        exact .intro (.tuple [.agg [.int .i64 0, .int .i64 0], .int .i64 e]) (.inl rfl) rfl (.refl _)
  · have hE : pltE n i g = netE n := by unfold pltE; rw [if_pos h1]
    have hV : pltV n i g = ⟨0, 0⟩ := by unfold pltV; rw [hE, if_neg h1]
    rw [hE, hV]
    generalize netE n = e at *
    repeat' ((conv => whnf); first | (refine CallP.pure kC ?_) | (first | refine condP.dec (fun h => ?_) (fun h => ?_) | refine condP.eq (fun h => ?_) (fun h => ?_) | refine condP.ne (fun h => ?_) (fun h => ?_)) | (refine .i64 (by omega) (by omega) ?_) | (refine onSome.intro (idx_fs rfl rfl (by omega) (by omega) (fun _ => rfl)) ?_) | (refine onSome.intro (load_fs rfl (by omega) (by omega) rfl) ?_) | (refine And.intro rfl ?_))
    all_goals first | (exfalso; omega) | skip
    conv => whnf
    exact .intro (.tuple [.agg [.int .i64 0, .int .i64 0], .int .i64 e]) (.inl rfl) rfl (.refl _)

end Go.Proofs.YtlfaglkkeahamaaGreat.I
