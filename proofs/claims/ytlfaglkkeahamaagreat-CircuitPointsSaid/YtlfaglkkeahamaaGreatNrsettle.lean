/- Nets that come to rest: the reference. -/
import Derived.Test.YtlfaglkkeahamaaGreatNrests
import Derived.Test.YtlfaglkkeahamaaGreatNrchk
set_option linter.unusedVariables false
set_option maxHeartbeats 32000000
set_option linter.unusedSimpArgs false
namespace Go.Proofs.YtlfaglkkeahamaaGreat.I
open Go.Ideal

theorem rsettle_head {n : Net} (hn : n.Ok) {l : List Rg} (hl : RgsOk l n.ins (-1000000) 1000000) {y : List Rg} (hy : y = n.start l) {u : List Rg} {k : Nat} (hu : u = n.iter y k) : n.Post u ∧ WIn u y := by
  have hP0 := hn.start hl
  rw [← hy] at hP0
  refine ⟨by rw [hu]; exact hP0.iter hn k, ?_⟩
  have := hn.iter_in y 0 k
  rw [Nat.zero_add] at this
  rw [hu]
  exact this
theorem r9settle_ok {n : Net} (hn : n.Ok) {l : List Rg} (hl : RgsOk l n.ins (-1000000) 1000000) {iv : IV} (hv : Noname iv) (hE : ∀ H, elsOf H iv = some (l.map Rg.R)) {sw : Nat} (hk : sw ≤ 1000) (H : Heap) :
    Ev T (.call (.func (.func 90) [] []) [n.I, iv, .int .i64 sw] H) (.call (setI (n.settle l sw)) H) := by
  refine run_pure T90 (setI_no _) (nn_cons n.I_no (nn_cons hv (nn_cons (nn_int _ _) nn_none))) ?_ H
  have e2 : (n.stages.map Stg.R).length = n.stages.length := List.length_map ..
  have e3 : (n.tubes.map Fam.R).length = n.tubes.length := List.length_map ..
  have i0 := hn.i0
  have i1 := hn.i1
  have s0 := hn.s0
  have s1 := hn.s1
  have hll := hl.len
  have hP0 := hn.start hl
  have hlen0 := hP0.len
  repeat' ((conv => whnf); first | (refine forceC_in (v := iv) ?_) | (refine force_in (v := iv) ?_) | (first | refine condP.dec (fun h => ?_) (fun h => ?_) | refine condP.eq (fun h => ?_) (fun h => ?_) | refine condP.ne (fun h => ?_) (fun h => ?_)) | (refine .i64 (by omega) (by omega) ?_) | (refine onSome.intro (idx_fs rfl rfl (by omega) (by omega) (fun _ => rfl)) ?_) | (refine onSome.intro (load_fs rfl (by omega) (by omega) rfl) ?_) | (refine And.intro rfl ?_))
  by_cases hl0 : l = []
  · have hE0 : ∀ H, elsOf H iv = some [] := fun H => by rw [hE, hl0]; rfl
    conv => whnf
    refine .none rfl rfl (hE0 _) ?_
    conv => whnf
    refine loop_step ?_
    have hlt : 0 < n.stages.length := by omega
    generalize hf : at' n.stages ((0 : Nat) : Int) = s at *
    repeat' ((conv => whnf); first | (refine condP.dec (fun _ => ?_) (fun h => absurd (by omega) h)) | (refine onSome.intro (load_fs (l := n.stages) (enc := Stg.R) (i := ((0 : Nat) : Int)) (v := .int .i64 s.su.hi) rfl (by omega) (by omega) (by rw [hf]; rfl)) ?_) | (refine .full (es := []) (n := 0) (es' := [Rg.R ⟨0, s.su.hi⟩]) rfl rfl rfl rfl (by simp) (fun e he => by simp at he; subst he; rfl) (fun e he c hc => by simp at he; subst he; simp [Rg.R] at hc; rcases hc with rfl | rfl <;> rfl) (r := [Rg.R ⟨0, s.su.hi⟩]) rfl (n' := 1) rfl (by omega) ?_) | (first | refine condP.dec (fun h => ?_) (fun h => ?_) | refine condP.eq (fun h => ?_) (fun h => ?_) | refine condP.ne (fun h => ?_) (fun h => ?_)) | (refine .i64 (by omega) (by omega) ?_) | (refine onSome.intro (idx_fs rfl rfl (by omega) (by omega) (fun _ => rfl)) ?_) | (refine onSome.intro (load_fs rfl (by omega) (by omega) rfl) ?_) | (refine And.intro rfl ?_))
    conv => whnf
    generalize hs0v : s.su.hi = s0v at *
    refine loop_grow (X := Nat × List Rg) (fun x => [(2, .int .i64 sw), (3, .ptr 0 0 0), (6, .ptr 1 0 0), (7, .ptr 3 0 0), (8, .int .i64 x.1)])
      (fun x => [.live 3 [n.R], .live 3 [[.nilslice, .int .i64 0, .bool false]], .live 2 [], .live 3 [[omsl 5 x.2, .int .i64 0, .bool false]], .live 2 [[.int .i64 0, .int .i64 s0v]], lsS 2 Rg.R x.2])
      (fun x => n.stages.length - x.1) (fun x => x.1 ≤ n.stages.length ∧ x.2 = startN n l x.1) (1, [⟨0, s0v⟩]) ⟨hlt, by have := startN_succ (n := n) (l := l) hlt; rw [hf, hs0v] at this; rw [this]; unfold startN; rw [hl0]; rfl⟩ ⟨rfl, rfl, rfl, rfl, rfl, trivial⟩ rfl (fun x hx => ?_)
    obtain ⟨i, y⟩ := x
    obtain ⟨hi, hy⟩ := hx
    dsimp only at hi hy ⊢
    have hyl : y.length = l.length + i := by rw [hy, startN_len hi]
    rcases Nat.lt_or_ge i n.stages.length with hlt | hge
    · have hnx := startN_succ (l := l) hlt
      rw [← hy] at hnx
      generalize hf : at' n.stages (i : Int) = s at *
      repeat' ((conv => whnf); first | (refine force_om ?_) | (refine forceC_om ?_) | (refine condP.dec (fun _ => ?_) (fun h => absurd (by omega) h)) | (refine onSome.intro (load_fs (l := n.stages) (enc := Stg.R) (i := (i : Int)) (v := .int .i64 s.su.hi) rfl (by omega) (by omega) (by rw [hf]; rfl)) ?_) | (first | refine condP.dec (fun h => ?_) (fun h => ?_) | refine condP.eq (fun h => ?_) (fun h => ?_) | refine condP.ne (fun h => ?_) (fun h => ?_)) | (refine .i64 (by omega) (by omega) ?_) | (refine onSome.intro (idx_fs rfl rfl (by omega) (by omega) (fun _ => rfl)) ?_) | (refine onSome.intro (load_fs rfl (by omega) (by omega) rfl) ?_) | (refine And.intro rfl ?_))
      conv => whnf
      refine .snocM (enc := Rg.R) (l := y) (b := 5) ⟨0, s.su.hi⟩ rfl rfl rfl rfl (fun c hc => by simp [Rg.R] at hc; rcases hc with rfl | rfl <;> rfl) (by omega) ?_
      repeat' ((conv => whnf); first | (refine force_om ?_) | (refine forceC_om ?_) | (first | refine condP.dec (fun h => ?_) (fun h => ?_) | refine condP.eq (fun h => ?_) (fun h => ?_) | refine condP.ne (fun h => ?_) (fun h => ?_)) | (refine .i64 (by omega) (by omega) ?_) | (refine onSome.intro (idx_fs rfl rfl (by omega) (by omega) (fun _ => rfl)) ?_) | (refine onSome.intro (load_fs rfl (by omega) (by omega) rfl) ?_) | (refine And.intro rfl ?_))
      conv => whnf
      exact .more (i + 1, y ++ [⟨0, s.su.hi⟩]) [0, 1, 2, 3, 4, 7] rfl ⟨by dsimp only; omega, hnx.symm⟩ (by dsimp only; omega) rfl ⟨.same (.int _ _), .pt rfl, .pt rfl, .pt rfl, .same (.int _ _), trivial⟩
        ⟨.same (noS_row (Net.R_no _)), .same (noS_row (nn_cons .nilslice (nn_cons (.int _ _) (nn_cons (.bool _) nn_none)))), .same (noS_map (l := ([] : List Rg)) Rg.R_no), .row (.cons (.grown rfl (by simp) (by simp)) (.cons (.same (.int _ _)) (.cons (.same (.bool _)) .nil))), .same (noS_row (nn_cons (.int _ _) (nn_cons (.int _ _) nn_none))), .lsM (by simp) Rg.R_no, trivial⟩
    obtain rfl : i = n.stages.length := by omega
    rw [startN_all] at hy
    have hne : y ≠ [] := fun q => by rw [q] at hyl; simp at hyl; omega
    obtain ⟨m, hm⟩ : ∃ m, m = y.length := ⟨_, rfl⟩
    rw [omsl_ne hne, lsS_ne hne, ← hm]
    repeat' ((conv => whnf); first | (refine condP.dec (fun h => absurd h (by omega)) (fun _ => ?_)) | (first | refine condP.dec (fun h => ?_) (fun h => ?_) | refine condP.eq (fun h => ?_) (fun h => ?_) | refine condP.ne (fun h => ?_) (fun h => ?_)) | (refine .i64 (by omega) (by omega) ?_) | (refine onSome.intro (idx_fs rfl rfl (by omega) (by omega) (fun _ => rfl)) ?_) | (refine onSome.intro (load_fs rfl (by omega) (by omega) rfl) ?_) | (refine And.intro rfl ?_))
    refine .done (by simp) ?_
    conv => whnf
    have hYl : (y.length : Int) = n.ins + n.stages.length := by rw [hyl]; omega
    have hend : n.settle l sw = n.rest y sw := by unfold Net.settle; rw [hy]
    rw [hend]
    refine loop_rule (X := Nat × List Rg × Nat × Bool) (fun x => [(2, .int .i64 sw), (3, .ptr 0 0 0), (6, .ptr 1 0 0), (7, .ptr 3 0 0)])
      (fun x => [.live 3 [n.R], .live 3 [[.nilslice, .int .i64 0, .bool false]], .live 2 [], .live 3 [[.mslice 5 0 m m false, .int .i64 x.2.2.1, .bool x.2.2.2]], .live 2 [[.int .i64 0, .int .i64 s0v]], .live 2 (x.2.1.map Rg.R)])
      (fun x => sw - x.1) (fun x => x.1 ≤ sw ∧ x.2 = n.rest y x.1) (0, y, 0, false) ⟨Nat.zero_le _, rfl⟩ ⟨rfl, rfl, rfl, rfl, trivial⟩ rfl (fun _ _ => rfl) (fun x hx => ?_)
    obtain ⟨k, u, c, st⟩ := x
    obtain ⟨hk1, hr⟩ := hx
    dsimp only at hk1 hr ⊢
    have hcnt := n.rest_count y k
    have hit := (hn.rest_iter y k).1
    have hstep : n.rest y (k + 1) = if (n.rest y k).2.2 then n.rest y k else (n.sweep (n.rest y k).1, (n.rest y k).2.1 + 1, n.same (n.rest y k).1 n.stages.length) := by rw [Net.rest]
    have hstl := fun h : (n.rest y k).2.2 = true => Net.rest_still h (sw - k)
    rw [← hr] at hcnt hit hstep hstl
    dsimp only at hcnt hit hstep hstl
    rw [show k + (sw - k) = sw by omega] at hstl
    obtain ⟨hPu, hWu⟩ := rsettle_head hn hl hy hit
    have hul : u.length = m := by rw [hWu.len, hm]
    by_cases hgo : c < sw ∧ st = false
    · obtain ⟨hlt, rfl⟩ := hgo
      have hck := hcnt.2 rfl
      rw [if_neg (by simp)] at hstep
      repeat' ((conv => whnf); first | (refine condP.dec (fun _ => ?_) (fun h => absurd (by omega) h)) | (first | refine condP.dec (fun h => ?_) (fun h => ?_) | refine condP.eq (fun h => ?_) (fun h => ?_) | refine condP.ne (fun h => ?_) (fun h => ?_)) | (refine .i64 (by omega) (by omega) ?_) | (refine onSome.intro (idx_fs rfl rfl (by omega) (by omega) (fun _ => rfl)) ?_) | (refine onSome.intro (load_fs rfl (by omega) (by omega) rfl) ?_) | (refine And.intro rfl ?_))
      refine loop_rule (X := Nat × List Rg × Bool) (fun x => [(2, .int .i64 sw), (3, .ptr 0 0 0), (6, .ptr 1 0 0), (7, .ptr 3 0 0), (9, .int .i64 x.1)])
        (fun x => [.live 3 [n.R], .live 3 [[.nilslice, .int .i64 0, .bool false]], .live 2 [], .live 3 [[.mslice 5 0 m m false, .int .i64 c, .bool x.2.2]], .live 2 [[.int .i64 0, .int .i64 s0v]], .live 2 (x.2.1.map Rg.R)])
        (fun x => n.stages.length - x.1) (fun x => x.1 ≤ n.stages.length ∧ x.2.1 = n.part u x.1 ∧ x.2.2 = n.same u x.1) (0, u, true) ⟨Nat.zero_le _, rfl, rfl⟩ ⟨rfl, rfl, rfl, rfl, rfl, trivial⟩ rfl (fun _ _ => rfl) (fun x hx => ?_)
      obtain ⟨i, z, sm⟩ := x
      obtain ⟨hi, hz, hsm⟩ := hx
      dsimp only at hi hz hsm ⊢
      have hzl : z.length = m := by rw [hz, n.part_len, hul]
      rcases Nat.lt_or_ge i n.stages.length with hlt2 | hge
      · have hPz : n.Post z := by rw [hz]; exact hPu.part hn i (by omega)
        have hWz : WIn z y := by rw [hz]; exact (hn.part_in u i).trans hWu
        have hVz : Vs z := hn.vs hPz (by rw [← hy]; exact hWz) hl
        have hs := hn.st i hlt2
        have kg := r9grid_ok hs hVz (by rw [hzl, hm]; exact hYl)
        have hG := hs.grid hPz.full
        have kp := r9plate_ok (hn.tube hlt2) hs hG
        have hst := hn.part_step u i
        have hsa : n.same u (i + 1) = (n.same u i && decide (nextR (at' (n.part u i) (n.ins + i)) (n.F i (n.part u i)) = at' (n.part u i) (n.ins + i))) := by rw [Net.same]
        rw [← hz, ← hsm] at hsa
        rw [← hz, ← hn.insN] at hst
        rw [show (at' n.stages (i : Int)).plate (at' n.tubes (at' n.stages (i : Int)).tube) ((at' n.stages (i : Int)).grid z) = n.F i z from rfl] at kp
        generalize n.F i z = P at *
        generalize hf : at' n.stages (i : Int) = s at *
        generalize s.grid z = G at *
        generalize ha : at' z (n.ins + (i : Int)) = a at *
        have hs0 := hs.t0
        have hs1 := hs.t1
        obtain ⟨a0, a1⟩ := a
        obtain ⟨p0, p1⟩ := P
        unfold nextR at hst hsa
        dsimp only at hst hsa
        have hbnd : 0 ≤ n.ins + (i : Int) ∧ n.ins + (i : Int) < m := by omega
        rw [show (n.ins.toNat + i) = (n.ins + (i : Int)).toNat by omega] at hst
        cases sm
        · rw [Bool.false_and] at hsa
          repeat' ((conv => whnf); first | (refine condP.dec (fun _ => ?_) (fun h => absurd (by omega) h)) | (refine onSome.intro (load_fs (l := n.stages) (enc := Stg.R) (i := (i : Int)) (v := s.I) rfl (by omega) (by omega) (by rw [hf]; rfl)) ?_) | (refine onSome.intro (idx_fs (l := n.tubes) (enc := Fam.R) (n := s.tube) rfl rfl (by omega) (by omega) (fun _ => rfl)) ?_) | (refine onSome.intro (load_fs (l := n.tubes) (enc := Fam.R) (i := s.tube) (v := (at' n.tubes s.tube).I) rfl (by omega) (by omega) rfl) ?_) | (refine And.intro (load_fs (l := n.tubes) (enc := Fam.R) (i := s.tube) (v := (at' n.tubes s.tube).I) rfl (by omega) (by omega) rfl) ?_) | (refine And.intro (idx_fs (l := n.tubes) (enc := Fam.R) (n := s.tube) rfl rfl (by omega) (by omega) (fun _ => rfl)) ?_) | (refine onSome.intro (idx_ms (n := n.ins + (i : Int)) rfl rfl rfl (by omega) (by omega)) ?_) | (refine onSome.intro (load_ms (l := z) (enc := Rg.R) (i := n.ins + (i : Int)) (v := .agg [.int .i64 a0, .int .i64 a1]) rfl rfl (by omega) (by omega) (by rw [ha]; rfl)) ?_) | (refine CallP.borrow [5] rfl (.cons (.refl _) (.cons (.whole (sz := 2) (es := z.map Rg.R) rfl (fun _ _ h => by cases h) (by rw [List.length_map]; omega) (.refl _)) .nil)) (nn_cons s.I_no (nn_cons (rgsI_no _) nn_none)) kg (.aggL (.cons (.int _ _) (.cons (.int _ _) .nil))) ?_) | (refine CallP.pure kp ?_) | (refine condP.rg (fun h => ?_) (fun h => ?_)) | (first | refine condP.dec (fun h => ?_) (fun h => ?_) | refine condP.eq (fun h => ?_) (fun h => ?_) | refine condP.ne (fun h => ?_) (fun h => ?_)) | (refine .i64 (by omega) (by omega) ?_) | (refine onSome.intro (idx_fs rfl rfl (by omega) (by omega) (fun _ => rfl)) ?_) | (refine onSome.intro (load_fs rfl (by omega) (by omega) rfl) ?_) | (refine And.intro rfl ?_))
          all_goals
            conv => whnf
            refine onSome.intro (get_enc (i := (n.ins + (i : Int)).toNat) (by omega)) ?_
            generalize z[(n.ins + (i : Int)).toNat]'(by omega) = z0
            conv => whnf
            refine store_enc (enc := Rg.R) (a := ⟨max a0 p0, min a1 p1⟩) (l' := z.set (n.ins + (i : Int)).toNat ⟨max a0 p0, min a1 p1⟩) rfl rfl ?_
            (repeat ((conv => whnf); refine And.intro rfl ?_)); conv => whnf
            refine .i64 (by omega) (by omega) ?_
            conv => whnf
            refine .more (i + 1, z.set (n.ins + (i : Int)).toNat ⟨max a0 p0, min a1 p1⟩, false) rfl ⟨by dsimp only; omega, hst.symm, hsa.symm⟩ (by dsimp only; omega) ⟨rfl, rfl, rfl, rfl, rfl, trivial⟩ rfl ⟨.int _ _, .ptr _ _ _ (by simp), .ptr _ _ _ (by simp), .ptr _ _ _ (by simp), .int _ _, trivial⟩ ?_
            exact ⟨row_inn n.R_no, row_inn (nn_cons .nilslice (nn_cons (.int _ _) (nn_cons (.bool _) nn_none))), fun j k hj => by simp at hj, inn_row (in_cons (.mslice _ _ _ _ _ (by simp)) (in_cons (.int _ _) (in_one (.bool _)))), row_inn (nn_cons (.int _ _) (nn_cons (.int _ _) nn_none)), ms_inn Rg.R_no _, trivial⟩
        · rw [Bool.true_and] at hsa
          repeat' ((conv => whnf); first | (refine condP.dec (fun _ => ?_) (fun h => absurd (by omega) h)) | (refine onSome.intro (load_fs (l := n.stages) (enc := Stg.R) (i := (i : Int)) (v := s.I) rfl (by omega) (by omega) (by rw [hf]; rfl)) ?_) | (refine onSome.intro (idx_fs (l := n.tubes) (enc := Fam.R) (n := s.tube) rfl rfl (by omega) (by omega) (fun _ => rfl)) ?_) | (refine onSome.intro (load_fs (l := n.tubes) (enc := Fam.R) (i := s.tube) (v := (at' n.tubes s.tube).I) rfl (by omega) (by omega) rfl) ?_) | (refine And.intro (load_fs (l := n.tubes) (enc := Fam.R) (i := s.tube) (v := (at' n.tubes s.tube).I) rfl (by omega) (by omega) rfl) ?_) | (refine And.intro (idx_fs (l := n.tubes) (enc := Fam.R) (n := s.tube) rfl rfl (by omega) (by omega) (fun _ => rfl)) ?_) | (refine onSome.intro (idx_ms (n := n.ins + (i : Int)) rfl rfl rfl (by omega) (by omega)) ?_) | (refine onSome.intro (load_ms (l := z) (enc := Rg.R) (i := n.ins + (i : Int)) (v := .agg [.int .i64 a0, .int .i64 a1]) rfl rfl (by omega) (by omega) (by rw [ha]; rfl)) ?_) | (refine CallP.borrow [5] rfl (.cons (.refl _) (.cons (.whole (sz := 2) (es := z.map Rg.R) rfl (fun _ _ h => by cases h) (by rw [List.length_map]; omega) (.refl _)) .nil)) (nn_cons s.I_no (nn_cons (rgsI_no _) nn_none)) kg (.aggL (.cons (.int _ _) (.cons (.int _ _) .nil))) ?_) | (refine CallP.pure kp ?_) | (refine condP.rg (fun h => ?_) (fun h => ?_)) | (first | refine condP.dec (fun h => ?_) (fun h => ?_) | refine condP.eq (fun h => ?_) (fun h => ?_) | refine condP.ne (fun h => ?_) (fun h => ?_)) | (refine .i64 (by omega) (by omega) ?_) | (refine onSome.intro (idx_fs rfl rfl (by omega) (by omega) (fun _ => rfl)) ?_) | (refine onSome.intro (load_fs rfl (by omega) (by omega) rfl) ?_) | (refine And.intro rfl ?_))
          · have e : (⟨max a0 p0, min a1 p1⟩ : Rg) = ⟨a0, a1⟩ := by rw [Rg.mk.injEq]; exact h
            rw [decide_eq_true e] at hsa
            conv => whnf
            refine onSome.intro (get_enc (i := (n.ins + (i : Int)).toNat) (by omega)) ?_
            generalize z[(n.ins + (i : Int)).toNat]'(by omega) = z0
            conv => whnf
            refine store_enc (enc := Rg.R) (a := ⟨max a0 p0, min a1 p1⟩) (l' := z.set (n.ins + (i : Int)).toNat ⟨max a0 p0, min a1 p1⟩) rfl rfl ?_
            (repeat ((conv => whnf); refine And.intro rfl ?_)); conv => whnf
            refine .i64 (by omega) (by omega) ?_
            conv => whnf
            refine .more (i + 1, z.set (n.ins + (i : Int)).toNat ⟨max a0 p0, min a1 p1⟩, true) rfl ⟨by dsimp only; omega, hst.symm, hsa.symm⟩ (by dsimp only; omega) ⟨rfl, rfl, rfl, rfl, rfl, trivial⟩ rfl ⟨.int _ _, .ptr _ _ _ (by simp), .ptr _ _ _ (by simp), .ptr _ _ _ (by simp), .int _ _, trivial⟩ ?_
            exact ⟨row_inn n.R_no, row_inn (nn_cons .nilslice (nn_cons (.int _ _) (nn_cons (.bool _) nn_none))), fun j k hj => by simp at hj, inn_row (in_cons (.mslice _ _ _ _ _ (by simp)) (in_cons (.int _ _) (in_one (.bool _)))), row_inn (nn_cons (.int _ _) (nn_cons (.int _ _) nn_none)), ms_inn Rg.R_no _, trivial⟩
          · have e : ¬ (⟨max a0 p0, min a1 p1⟩ : Rg) = ⟨a0, a1⟩ := by rw [Rg.mk.injEq]; exact h
            rw [decide_eq_false e] at hsa
            conv => whnf
            refine onSome.intro (get_enc (i := (n.ins + (i : Int)).toNat) (by omega)) ?_
            generalize z[(n.ins + (i : Int)).toNat]'(by omega) = z0
            conv => whnf
            refine store_enc (enc := Rg.R) (a := ⟨max a0 p0, min a1 p1⟩) (l' := z.set (n.ins + (i : Int)).toNat ⟨max a0 p0, min a1 p1⟩) rfl rfl ?_
            (repeat ((conv => whnf); refine And.intro rfl ?_)); conv => whnf
            refine .i64 (by omega) (by omega) ?_
            conv => whnf
            refine .more (i + 1, z.set (n.ins + (i : Int)).toNat ⟨max a0 p0, min a1 p1⟩, false) rfl ⟨by dsimp only; omega, hst.symm, hsa.symm⟩ (by dsimp only; omega) ⟨rfl, rfl, rfl, rfl, rfl, trivial⟩ rfl ⟨.int _ _, .ptr _ _ _ (by simp), .ptr _ _ _ (by simp), .ptr _ _ _ (by simp), .int _ _, trivial⟩ ?_
            exact ⟨row_inn n.R_no, row_inn (nn_cons .nilslice (nn_cons (.int _ _) (nn_cons (.bool _) nn_none))), fun j k hj => by simp at hj, inn_row (in_cons (.mslice _ _ _ _ _ (by simp)) (in_cons (.int _ _) (in_one (.bool _)))), row_inn (nn_cons (.int _ _) (nn_cons (.int _ _) nn_none)), ms_inn Rg.R_no _, trivial⟩
      · obtain rfl : i = n.stages.length := by omega
        repeat' ((conv => whnf); first | (refine condP.dec (fun h => absurd h (by omega)) (fun _ => ?_)) | (first | refine condP.dec (fun h => ?_) (fun h => ?_) | refine condP.eq (fun h => ?_) (fun h => ?_) | refine condP.ne (fun h => ?_) (fun h => ?_)) | (refine .i64 (by omega) (by omega) ?_) | (refine onSome.intro (idx_fs rfl rfl (by omega) (by omega) (fun _ => rfl)) ?_) | (refine onSome.intro (load_fs rfl (by omega) (by omega) rfl) ?_) | (refine And.intro rfl ?_))
        refine .done (by simp) ?_
        repeat' ((conv => whnf); first | (refine .i64 (by omega) (by omega) ?_) | (first | refine condP.dec (fun h => ?_) (fun h => ?_) | refine condP.eq (fun h => ?_) (fun h => ?_) | refine condP.ne (fun h => ?_) (fun h => ?_)) | (refine .i64 (by omega) (by omega) ?_) | (refine onSome.intro (idx_fs rfl rfl (by omega) (by omega) (fun _ => rfl)) ?_) | (refine onSome.intro (load_fs rfl (by omega) (by omega) rfl) ?_) | (refine And.intro rfl ?_))
        conv => whnf
        have e : (z, c + 1, sm) = n.rest y (k + 1) := by rw [hstep, hz, hsm]; rfl
        refine .more (k + 1, z, c + 1, sm) rfl ⟨by dsimp only; omega, e⟩ (by dsimp only; omega) ⟨rfl, rfl, rfl, rfl, trivial⟩ rfl ⟨.int _ _, .ptr _ _ _ (by simp), .ptr _ _ _ (by simp), .ptr _ _ _ (by simp), trivial⟩ ?_
        exact ⟨row_inn n.R_no, row_inn (nn_cons .nilslice (nn_cons (.int _ _) (nn_cons (.bool _) nn_none))), fun j k hj => by simp at hj, inn_row (in_cons (.mslice _ _ _ _ _ (by simp)) (in_cons (.int _ _) (in_one (.bool _)))), row_inn (nn_cons (.int _ _) (nn_cons (.int _ _) nn_none)), ms_inn Rg.R_no _, trivial⟩
    · have hfin : (u, c, st) = n.rest y sw := by
        cases st with
        | true => exact (hstl rfl).symm
        | false =>
          have := hcnt.2 rfl
          obtain rfl : k = sw := by
            rcases Nat.lt_or_ge c sw with q | q
            · exact absurd ⟨q, rfl⟩ hgo
            · omega
          exact hr
      rw [← hfin]
      have hc : st = false → ¬ c < sw := fun h q => hgo ⟨q, h⟩
      cases st
      all_goals
        repeat' ((conv => whnf); first | (refine condP.dec (fun h => ?_) (fun h => ?_)) | (first | refine condP.dec (fun h => ?_) (fun h => ?_) | refine condP.eq (fun h => ?_) (fun h => ?_) | refine condP.ne (fun h => ?_) (fun h => ?_)) | (refine .i64 (by omega) (by omega) ?_) | (refine onSome.intro (idx_fs rfl rfl (by omega) (by omega) (fun _ => rfl)) ?_) | (refine onSome.intro (load_fs rfl (by omega) (by omega) rfl) ?_) | (refine And.intro rfl ?_))
      all_goals first | (exfalso; have := hc rfl; omega) | skip
      all_goals refine .done (by simp) ?_
      all_goals conv => whnf
      all_goals exact .intro (.agg [.mslice 5 0 m m false, .int .i64 c, .bool _]) (.inl rfl) rfl (.aggL (.cons (.whole (sz := 2) (es := u.map Rg.R) rfl (fun _ _ h => by cases h) (by rw [List.length_map]; omega) (.refl _)) (.cons (.refl _) (.cons (.refl _) .nil))))
  · have hlr : l.map Rg.R ≠ [] := fun q => hl0 (List.map_eq_nil_iff.mp q)
    conv => whnf
    refine .full (es := []) (n := 0) (es' := l.map Rg.R) rfl rfl rfl (hE _) hlr (fun e he => by obtain ⟨z, _, rfl⟩ := List.mem_map.mp he; rfl) (fun e he c hc => by obtain ⟨z, _, rfl⟩ := List.mem_map.mp he; simp [Rg.R] at hc; rcases hc with rfl | rfl <;> rfl) (r := l.map Rg.R) rfl (n' := l.length) (by simp) (by omega) ?_
    conv => whnf
    refine loop_grow (X := Nat × List Rg) (fun x => [(2, .int .i64 sw), (3, .ptr 0 0 0), (6, .ptr 1 0 0), (7, .ptr 4 0 0), (8, .int .i64 x.1)])
      (fun x => [.live 3 [n.R], .live 3 [[.nilslice, .int .i64 0, .bool false]], .live 2 [], lsS 2 Rg.R x.2, .live 3 [[omsl 3 x.2, .int .i64 0, .bool false]]])
      (fun x => n.stages.length - x.1) (fun x => x.1 ≤ n.stages.length ∧ x.2 = startN n l x.1) (0, l) ⟨Nat.zero_le _, by unfold startN; simp⟩ ⟨rfl, rfl, rfl, rfl, rfl, trivial⟩ (by dsimp only; (rw [lsS_ne hl0, omsl_ne hl0]) <;> rfl) (fun x hx => ?_)
    obtain ⟨i, y⟩ := x
    obtain ⟨hi, hy⟩ := hx
    dsimp only at hi hy ⊢
    have hyl : y.length = l.length + i := by rw [hy, startN_len hi]
    rcases Nat.lt_or_ge i n.stages.length with hlt | hge
    · have hnx := startN_succ (l := l) hlt
      rw [← hy] at hnx
      generalize hf : at' n.stages (i : Int) = s at *
      repeat' ((conv => whnf); first | (refine force_om ?_) | (refine forceC_om ?_) | (refine condP.dec (fun _ => ?_) (fun h => absurd (by omega) h)) | (refine onSome.intro (load_fs (l := n.stages) (enc := Stg.R) (i := (i : Int)) (v := .int .i64 s.su.hi) rfl (by omega) (by omega) (by rw [hf]; rfl)) ?_) | (first | refine condP.dec (fun h => ?_) (fun h => ?_) | refine condP.eq (fun h => ?_) (fun h => ?_) | refine condP.ne (fun h => ?_) (fun h => ?_)) | (refine .i64 (by omega) (by omega) ?_) | (refine onSome.intro (idx_fs rfl rfl (by omega) (by omega) (fun _ => rfl)) ?_) | (refine onSome.intro (load_fs rfl (by omega) (by omega) rfl) ?_) | (refine And.intro rfl ?_))
      conv => whnf
      refine .snocM (enc := Rg.R) (l := y) (b := 3) ⟨0, s.su.hi⟩ rfl rfl rfl rfl (fun c hc => by simp [Rg.R] at hc; rcases hc with rfl | rfl <;> rfl) (by omega) ?_
      repeat' ((conv => whnf); first | (refine force_om ?_) | (refine forceC_om ?_) | (first | refine condP.dec (fun h => ?_) (fun h => ?_) | refine condP.eq (fun h => ?_) (fun h => ?_) | refine condP.ne (fun h => ?_) (fun h => ?_)) | (refine .i64 (by omega) (by omega) ?_) | (refine onSome.intro (idx_fs rfl rfl (by omega) (by omega) (fun _ => rfl)) ?_) | (refine onSome.intro (load_fs rfl (by omega) (by omega) rfl) ?_) | (refine And.intro rfl ?_))
      conv => whnf
      exact .more (i + 1, y ++ [⟨0, s.su.hi⟩]) [0, 1, 2, 6, 4] rfl ⟨by dsimp only; omega, hnx.symm⟩ (by dsimp only; omega) rfl ⟨.same (.int _ _), .pt rfl, .pt rfl, .pt rfl, .same (.int _ _), trivial⟩
        ⟨.same (noS_row (Net.R_no _)), .same (noS_row (nn_cons .nilslice (nn_cons (.int _ _) (nn_cons (.bool _) nn_none)))), .same (noS_map (l := ([] : List Rg)) Rg.R_no), .lsM (by simp) Rg.R_no, .row (.cons (.grown rfl (by simp) (by simp)) (.cons (.same (.int _ _)) (.cons (.same (.bool _)) .nil))), trivial⟩
    obtain rfl : i = n.stages.length := by omega
    rw [startN_all] at hy
    have hne : y ≠ [] := fun q => by rw [q] at hyl; simp at hyl; omega
    obtain ⟨m, hm⟩ : ∃ m, m = y.length := ⟨_, rfl⟩
    rw [omsl_ne hne, lsS_ne hne, ← hm]
    repeat' ((conv => whnf); first | (refine condP.dec (fun h => absurd h (by omega)) (fun _ => ?_)) | (first | refine condP.dec (fun h => ?_) (fun h => ?_) | refine condP.eq (fun h => ?_) (fun h => ?_) | refine condP.ne (fun h => ?_) (fun h => ?_)) | (refine .i64 (by omega) (by omega) ?_) | (refine onSome.intro (idx_fs rfl rfl (by omega) (by omega) (fun _ => rfl)) ?_) | (refine onSome.intro (load_fs rfl (by omega) (by omega) rfl) ?_) | (refine And.intro rfl ?_))
    refine .done (by simp) ?_
    conv => whnf
    have hYl : (y.length : Int) = n.ins + n.stages.length := by rw [hyl]; omega
    have hend : n.settle l sw = n.rest y sw := by unfold Net.settle; rw [hy]
    rw [hend]
    refine loop_rule (X := Nat × List Rg × Nat × Bool) (fun x => [(2, .int .i64 sw), (3, .ptr 0 0 0), (6, .ptr 1 0 0), (7, .ptr 4 0 0)])
      (fun x => [.live 3 [n.R], .live 3 [[.nilslice, .int .i64 0, .bool false]], .live 2 [], .live 2 (x.2.1.map Rg.R), .live 3 [[.mslice 3 0 m m false, .int .i64 x.2.2.1, .bool x.2.2.2]]])
      (fun x => sw - x.1) (fun x => x.1 ≤ sw ∧ x.2 = n.rest y x.1) (0, y, 0, false) ⟨Nat.zero_le _, rfl⟩ ⟨rfl, rfl, rfl, rfl, trivial⟩ rfl (fun _ _ => rfl) (fun x hx => ?_)
    obtain ⟨k, u, c, st⟩ := x
    obtain ⟨hk1, hr⟩ := hx
    dsimp only at hk1 hr ⊢
    have hcnt := n.rest_count y k
    have hit := (hn.rest_iter y k).1
    have hstep : n.rest y (k + 1) = if (n.rest y k).2.2 then n.rest y k else (n.sweep (n.rest y k).1, (n.rest y k).2.1 + 1, n.same (n.rest y k).1 n.stages.length) := by rw [Net.rest]
    have hstl := fun h : (n.rest y k).2.2 = true => Net.rest_still h (sw - k)
    rw [← hr] at hcnt hit hstep hstl
    dsimp only at hcnt hit hstep hstl
    rw [show k + (sw - k) = sw by omega] at hstl
    obtain ⟨hPu, hWu⟩ := rsettle_head hn hl hy hit
    have hul : u.length = m := by rw [hWu.len, hm]
    by_cases hgo : c < sw ∧ st = false
    · obtain ⟨hlt, rfl⟩ := hgo
      have hck := hcnt.2 rfl
      rw [if_neg (by simp)] at hstep
      repeat' ((conv => whnf); first | (refine condP.dec (fun _ => ?_) (fun h => absurd (by omega) h)) | (first | refine condP.dec (fun h => ?_) (fun h => ?_) | refine condP.eq (fun h => ?_) (fun h => ?_) | refine condP.ne (fun h => ?_) (fun h => ?_)) | (refine .i64 (by omega) (by omega) ?_) | (refine onSome.intro (idx_fs rfl rfl (by omega) (by omega) (fun _ => rfl)) ?_) | (refine onSome.intro (load_fs rfl (by omega) (by omega) rfl) ?_) | (refine And.intro rfl ?_))
      refine loop_rule (X := Nat × List Rg × Bool) (fun x => [(2, .int .i64 sw), (3, .ptr 0 0 0), (6, .ptr 1 0 0), (7, .ptr 4 0 0), (9, .int .i64 x.1)])
        (fun x => [.live 3 [n.R], .live 3 [[.nilslice, .int .i64 0, .bool false]], .live 2 [], .live 2 (x.2.1.map Rg.R), .live 3 [[.mslice 3 0 m m false, .int .i64 c, .bool x.2.2]]])
        (fun x => n.stages.length - x.1) (fun x => x.1 ≤ n.stages.length ∧ x.2.1 = n.part u x.1 ∧ x.2.2 = n.same u x.1) (0, u, true) ⟨Nat.zero_le _, rfl, rfl⟩ ⟨rfl, rfl, rfl, rfl, rfl, trivial⟩ rfl (fun _ _ => rfl) (fun x hx => ?_)
      obtain ⟨i, z, sm⟩ := x
      obtain ⟨hi, hz, hsm⟩ := hx
      dsimp only at hi hz hsm ⊢
      have hzl : z.length = m := by rw [hz, n.part_len, hul]
      rcases Nat.lt_or_ge i n.stages.length with hlt2 | hge
      · have hPz : n.Post z := by rw [hz]; exact hPu.part hn i (by omega)
        have hWz : WIn z y := by rw [hz]; exact (hn.part_in u i).trans hWu
        have hVz : Vs z := hn.vs hPz (by rw [← hy]; exact hWz) hl
        have hs := hn.st i hlt2
        have kg := r9grid_ok hs hVz (by rw [hzl, hm]; exact hYl)
        have hG := hs.grid hPz.full
        have kp := r9plate_ok (hn.tube hlt2) hs hG
        have hst := hn.part_step u i
        have hsa : n.same u (i + 1) = (n.same u i && decide (nextR (at' (n.part u i) (n.ins + i)) (n.F i (n.part u i)) = at' (n.part u i) (n.ins + i))) := by rw [Net.same]
        rw [← hz, ← hsm] at hsa
        rw [← hz, ← hn.insN] at hst
        rw [show (at' n.stages (i : Int)).plate (at' n.tubes (at' n.stages (i : Int)).tube) ((at' n.stages (i : Int)).grid z) = n.F i z from rfl] at kp
        generalize n.F i z = P at *
        generalize hf : at' n.stages (i : Int) = s at *
        generalize s.grid z = G at *
        generalize ha : at' z (n.ins + (i : Int)) = a at *
        have hs0 := hs.t0
        have hs1 := hs.t1
        obtain ⟨a0, a1⟩ := a
        obtain ⟨p0, p1⟩ := P
        unfold nextR at hst hsa
        dsimp only at hst hsa
        have hbnd : 0 ≤ n.ins + (i : Int) ∧ n.ins + (i : Int) < m := by omega
        rw [show (n.ins.toNat + i) = (n.ins + (i : Int)).toNat by omega] at hst
        cases sm
        · rw [Bool.false_and] at hsa
          repeat' ((conv => whnf); first | (refine condP.dec (fun _ => ?_) (fun h => absurd (by omega) h)) | (refine onSome.intro (load_fs (l := n.stages) (enc := Stg.R) (i := (i : Int)) (v := s.I) rfl (by omega) (by omega) (by rw [hf]; rfl)) ?_) | (refine onSome.intro (idx_fs (l := n.tubes) (enc := Fam.R) (n := s.tube) rfl rfl (by omega) (by omega) (fun _ => rfl)) ?_) | (refine onSome.intro (load_fs (l := n.tubes) (enc := Fam.R) (i := s.tube) (v := (at' n.tubes s.tube).I) rfl (by omega) (by omega) rfl) ?_) | (refine And.intro (load_fs (l := n.tubes) (enc := Fam.R) (i := s.tube) (v := (at' n.tubes s.tube).I) rfl (by omega) (by omega) rfl) ?_) | (refine And.intro (idx_fs (l := n.tubes) (enc := Fam.R) (n := s.tube) rfl rfl (by omega) (by omega) (fun _ => rfl)) ?_) | (refine onSome.intro (idx_ms (n := n.ins + (i : Int)) rfl rfl rfl (by omega) (by omega)) ?_) | (refine onSome.intro (load_ms (l := z) (enc := Rg.R) (i := n.ins + (i : Int)) (v := .agg [.int .i64 a0, .int .i64 a1]) rfl rfl (by omega) (by omega) (by rw [ha]; rfl)) ?_) | (refine CallP.borrow [3] rfl (.cons (.refl _) (.cons (.whole (sz := 2) (es := z.map Rg.R) rfl (fun _ _ h => by cases h) (by rw [List.length_map]; omega) (.refl _)) .nil)) (nn_cons s.I_no (nn_cons (rgsI_no _) nn_none)) kg (.aggL (.cons (.int _ _) (.cons (.int _ _) .nil))) ?_) | (refine CallP.pure kp ?_) | (refine condP.rg (fun h => ?_) (fun h => ?_)) | (first | refine condP.dec (fun h => ?_) (fun h => ?_) | refine condP.eq (fun h => ?_) (fun h => ?_) | refine condP.ne (fun h => ?_) (fun h => ?_)) | (refine .i64 (by omega) (by omega) ?_) | (refine onSome.intro (idx_fs rfl rfl (by omega) (by omega) (fun _ => rfl)) ?_) | (refine onSome.intro (load_fs rfl (by omega) (by omega) rfl) ?_) | (refine And.intro rfl ?_))
          all_goals
            conv => whnf
            refine onSome.intro (get_enc (i := (n.ins + (i : Int)).toNat) (by omega)) ?_
            generalize z[(n.ins + (i : Int)).toNat]'(by omega) = z0
            conv => whnf
            refine store_enc (enc := Rg.R) (a := ⟨max a0 p0, min a1 p1⟩) (l' := z.set (n.ins + (i : Int)).toNat ⟨max a0 p0, min a1 p1⟩) rfl rfl ?_
            (repeat ((conv => whnf); refine And.intro rfl ?_)); conv => whnf
            refine .i64 (by omega) (by omega) ?_
            conv => whnf
            refine .more (i + 1, z.set (n.ins + (i : Int)).toNat ⟨max a0 p0, min a1 p1⟩, false) rfl ⟨by dsimp only; omega, hst.symm, hsa.symm⟩ (by dsimp only; omega) ⟨rfl, rfl, rfl, rfl, rfl, trivial⟩ rfl ⟨.int _ _, .ptr _ _ _ (by simp), .ptr _ _ _ (by simp), .ptr _ _ _ (by simp), .int _ _, trivial⟩ ?_
            exact ⟨row_inn n.R_no, row_inn (nn_cons .nilslice (nn_cons (.int _ _) (nn_cons (.bool _) nn_none))), fun j k hj => by simp at hj, ms_inn Rg.R_no _, inn_row (in_cons (.mslice _ _ _ _ _ (by simp)) (in_cons (.int _ _) (in_one (.bool _)))), trivial⟩
        · rw [Bool.true_and] at hsa
          repeat' ((conv => whnf); first | (refine condP.dec (fun _ => ?_) (fun h => absurd (by omega) h)) | (refine onSome.intro (load_fs (l := n.stages) (enc := Stg.R) (i := (i : Int)) (v := s.I) rfl (by omega) (by omega) (by rw [hf]; rfl)) ?_) | (refine onSome.intro (idx_fs (l := n.tubes) (enc := Fam.R) (n := s.tube) rfl rfl (by omega) (by omega) (fun _ => rfl)) ?_) | (refine onSome.intro (load_fs (l := n.tubes) (enc := Fam.R) (i := s.tube) (v := (at' n.tubes s.tube).I) rfl (by omega) (by omega) rfl) ?_) | (refine And.intro (load_fs (l := n.tubes) (enc := Fam.R) (i := s.tube) (v := (at' n.tubes s.tube).I) rfl (by omega) (by omega) rfl) ?_) | (refine And.intro (idx_fs (l := n.tubes) (enc := Fam.R) (n := s.tube) rfl rfl (by omega) (by omega) (fun _ => rfl)) ?_) | (refine onSome.intro (idx_ms (n := n.ins + (i : Int)) rfl rfl rfl (by omega) (by omega)) ?_) | (refine onSome.intro (load_ms (l := z) (enc := Rg.R) (i := n.ins + (i : Int)) (v := .agg [.int .i64 a0, .int .i64 a1]) rfl rfl (by omega) (by omega) (by rw [ha]; rfl)) ?_) | (refine CallP.borrow [3] rfl (.cons (.refl _) (.cons (.whole (sz := 2) (es := z.map Rg.R) rfl (fun _ _ h => by cases h) (by rw [List.length_map]; omega) (.refl _)) .nil)) (nn_cons s.I_no (nn_cons (rgsI_no _) nn_none)) kg (.aggL (.cons (.int _ _) (.cons (.int _ _) .nil))) ?_) | (refine CallP.pure kp ?_) | (refine condP.rg (fun h => ?_) (fun h => ?_)) | (first | refine condP.dec (fun h => ?_) (fun h => ?_) | refine condP.eq (fun h => ?_) (fun h => ?_) | refine condP.ne (fun h => ?_) (fun h => ?_)) | (refine .i64 (by omega) (by omega) ?_) | (refine onSome.intro (idx_fs rfl rfl (by omega) (by omega) (fun _ => rfl)) ?_) | (refine onSome.intro (load_fs rfl (by omega) (by omega) rfl) ?_) | (refine And.intro rfl ?_))
          · have e : (⟨max a0 p0, min a1 p1⟩ : Rg) = ⟨a0, a1⟩ := by rw [Rg.mk.injEq]; exact h
            rw [decide_eq_true e] at hsa
            conv => whnf
            refine onSome.intro (get_enc (i := (n.ins + (i : Int)).toNat) (by omega)) ?_
            generalize z[(n.ins + (i : Int)).toNat]'(by omega) = z0
            conv => whnf
            refine store_enc (enc := Rg.R) (a := ⟨max a0 p0, min a1 p1⟩) (l' := z.set (n.ins + (i : Int)).toNat ⟨max a0 p0, min a1 p1⟩) rfl rfl ?_
            (repeat ((conv => whnf); refine And.intro rfl ?_)); conv => whnf
            refine .i64 (by omega) (by omega) ?_
            conv => whnf
            refine .more (i + 1, z.set (n.ins + (i : Int)).toNat ⟨max a0 p0, min a1 p1⟩, true) rfl ⟨by dsimp only; omega, hst.symm, hsa.symm⟩ (by dsimp only; omega) ⟨rfl, rfl, rfl, rfl, rfl, trivial⟩ rfl ⟨.int _ _, .ptr _ _ _ (by simp), .ptr _ _ _ (by simp), .ptr _ _ _ (by simp), .int _ _, trivial⟩ ?_
            exact ⟨row_inn n.R_no, row_inn (nn_cons .nilslice (nn_cons (.int _ _) (nn_cons (.bool _) nn_none))), fun j k hj => by simp at hj, ms_inn Rg.R_no _, inn_row (in_cons (.mslice _ _ _ _ _ (by simp)) (in_cons (.int _ _) (in_one (.bool _)))), trivial⟩
          · have e : ¬ (⟨max a0 p0, min a1 p1⟩ : Rg) = ⟨a0, a1⟩ := by rw [Rg.mk.injEq]; exact h
            rw [decide_eq_false e] at hsa
            conv => whnf
            refine onSome.intro (get_enc (i := (n.ins + (i : Int)).toNat) (by omega)) ?_
            generalize z[(n.ins + (i : Int)).toNat]'(by omega) = z0
            conv => whnf
            refine store_enc (enc := Rg.R) (a := ⟨max a0 p0, min a1 p1⟩) (l' := z.set (n.ins + (i : Int)).toNat ⟨max a0 p0, min a1 p1⟩) rfl rfl ?_
            (repeat ((conv => whnf); refine And.intro rfl ?_)); conv => whnf
            refine .i64 (by omega) (by omega) ?_
            conv => whnf
            refine .more (i + 1, z.set (n.ins + (i : Int)).toNat ⟨max a0 p0, min a1 p1⟩, false) rfl ⟨by dsimp only; omega, hst.symm, hsa.symm⟩ (by dsimp only; omega) ⟨rfl, rfl, rfl, rfl, rfl, trivial⟩ rfl ⟨.int _ _, .ptr _ _ _ (by simp), .ptr _ _ _ (by simp), .ptr _ _ _ (by simp), .int _ _, trivial⟩ ?_
            exact ⟨row_inn n.R_no, row_inn (nn_cons .nilslice (nn_cons (.int _ _) (nn_cons (.bool _) nn_none))), fun j k hj => by simp at hj, ms_inn Rg.R_no _, inn_row (in_cons (.mslice _ _ _ _ _ (by simp)) (in_cons (.int _ _) (in_one (.bool _)))), trivial⟩
      · obtain rfl : i = n.stages.length := by omega
        repeat' ((conv => whnf); first | (refine condP.dec (fun h => absurd h (by omega)) (fun _ => ?_)) | (first | refine condP.dec (fun h => ?_) (fun h => ?_) | refine condP.eq (fun h => ?_) (fun h => ?_) | refine condP.ne (fun h => ?_) (fun h => ?_)) | (refine .i64 (by omega) (by omega) ?_) | (refine onSome.intro (idx_fs rfl rfl (by omega) (by omega) (fun _ => rfl)) ?_) | (refine onSome.intro (load_fs rfl (by omega) (by omega) rfl) ?_) | (refine And.intro rfl ?_))
        refine .done (by simp) ?_
        repeat' ((conv => whnf); first | (refine .i64 (by omega) (by omega) ?_) | (first | refine condP.dec (fun h => ?_) (fun h => ?_) | refine condP.eq (fun h => ?_) (fun h => ?_) | refine condP.ne (fun h => ?_) (fun h => ?_)) | (refine .i64 (by omega) (by omega) ?_) | (refine onSome.intro (idx_fs rfl rfl (by omega) (by omega) (fun _ => rfl)) ?_) | (refine onSome.intro (load_fs rfl (by omega) (by omega) rfl) ?_) | (refine And.intro rfl ?_))
        conv => whnf
        have e : (z, c + 1, sm) = n.rest y (k + 1) := by rw [hstep, hz, hsm]; rfl
        refine .more (k + 1, z, c + 1, sm) rfl ⟨by dsimp only; omega, e⟩ (by dsimp only; omega) ⟨rfl, rfl, rfl, rfl, trivial⟩ rfl ⟨.int _ _, .ptr _ _ _ (by simp), .ptr _ _ _ (by simp), .ptr _ _ _ (by simp), trivial⟩ ?_
        exact ⟨row_inn n.R_no, row_inn (nn_cons .nilslice (nn_cons (.int _ _) (nn_cons (.bool _) nn_none))), fun j k hj => by simp at hj, ms_inn Rg.R_no _, inn_row (in_cons (.mslice _ _ _ _ _ (by simp)) (in_cons (.int _ _) (in_one (.bool _)))), trivial⟩
    · have hfin : (u, c, st) = n.rest y sw := by
        cases st with
        | true => exact (hstl rfl).symm
        | false =>
          have := hcnt.2 rfl
          obtain rfl : k = sw := by
            rcases Nat.lt_or_ge c sw with q | q
            · exact absurd ⟨q, rfl⟩ hgo
            · omega
          exact hr
      rw [← hfin]
      have hc : st = false → ¬ c < sw := fun h q => hgo ⟨q, h⟩
      cases st
      all_goals
        repeat' ((conv => whnf); first | (refine condP.dec (fun h => ?_) (fun h => ?_)) | (first | refine condP.dec (fun h => ?_) (fun h => ?_) | refine condP.eq (fun h => ?_) (fun h => ?_) | refine condP.ne (fun h => ?_) (fun h => ?_)) | (refine .i64 (by omega) (by omega) ?_) | (refine onSome.intro (idx_fs rfl rfl (by omega) (by omega) (fun _ => rfl)) ?_) | (refine onSome.intro (load_fs rfl (by omega) (by omega) rfl) ?_) | (refine And.intro rfl ?_))
      all_goals first | (exfalso; have := hc rfl; omega) | skip
      all_goals refine .done (by simp) ?_
      all_goals conv => whnf
      all_goals exact .intro (.agg [.mslice 3 0 m m false, .int .i64 c, .bool _]) (.inl rfl) rfl (.aggL (.cons (.whole (sz := 2) (es := u.map Rg.R) rfl (fun _ _ h => by cases h) (by rw [List.length_map]; omega) (.refl _)) (.cons (.refl _) (.cons (.refl _) .nil))))

end Go.Proofs.YtlfaglkkeahamaaGreat.I
