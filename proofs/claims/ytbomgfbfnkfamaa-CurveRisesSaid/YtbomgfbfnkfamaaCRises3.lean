/- What the functions of the claim compute, and that it is as the claim says: part 4 of 5. -/
import Derived.Test.YtbomgfbfnkfamaaCRises2
import Derived.Test.YtbomgfbfnkfamaaWWords
import Derived.Test.YtbomgfbfnkfamaaWMore
import Derived.OpenShut
section
namespace Go.Proofs.Ytbomgfbfnkfamaa.PAll
open Go.RowKit Go.Proofs.YtbomgfbfnkfamaaW.PrintWords Go.Proofs.YtbomgfbfnkfamaaW.PrintLast Go.Proofs.YtbomgfbfnkfamaaW.PrintMore
attribute [local go_sem] max2_int min2_int max_two min_two max_three min_three max_four min_four   -- for this text's walks alone
set_option linter.unusedVariables false
set_option linter.unusedSimpArgs false

attribute [local go_sem high] eqA35
/-! ### thermionlaw02_awake: function 17 -/
def thermionlaw02_awake.f (k : Nat)  : Option (Bool) := (thermionlaw02_law.f).bind fun bt101 => ((curve_Current.f k bt101.1 bt101.2.1 bt101.2.2.1 bt101.2.2.2.1 bt101.2.2.2.2.1 bt101.2.2.2.2.2.1 bt101.2.2.2.2.2.2.1 bt101.2.2.2.2.2.2.2.1 bt101.2.2.2.2.2.2.2.2.1 bt101.2.2.2.2.2.2.2.2.2 4000 0).bind fun bt111 => ((thermionlaw02_family.f).bind fun bt115 => ((curve_At.f k bt115.1 bt115.2.1 bt115.2.2.1 bt115.2.2.2 (-1000) 50000).bind fun bt127 => (if bt111.2.2 = 0 then (if bt127.2.2 = 0 then (if (bt111.1 == 15178 && (bt111.2.1 == 15179)) = true then (if (bt127.1 == 22 && (bt127.2.1 == 29)) = true then ((thermionlaw02_family.f).bind fun bt131 => ((curve_Check.f bt131.1 bt131.2.1 bt131.2.2.1 bt131.2.2.2).bind fun t143 => (some (t143 == 0)))) else (none)) else (none)) else (none)) else (none)))))
theorem thermionlaw02_awake.mono : ∀ k, LeO (thermionlaw02_awake.f k ) (thermionlaw02_awake.f (k + 1) ) := by
  intro  k
  unfold thermionlaw02_awake.f
  repeat' first
      | (with_reducible exact curve_At.mono _ _ _ _ _ _ _)
      | (with_reducible exact curve_Current.mono _ _ _ _ _ _ _ _ _ _ _ _ _)
      | (with_reducible exact LeO.refl _)
      | (with_reducible exact LeO.none _)
      | (with_reducible refine LeO.ite ?_ ?_)
      | (with_reducible refine LeO.bind ?_ (fun _ => ?_))
      | exact curve_At.mono _ _ _ _ _ _ _
      | exact curve_Current.mono _ _ _ _ _ _ _ _ _ _ _ _ _
      | exact LeO.none _
      | refine LeO.ite ?_ ?_
      | refine LeO.bind ?_ (fun _ => ?_)
set_option maxHeartbeats 8000000 in
set_option maxRecDepth 100000 in
theorem thermionlaw02_awake.calls (k : Nat)  (r : Bool) (w : World) (h : thermionlaw02_awake.f k  = some r) :
    Calls Try.prog 17 #[] w fun e w' => e = .returned (.bool r) ∧ Below w.heap.size w w' := by
  have hu35 := Try.underlying35
  have HB := Aside0.mk (Below.refl w.heap.size w)
  have H : ((thermionlaw02_law.f).bind fun bt101 => ((curve_Current.f k bt101.1 bt101.2.1 bt101.2.2.1 bt101.2.2.2.1 bt101.2.2.2.2.1 bt101.2.2.2.2.2.1 bt101.2.2.2.2.2.2.1 bt101.2.2.2.2.2.2.2.1 bt101.2.2.2.2.2.2.2.2.1 bt101.2.2.2.2.2.2.2.2.2 4000 0).bind fun bt111 => ((thermionlaw02_family.f).bind fun bt115 => ((curve_At.f k bt115.1 bt115.2.1 bt115.2.2.1 bt115.2.2.2 (-1000) 50000).bind fun bt127 => (if bt111.2.2 = 0 then (if bt127.2.2 = 0 then (if (bt111.1 == 15178 && (bt111.2.1 == 15179)) = true then (if (bt127.1 == 22 && (bt127.2.1 == 29)) = true then ((thermionlaw02_family.f).bind fun bt131 => ((curve_Check.f bt131.1 bt131.2.1 bt131.2.2.1 bt131.2.2.2).bind fun t143 => (some (t143 == 0)))) else (none)) else (none)) else (none)) else (none)))))) = some r := h
  clear h
  replace H := Option.bind_eq_some_iff.mp H
  obtain ⟨⟨t101, t102, t103, t104, t105, t106, t107, t108, t109, t110⟩, A10, H⟩ := H
  replace H : ((curve_Current.f k t101 t102 t103 t104 t105 t106 t107 t108 t109 t110 4000 0).bind fun bt111 => ((thermionlaw02_family.f).bind fun bt115 => ((curve_At.f k bt115.1 bt115.2.1 bt115.2.2.1 bt115.2.2.2 (-1000) 50000).bind fun bt127 => (if bt111.2.2 = 0 then (if bt127.2.2 = 0 then (if (bt111.1 == 15178 && (bt111.2.1 == 15179)) = true then (if (bt127.1 == 22 && (bt127.2.1 == 29)) = true then ((thermionlaw02_family.f).bind fun bt131 => ((curve_Check.f bt131.1 bt131.2.1 bt131.2.2.1 bt131.2.2.2).bind fun t143 => (some (t143 == 0)))) else (none)) else (none)) else (none)) else (none))))) = some r := H
  have A1 := Aside0.mk A10
  clear A10
  replace H := Option.bind_eq_some_iff.mp H
  obtain ⟨⟨t111, t112, t113⟩, A20, H⟩ := H
  replace H : ((thermionlaw02_family.f).bind fun bt115 => ((curve_At.f k bt115.1 bt115.2.1 bt115.2.2.1 bt115.2.2.2 (-1000) 50000).bind fun bt127 => (if t113 = 0 then (if bt127.2.2 = 0 then (if (t111 == 15178 && (t112 == 15179)) = true then (if (bt127.1 == 22 && (bt127.2.1 == 29)) = true then ((thermionlaw02_family.f).bind fun bt131 => ((curve_Check.f bt131.1 bt131.2.1 bt131.2.2.1 bt131.2.2.2).bind fun t143 => (some (t143 == 0)))) else (none)) else (none)) else (none)) else (none)))) = some r := H
  have A2 := Aside0.mk A20
  clear A20
  replace H := Option.bind_eq_some_iff.mp H
  obtain ⟨⟨t115, t118, t121, t124⟩, A30, H⟩ := H
  replace H : ((curve_At.f k t115 t118 t121 t124 (-1000) 50000).bind fun bt127 => (if t113 = 0 then (if bt127.2.2 = 0 then (if (t111 == 15178 && (t112 == 15179)) = true then (if (bt127.1 == 22 && (bt127.2.1 == 29)) = true then ((thermionlaw02_family.f).bind fun bt131 => ((curve_Check.f bt131.1 bt131.2.1 bt131.2.2.1 bt131.2.2.2).bind fun t143 => (some (t143 == 0)))) else (none)) else (none)) else (none)) else (none))) = some r := H
  have A3 := Aside0.mk A30
  clear A30
  replace H := Option.bind_eq_some_iff.mp H
  obtain ⟨⟨t127, t128, t129⟩, A40, H⟩ := H
  replace H : (if t113 = 0 then (if t129 = 0 then (if (t111 == 15178 && (t112 == 15179)) = true then (if (t127 == 22 && (t128 == 29)) = true then ((thermionlaw02_family.f).bind fun bt131 => ((curve_Check.f bt131.1 bt131.2.1 bt131.2.2.1 bt131.2.2.2).bind fun t143 => (some (t143 == 0)))) else (none)) else (none)) else (none)) else (none)) = some r := H
  have A4 := Aside0.mk A40
  clear A40
  by_cases c5 : t113 = 0
  · rw [if_pos c5] at H
    have c5b0 : (t113 == 0) = true := beq_iff_eq.mpr c5
    have c5b1 : (t113 != 0) = false := bne_eq_false_iff_eq.mpr c5
    clear c5
    by_cases c6 : t129 = 0
    · rw [if_pos c6] at H
      have c6b0 : (t129 == 0) = true := beq_iff_eq.mpr c6
      have c6b1 : (t129 != 0) = false := bne_eq_false_iff_eq.mpr c6
      clear c6
      by_cases c7 : (t111 == 15178 && (t112 == 15179)) = true
      · rw [if_pos c7] at H
        have c7b0 : (t111 == 15178 && (t112 == 15179)) = true := c7
        (try (have c7b1 : decide (t111 = 15178 && (t112 == 15179)) = true := by simpa using c7))
        (try (have c7b2 : (t111 == 15178 && (t112 == 15179)) = true := by simpa using c7))
        clear c7
        by_cases c8 : (t127 == 22 && (t128 == 29)) = true
        · rw [if_pos c8] at H
          have c8b0 : (t127 == 22 && (t128 == 29)) = true := c8
          (try (have c8b1 : decide (t127 = 22 && (t128 == 29)) = true := by simpa using c8))
          (try (have c8b2 : (t127 == 22 && (t128 == 29)) = true := by simpa using c8))
          clear c8
          replace H := Option.bind_eq_some_iff.mp H
          obtain ⟨⟨t131, t134, t137, t140⟩, A90, H⟩ := H
          replace H : ((curve_Check.f t131 t134 t137 t140).bind fun t143 => (some (t143 == 0))) = some r := H
          have A9 := Aside0.mk A90
          clear A90
          replace H := Option.bind_eq_some_iff.mp H
          obtain ⟨t143, A100, H⟩ := H
          replace H : (some (t143 == 0)) = some r := H
          have A10 := Aside0.mk A100
          clear A100
          obtain rfl := Option.some.inj H
          go_enter Try.func17, Try.ntmps17
          go_wp2_with (first | ((with_reducible refine gate_callee (f := 63) rfl ?_); refine goesL_ (some 6) rfl rfl Try.func63 (by kernel_rfl) rfl #[] rfl (by (try simp only [List.map_toArray, List.map_cons, List.map_nil]); first | done | rfl | (simp only [List.length_drop, List.length_take]; rfl)) ?_; (with_reducible refine (thermionlaw02_law.calls  t101 t102 t103 t104 t105 t106 t107 t108 t109 t110 _ A1.out).mono ?_); rintro e w11 ⟨rfl, hb⟩; refine ⟨_, rfl, ?_⟩; have n0_ := Aside0.mk (below_step (by repeat (first | (with_reducible first | exact HB.out | apply qA | apply qN | apply qD) | exact HB.out)) hb); clear HB; have HB := n0_; clear n0_; (try clear hb); (try clear hb2); (try clear hk); (try clear hi)) | ((with_reducible refine gate_callee (f := 27) rfl ?_); refine goesL_ (some 7) rfl rfl Try.func27 (by kernel_rfl) rfl #[.agg #[.int .i64 t101, .int .i64 t102, .int .i64 t103, .int .i64 t104, .int .i64 t105, .int .i64 t106, .int .i64 t107, .int .i64 t108, .int .i64 t109, .int .i64 t110], .int .i64 4000, .int .i64 0] rfl (by (try simp only [List.map_toArray, List.map_cons, List.map_nil]); first | done | rfl | (simp only [List.length_drop, List.length_take]; rfl)) ?_; (with_reducible refine (curve_Current.calls k t101 t102 t103 t104 t105 t106 t107 t108 t109 t110 4000 0 t111 t112 t113 _ A2.out).mono ?_); rintro e w12 ⟨rfl, hb⟩; refine ⟨_, rfl, ?_⟩; have n0_ := Aside0.mk (below_step (by repeat (first | (with_reducible first | exact HB.out | apply qA | apply qN | apply qD) | exact HB.out)) hb); clear HB; have HB := n0_; clear n0_; (try clear hb); (try clear hb2); (try clear hk); (try clear hi)) | ((with_reducible refine gate_dst (N := 1) rfl ?_); refine box_event ?hg (N := 1) ?hd (cs := #[.int .i64 0, .int .i64 0]) (t := 35) ?hr ?_; (case hd => rfl); (case hg => rfl); (case hr => first | (go_simp; done) | (go_simp; rfl)); intro gb114 hg w13 hbox hb; have n0_ := Aside0.mk (below_step (by repeat (first | (with_reducible first | exact HB.out | apply qA | apply qN | apply qD) | exact HB.out)) hb); have n1_ := Aside0.mk (hbox); have n2_ := Aside0.mk ((by rw [hg]; exact (below_size (by repeat (first | (with_reducible first | exact HB.out | apply qA | apply qN | apply qD) | exact HB.out))) : w.heap.size ≤ gb114)); have n3_ := Aside0.mk ((by rw [hg]; exact (below_size (by repeat (first | (with_reducible first | exact HB.out | apply qA | apply qN | apply qD) | exact HB.out))) : w.heap.size ≤ gb114)); clear HB; have HB := n0_; have BK114 := n1_; have GW114 := n2_; have GE114 := n3_; clear n0_ n1_ n2_ n3_; clear hb hbox hg; have hcz14_0 : w13.cell? ⟨gb114, 0, none⟩ = some (.int .i64 0) := (blk_cell BK114.out 0).trans rfl; have hcz14_1 : w13.cell? ⟨gb114, 1, none⟩ = some (.int .i64 0) := (blk_cell BK114.out 1).trans rfl; have hfz14_0 := blk_frozen BK114.out 0; have hfz14_1 := blk_frozen BK114.out 1) | ((with_reducible refine gate_callee (f := 64) rfl ?_); refine goesL_ (some 11) rfl rfl Try.func64 (by kernel_rfl) rfl #[] rfl (by (try simp only [List.map_toArray, List.map_cons, List.map_nil]); first | done | rfl | (simp only [List.length_drop, List.length_take]; rfl)) ?_; (with_reducible refine (thermionlaw02_family.calls  t115 t118 t121 t124 _ A3.out).mono ?_); rintro e w15 ⟨v116, v119, v122, v125, rfl, ho0, ho1, ho2, ho3, hb⟩; refine ⟨_, rfl, ?_⟩; have n0_ := Aside0.mk (Kd.R_lower (Kd.R_mono (ok' := fun k_ => some k_ ≠ (v119 : Value).ownBlock) ho0 (fun _ hk_ => hk_.2)) (below_size (by repeat (first | (with_reducible first | exact HB.out | apply qA | apply qN | apply qD | refine below_set ?_ GE114.out) | exact HB.out)))); have n1_ := Aside0.mk (Kd.R_lower (Kd.R_mono (ok' := fun k_ => some k_ ≠ (v116 : Value).ownBlock) ho1 (fun _ hk_ => hk_.2)) (below_size (by repeat (first | (with_reducible first | exact HB.out | apply qA | apply qN | apply qD | refine below_set ?_ GE114.out) | exact HB.out)))); have n2_ := Aside0.mk (Kd.N_lower (Kd.N_mono (ok' := fun k_ => some k_ ≠ (v116 : Value).ownBlock ∧ some k_ ≠ (v119 : Value).ownBlock ∧ some k_ ≠ (v125 : Value).ownBlock ∧ k_ ≠ gb114) ho2 (fun k_ hk_ => ⟨hk_.2.1, hk_.2.2.1, hk_.2.2.2, (Kd.freshB (g := gb114) (o := .cells #[.int .i64 t111, .int .i64 t112] 35 (0, 0)) (by (with_reducible repeat (first | refine qn ?_ _ | refine qd ?_ | refine qa ?_ _)); refine blk_put (cs := #[.int .i64 t111, .int .i64 0]) ?_ 1 _ rfl; (with_reducible repeat (first | refine qn ?_ _ | refine qd ?_ | refine qa ?_ _)); refine blk_put (cs := #[.int .i64 0, .int .i64 0]) ?_ 0 _ rfl; (with_reducible repeat (first | refine qn ?_ _ | refine qd ?_ | refine qa ?_ _)); exact BK114.out) k_ hk_.1)⟩)) (below_size (by repeat (first | (with_reducible first | exact HB.out | apply qA | apply qN | apply qD | refine below_set ?_ GE114.out) | exact HB.out)))); have n3_ := Aside0.mk (Kd.N_lower (Kd.N_mono (ok' := fun k_ => some k_ ≠ (v116 : Value).ownBlock ∧ some k_ ≠ (v119 : Value).ownBlock ∧ some k_ ≠ (v122 : Value).ownBlock ∧ k_ ≠ gb114) ho3 (fun k_ hk_ => ⟨hk_.2.1, hk_.2.2.1, hk_.2.2.2, (Kd.freshB (g := gb114) (o := .cells #[.int .i64 t111, .int .i64 t112] 35 (0, 0)) (by (with_reducible repeat (first | refine qn ?_ _ | refine qd ?_ | refine qa ?_ _)); refine blk_put (cs := #[.int .i64 t111, .int .i64 0]) ?_ 1 _ rfl; (with_reducible repeat (first | refine qn ?_ _ | refine qd ?_ | refine qa ?_ _)); refine blk_put (cs := #[.int .i64 0, .int .i64 0]) ?_ 0 _ rfl; (with_reducible repeat (first | refine qn ?_ _ | refine qd ?_ | refine qa ?_ _)); exact BK114.out) k_ hk_.1)⟩)) (below_size (by repeat (first | (with_reducible first | exact HB.out | apply qA | apply qN | apply qD | refine below_set ?_ GE114.out) | exact HB.out)))); have n4_ := Aside0.mk (blk_below (g := gb114) (o := .cells #[.int .i64 t111, .int .i64 t112] 35 (0, 0)) (by (with_reducible repeat (first | refine qn ?_ _ | refine qd ?_ | refine qa ?_ _)); refine blk_put (cs := #[.int .i64 t111, .int .i64 0]) ?_ 1 _ rfl; (with_reducible repeat (first | refine qn ?_ _ | refine qd ?_ | refine qa ?_ _)); refine blk_put (cs := #[.int .i64 0, .int .i64 0]) ?_ 0 _ rfl; (with_reducible repeat (first | refine qn ?_ _ | refine qd ?_ | refine qa ?_ _)); exact BK114.out) hb); have n5_ := Aside0.mk (below_step (by repeat (first | (with_reducible first | exact HB.out | apply qA | apply qN | apply qD | refine below_set ?_ GE114.out) | exact HB.out)) hb); clear BK114; clear HB; have HO117 := n0_; have HO120 := n1_; have HO123 := n2_; have HO126 := n3_; have BK114 := n4_; have HB := n5_; clear n0_ n1_ n2_ n3_ n4_ n5_; (try clear hb); (try clear hb2); (try clear hk); (try clear hi); (try clear ho0); (try clear ho1); (try clear ho2); (try clear ho3); obtain ⟨Ao16, co16, eo16⟩ := Kd.R_slice HO117.out; subst eo16; obtain ⟨Ao17, co17, eo17⟩ := Kd.R_slice HO120.out; subst eo17; obtain ⟨Ao18, co18, eo18⟩ := Kd.N_slice HO123.out; subst eo18; obtain ⟨Ao19, co19, eo19⟩ := Kd.N_slice HO126.out; subst eo19) | ((with_reducible refine gate_callee (f := 22) rfl ?_); refine goesL_ (some 12) rfl rfl Try.func22 (by kernel_rfl) rfl #[.agg #[.slice Ao16 t115.length co16, .slice Ao17 t118.length co17, .slice Ao18 t121.length co18, .slice Ao19 t124.length co19], .int .i64 (-1000), .int .i64 50000] rfl (by (try simp only [List.map_toArray, List.map_cons, List.map_nil]); first | done | rfl | (simp only [List.length_drop, List.length_take]; rfl)) ?_; (with_reducible refine (curve_At.calls k _ _ t115 _ _ t118 _ _ t121 _ _ t124 (-1000) 50000 t127 t128 t129 _ ?side1 ?side2 ?side3 ?side4 ?side5 ?side6 ?side7 ?side8 A4.out).mono ?_); (case side1 => repeat (first | exact (Kd.R_reads' HO117.out).2.2 | (with_reducible refine Kd.C_alloc ?_ _) | (with_reducible refine Kd.C_drewN ?_ _) | (with_reducible refine Kd.C_drew ?_))); (case side2 => exact (Kd.R_reads' HO117.out).2.1); (case side3 => repeat (first | exact (Kd.R_reads' HO120.out).2.2 | (with_reducible refine Kd.C_alloc ?_ _) | (with_reducible refine Kd.C_drewN ?_ _) | (with_reducible refine Kd.C_drew ?_))); (case side4 => exact (Kd.R_reads' HO120.out).2.1); (case side5 => repeat (first | exact (Kd.N_reads' HO123.out).2.2 | (with_reducible refine Kd.C_alloc ?_ _) | (with_reducible refine Kd.C_drewN ?_ _) | (with_reducible refine Kd.C_drew ?_))); (case side6 => exact (Kd.N_reads' HO123.out).2.1); (case side7 => repeat (first | exact (Kd.N_reads' HO126.out).2.2 | (with_reducible refine Kd.C_alloc ?_ _) | (with_reducible refine Kd.C_drewN ?_ _) | (with_reducible refine Kd.C_drew ?_))); (case side8 => exact (Kd.N_reads' HO126.out).2.1); rintro e w20 ⟨rfl, hb⟩; refine ⟨_, rfl, ?_⟩; have n0_ := Aside0.mk (Kd.R_below (by (with_reducible repeat (first | apply Kd.R_alloc | apply Kd.R_drewN | apply Kd.R_drew)); exact HO117.out) hb); have n1_ := Aside0.mk (Kd.R_below (by (with_reducible repeat (first | apply Kd.R_alloc | apply Kd.R_drewN | apply Kd.R_drew)); exact HO120.out) hb); have n2_ := Aside0.mk (Kd.N_below (by (with_reducible repeat (first | apply Kd.N_alloc | apply Kd.N_drewN | apply Kd.N_drew)); exact HO123.out) hb); have n3_ := Aside0.mk (Kd.N_below (by (with_reducible repeat (first | apply Kd.N_alloc | apply Kd.N_drewN | apply Kd.N_drew)); exact HO126.out) hb); have n4_ := Aside0.mk (blk_below (by (with_reducible repeat (first | refine qn ?_ _ | refine qd ?_ | refine qa ?_ _)); exact BK114.out) hb); have n5_ := Aside0.mk (below_step (by repeat (first | (with_reducible first | exact HB.out | apply qA | apply qN | apply qD | refine below_set ?_ GE114.out) | exact HB.out)) hb); clear HO117; clear HO120; clear HO123; clear HO126; clear BK114; clear HB; have HO117 := n0_; have HO120 := n1_; have HO123 := n2_; have HO126 := n3_; have BK114 := n4_; have HB := n5_; clear n0_ n1_ n2_ n3_ n4_ n5_; (try clear hb); (try clear hb2); (try clear hk); (try clear hi)) | ((with_reducible refine gate_dst (N := 3) rfl ?_); refine box_event ?hg (N := 3) ?hd (cs := #[.int .i64 0, .int .i64 0]) (t := 35) ?hr ?_; (case hd => rfl); (case hg => rfl); (case hr => first | (go_simp; done) | (go_simp; rfl)); intro gb130 hg w21 hbox hb; have n0_ := Aside0.mk (Kd.R_below (by (with_reducible repeat (first | apply Kd.R_alloc | apply Kd.R_drewN | apply Kd.R_drew)); exact HO117.out) hb); have n1_ := Aside0.mk (Kd.R_below (by (with_reducible repeat (first | apply Kd.R_alloc | apply Kd.R_drewN | apply Kd.R_drew)); exact HO120.out) hb); have n2_ := Aside0.mk (Kd.N_below (Kd.N_elderB (by (with_reducible repeat (first | apply Kd.N_alloc | apply Kd.N_drewN | apply Kd.N_drew)); exact HO123.out) gb130 (Nat.le_of_eq hg.symm)) hb); have n3_ := Aside0.mk (Kd.N_below (Kd.N_elderB (by (with_reducible repeat (first | apply Kd.N_alloc | apply Kd.N_drewN | apply Kd.N_drew)); exact HO126.out) gb130 (Nat.le_of_eq hg.symm)) hb); have n4_ := Aside0.mk (blk_below (by (with_reducible repeat (first | refine qn ?_ _ | refine qd ?_ | refine qa ?_ _)); exact BK114.out) hb); have n5_ := Aside0.mk (below_step (by repeat (first | (with_reducible first | exact HB.out | apply qA | apply qN | apply qD | refine below_set ?_ GE114.out) | exact HB.out)) hb); have n6_ := Aside0.mk (hbox); have n7_ := Aside0.mk ((by rw [hg]; exact (below_size (by repeat (first | (with_reducible first | exact HB.out | apply qA | apply qN | apply qD | refine below_set ?_ GE114.out) | exact HB.out))) : w.heap.size ≤ gb130)); have n8_ := Aside0.mk ((by rw [hg]; exact (below_size (by repeat (first | (with_reducible first | exact HB.out | apply qA | apply qN | apply qD | refine below_set ?_ GE114.out) | exact HB.out))) : w.heap.size ≤ gb130)); have n9_ := Aside0.mk ((by rw [hg]; exact Nat.ne_of_lt (blk_lt (by (with_reducible repeat (first | refine qn ?_ _ | refine qd ?_ | refine qa ?_ _)); exact BK114.out)) : gb114 ≠ gb130)); have n10_ := Aside0.mk ((by rw [hg]; exact Nat.ne_of_gt (blk_lt (by (with_reducible repeat (first | refine qn ?_ _ | refine qd ?_ | refine qa ?_ _)); exact BK114.out)) : gb130 ≠ gb114)); clear HO117; clear HO120; clear HO123; clear HO126; clear BK114; clear HB; have HO117 := n0_; have HO120 := n1_; have HO123 := n2_; have HO126 := n3_; have BK114 := n4_; have HB := n5_; have BK130 := n6_; have GW130 := n7_; have GE130 := n8_; have NB114_130 := n9_; have NB130_114 := n10_; clear n0_ n1_ n2_ n3_ n4_ n5_ n6_ n7_ n8_ n9_ n10_; clear hb hbox hg; have hnb22 := NB130_114.out; have hnc22 := NB114_130.out; have hcz23_0 : w21.cell? ⟨gb130, 0, none⟩ = some (.int .i64 0) := (blk_cell BK130.out 0).trans rfl; have hcz23_1 : w21.cell? ⟨gb130, 1, none⟩ = some (.int .i64 0) := (blk_cell BK130.out 1).trans rfl; have hfz23_0 := blk_frozen BK130.out 0; have hfz23_1 := blk_frozen BK130.out 1; have hcz24_0 : w21.cell? ⟨gb114, 0, none⟩ = some (.int .i64 t111) := (blk_cell BK114.out 0).trans rfl; have hcz24_1 : w21.cell? ⟨gb114, 1, none⟩ = some (.int .i64 t112) := (blk_cell BK114.out 1).trans rfl; have hfz24_0 := blk_frozen BK114.out 0; have hfz24_1 := blk_frozen BK114.out 1) | (go_at_call 64; (with_reducible refine (thermionlaw02_family.calls  t131 t134 t137 t140 _ A9.out).mono ?_); rintro e w25 ⟨v132, v135, v138, v141, rfl, ho0, ho1, ho2, ho3, hb⟩; have n0_ := Aside0.mk (Kd.R_mono (Kd.R_told (Kd.R_told (Kd.R_old (by (with_reducible repeat (first | apply Kd.R_alloc | apply Kd.R_drewN | apply Kd.R_drew)); exact (Kd.R_mono (Kd.R_far (p := ⟨gb130, 1, none⟩) (Kd.R_far (p := ⟨gb130, 0, none⟩) (Kd.R_types HO117.out BK130.out (by decide)) (fun _ hk => hk.2) (.int .i64 t127)) (fun _ hk => hk.2) (.int .i64 t128)) (fun _ h_ => h_.1))) hb) (Kd.R_base ho0)) (Kd.R_base ho1)) (fun _ h_ => h_.1)); have n1_ := Aside0.mk (Kd.R_mono (Kd.R_told (Kd.R_told (Kd.R_old (by (with_reducible repeat (first | apply Kd.R_alloc | apply Kd.R_drewN | apply Kd.R_drew)); exact (Kd.R_mono (Kd.R_far (p := ⟨gb130, 1, none⟩) (Kd.R_far (p := ⟨gb130, 0, none⟩) (Kd.R_types HO120.out BK130.out (by decide)) (fun _ hk => hk.2) (.int .i64 t127)) (fun _ hk => hk.2) (.int .i64 t128)) (fun _ h_ => h_.1))) hb) (Kd.R_base ho0)) (Kd.R_base ho1)) (fun _ h_ => h_.1)); have n2_ := Aside0.mk (Kd.N_mono (Kd.N_told (Kd.N_told (Kd.N_told (Kd.N_told (Kd.N_old (by (with_reducible repeat (first | apply Kd.N_alloc | apply Kd.N_drewN | apply Kd.N_drew)); exact (Kd.N_mono (Kd.N_far (p := ⟨gb130, 1, none⟩) (Kd.N_far (p := ⟨gb130, 0, none⟩) (Kd.N_mono HO123.out (fun k_ hk => (⟨hk, hk.2⟩ : _ ∧ k_ ≠ gb130))) (fun _ hk => hk.2) (.int .i64 t127)) (fun _ hk => hk.2) (.int .i64 t128)) (fun _ h_ => h_.1))) hb) (Kd.R_base ho0)) (Kd.R_base ho1)) (Kd.N_base ho2)) (Kd.N_base ho3)) (fun _ h_ => h_.1)); have n3_ := Aside0.mk (Kd.N_mono (Kd.N_told (Kd.N_told (Kd.N_told (Kd.N_told (Kd.N_old (by (with_reducible repeat (first | apply Kd.N_alloc | apply Kd.N_drewN | apply Kd.N_drew)); exact (Kd.N_mono (Kd.N_far (p := ⟨gb130, 1, none⟩) (Kd.N_far (p := ⟨gb130, 0, none⟩) (Kd.N_mono HO126.out (fun k_ hk => (⟨hk, hk.2⟩ : _ ∧ k_ ≠ gb130))) (fun _ hk => hk.2) (.int .i64 t127)) (fun _ hk => hk.2) (.int .i64 t128)) (fun _ h_ => h_.1))) hb) (Kd.R_base ho0)) (Kd.R_base ho1)) (Kd.N_base ho2)) (Kd.N_base ho3)) (fun _ h_ => h_.1)); have n4_ := Aside0.mk (Kd.R_lower (Kd.R_new' (Kd.R_new' (Kd.R_mono (ok' := fun k_ => some k_ ≠ (v135 : Value).ownBlock) ho0 (fun _ hk_ => hk_.2)) (Kd.R_lt (by (with_reducible repeat (first | apply Kd.R_alloc | apply Kd.R_drewN | apply Kd.R_drew)); exact (Kd.R_mono (Kd.R_far (p := ⟨gb130, 1, none⟩) (Kd.R_far (p := ⟨gb130, 0, none⟩) (Kd.R_types HO117.out BK130.out (by decide)) (fun _ hk => hk.2) (.int .i64 t127)) (fun _ hk => hk.2) (.int .i64 t128)) (fun _ h_ => h_.1))))) (Kd.R_lt (by (with_reducible repeat (first | apply Kd.R_alloc | apply Kd.R_drewN | apply Kd.R_drew)); exact (Kd.R_mono (Kd.R_far (p := ⟨gb130, 1, none⟩) (Kd.R_far (p := ⟨gb130, 0, none⟩) (Kd.R_types HO120.out BK130.out (by decide)) (fun _ hk => hk.2) (.int .i64 t127)) (fun _ hk => hk.2) (.int .i64 t128)) (fun _ h_ => h_.1))))) (below_size (by repeat (first | (with_reducible first | exact HB.out | apply qA | apply qN | apply qD | refine below_set ?_ GE114.out | refine below_set ?_ GE130.out) | exact HB.out)))); have n5_ := Aside0.mk (Kd.R_lower (Kd.R_new' (Kd.R_new' (Kd.R_mono (ok' := fun k_ => some k_ ≠ (v132 : Value).ownBlock) ho1 (fun _ hk_ => hk_.2)) (Kd.R_lt (by (with_reducible repeat (first | apply Kd.R_alloc | apply Kd.R_drewN | apply Kd.R_drew)); exact (Kd.R_mono (Kd.R_far (p := ⟨gb130, 1, none⟩) (Kd.R_far (p := ⟨gb130, 0, none⟩) (Kd.R_types HO117.out BK130.out (by decide)) (fun _ hk => hk.2) (.int .i64 t127)) (fun _ hk => hk.2) (.int .i64 t128)) (fun _ h_ => h_.1))))) (Kd.R_lt (by (with_reducible repeat (first | apply Kd.R_alloc | apply Kd.R_drewN | apply Kd.R_drew)); exact (Kd.R_mono (Kd.R_far (p := ⟨gb130, 1, none⟩) (Kd.R_far (p := ⟨gb130, 0, none⟩) (Kd.R_types HO120.out BK130.out (by decide)) (fun _ hk => hk.2) (.int .i64 t127)) (fun _ hk => hk.2) (.int .i64 t128)) (fun _ h_ => h_.1))))) (below_size (by repeat (first | (with_reducible first | exact HB.out | apply qA | apply qN | apply qD | refine below_set ?_ GE114.out | refine below_set ?_ GE130.out) | exact HB.out)))); have n6_ := Aside0.mk (Kd.N_lower (Kd.N_mono (ok' := fun k_ => some k_ ≠ (v132 : Value).ownBlock ∧ some k_ ≠ (v135 : Value).ownBlock ∧ some k_ ≠ (v141 : Value).ownBlock ∧ some k_ ≠ (.slice Ao16 t115.length co16 : Value).ownBlock ∧ some k_ ≠ (.slice Ao17 t118.length co17 : Value).ownBlock ∧ some k_ ≠ (.slice Ao18 t121.length co18 : Value).ownBlock ∧ some k_ ≠ (.slice Ao19 t124.length co19 : Value).ownBlock ∧ k_ ≠ gb114 ∧ k_ ≠ gb130) ho2 (fun k_ hk_ => ⟨hk_.2.1, hk_.2.2.1, hk_.2.2.2, (Kd.fresh' (Kd.R_lt (by (with_reducible repeat (first | apply Kd.R_alloc | apply Kd.R_drewN | apply Kd.R_drew)); exact (Kd.R_mono (Kd.R_far (p := ⟨gb130, 1, none⟩) (Kd.R_far (p := ⟨gb130, 0, none⟩) (Kd.R_types HO117.out BK130.out (by decide)) (fun _ hk => hk.2) (.int .i64 t127)) (fun _ hk => hk.2) (.int .i64 t128)) (fun _ h_ => h_.1)))) k_ hk_.1), (Kd.fresh' (Kd.R_lt (by (with_reducible repeat (first | apply Kd.R_alloc | apply Kd.R_drewN | apply Kd.R_drew)); exact (Kd.R_mono (Kd.R_far (p := ⟨gb130, 1, none⟩) (Kd.R_far (p := ⟨gb130, 0, none⟩) (Kd.R_types HO120.out BK130.out (by decide)) (fun _ hk => hk.2) (.int .i64 t127)) (fun _ hk => hk.2) (.int .i64 t128)) (fun _ h_ => h_.1)))) k_ hk_.1), (Kd.fresh' (Kd.N_lt (by (with_reducible repeat (first | apply Kd.N_alloc | apply Kd.N_drewN | apply Kd.N_drew)); exact (Kd.N_mono (Kd.N_far (p := ⟨gb130, 1, none⟩) (Kd.N_far (p := ⟨gb130, 0, none⟩) (Kd.N_mono HO123.out (fun k_ hk => (⟨hk, hk.2⟩ : _ ∧ k_ ≠ gb130))) (fun _ hk => hk.2) (.int .i64 t127)) (fun _ hk => hk.2) (.int .i64 t128)) (fun _ h_ => h_.1)))) k_ hk_.1), (Kd.fresh' (Kd.N_lt (by (with_reducible repeat (first | apply Kd.N_alloc | apply Kd.N_drewN | apply Kd.N_drew)); exact (Kd.N_mono (Kd.N_far (p := ⟨gb130, 1, none⟩) (Kd.N_far (p := ⟨gb130, 0, none⟩) (Kd.N_mono HO126.out (fun k_ hk => (⟨hk, hk.2⟩ : _ ∧ k_ ≠ gb130))) (fun _ hk => hk.2) (.int .i64 t127)) (fun _ hk => hk.2) (.int .i64 t128)) (fun _ h_ => h_.1)))) k_ hk_.1), (Kd.freshB (g := gb114) (o := .cells #[.int .i64 t111, .int .i64 t112] 35 (0, 0)) (by (with_reducible repeat (first | refine qn ?_ _ | refine qd ?_ | refine qa ?_ _)); refine blk_far ?_ NB114_130.out _; (with_reducible repeat (first | refine qn ?_ _ | refine qd ?_ | refine qa ?_ _)); refine blk_far ?_ NB114_130.out _; (with_reducible repeat (first | refine qn ?_ _ | refine qd ?_ | refine qa ?_ _)); exact BK114.out) k_ hk_.1), (Kd.freshB (g := gb130) (o := .cells #[.int .i64 t127, .int .i64 t128] 35 (0, 0)) (by (with_reducible repeat (first | refine qn ?_ _ | refine qd ?_ | refine qa ?_ _)); refine blk_put (cs := #[.int .i64 t127, .int .i64 0]) ?_ 1 _ rfl; (with_reducible repeat (first | refine qn ?_ _ | refine qd ?_ | refine qa ?_ _)); refine blk_put (cs := #[.int .i64 0, .int .i64 0]) ?_ 0 _ rfl; (with_reducible repeat (first | refine qn ?_ _ | refine qd ?_ | refine qa ?_ _)); exact BK130.out) k_ hk_.1)⟩)) (below_size (by repeat (first | (with_reducible first | exact HB.out | apply qA | apply qN | apply qD | refine below_set ?_ GE114.out | refine below_set ?_ GE130.out) | exact HB.out)))); have n7_ := Aside0.mk (Kd.N_lower (Kd.N_mono (ok' := fun k_ => some k_ ≠ (v132 : Value).ownBlock ∧ some k_ ≠ (v135 : Value).ownBlock ∧ some k_ ≠ (v138 : Value).ownBlock ∧ some k_ ≠ (.slice Ao16 t115.length co16 : Value).ownBlock ∧ some k_ ≠ (.slice Ao17 t118.length co17 : Value).ownBlock ∧ some k_ ≠ (.slice Ao18 t121.length co18 : Value).ownBlock ∧ some k_ ≠ (.slice Ao19 t124.length co19 : Value).ownBlock ∧ k_ ≠ gb114 ∧ k_ ≠ gb130) ho3 (fun k_ hk_ => ⟨hk_.2.1, hk_.2.2.1, hk_.2.2.2, (Kd.fresh' (Kd.R_lt (by (with_reducible repeat (first | apply Kd.R_alloc | apply Kd.R_drewN | apply Kd.R_drew)); exact (Kd.R_mono (Kd.R_far (p := ⟨gb130, 1, none⟩) (Kd.R_far (p := ⟨gb130, 0, none⟩) (Kd.R_types HO117.out BK130.out (by decide)) (fun _ hk => hk.2) (.int .i64 t127)) (fun _ hk => hk.2) (.int .i64 t128)) (fun _ h_ => h_.1)))) k_ hk_.1), (Kd.fresh' (Kd.R_lt (by (with_reducible repeat (first | apply Kd.R_alloc | apply Kd.R_drewN | apply Kd.R_drew)); exact (Kd.R_mono (Kd.R_far (p := ⟨gb130, 1, none⟩) (Kd.R_far (p := ⟨gb130, 0, none⟩) (Kd.R_types HO120.out BK130.out (by decide)) (fun _ hk => hk.2) (.int .i64 t127)) (fun _ hk => hk.2) (.int .i64 t128)) (fun _ h_ => h_.1)))) k_ hk_.1), (Kd.fresh' (Kd.N_lt (by (with_reducible repeat (first | apply Kd.N_alloc | apply Kd.N_drewN | apply Kd.N_drew)); exact (Kd.N_mono (Kd.N_far (p := ⟨gb130, 1, none⟩) (Kd.N_far (p := ⟨gb130, 0, none⟩) (Kd.N_mono HO123.out (fun k_ hk => (⟨hk, hk.2⟩ : _ ∧ k_ ≠ gb130))) (fun _ hk => hk.2) (.int .i64 t127)) (fun _ hk => hk.2) (.int .i64 t128)) (fun _ h_ => h_.1)))) k_ hk_.1), (Kd.fresh' (Kd.N_lt (by (with_reducible repeat (first | apply Kd.N_alloc | apply Kd.N_drewN | apply Kd.N_drew)); exact (Kd.N_mono (Kd.N_far (p := ⟨gb130, 1, none⟩) (Kd.N_far (p := ⟨gb130, 0, none⟩) (Kd.N_mono HO126.out (fun k_ hk => (⟨hk, hk.2⟩ : _ ∧ k_ ≠ gb130))) (fun _ hk => hk.2) (.int .i64 t127)) (fun _ hk => hk.2) (.int .i64 t128)) (fun _ h_ => h_.1)))) k_ hk_.1), (Kd.freshB (g := gb114) (o := .cells #[.int .i64 t111, .int .i64 t112] 35 (0, 0)) (by (with_reducible repeat (first | refine qn ?_ _ | refine qd ?_ | refine qa ?_ _)); refine blk_far ?_ NB114_130.out _; (with_reducible repeat (first | refine qn ?_ _ | refine qd ?_ | refine qa ?_ _)); refine blk_far ?_ NB114_130.out _; (with_reducible repeat (first | refine qn ?_ _ | refine qd ?_ | refine qa ?_ _)); exact BK114.out) k_ hk_.1), (Kd.freshB (g := gb130) (o := .cells #[.int .i64 t127, .int .i64 t128] 35 (0, 0)) (by (with_reducible repeat (first | refine qn ?_ _ | refine qd ?_ | refine qa ?_ _)); refine blk_put (cs := #[.int .i64 t127, .int .i64 0]) ?_ 1 _ rfl; (with_reducible repeat (first | refine qn ?_ _ | refine qd ?_ | refine qa ?_ _)); refine blk_put (cs := #[.int .i64 0, .int .i64 0]) ?_ 0 _ rfl; (with_reducible repeat (first | refine qn ?_ _ | refine qd ?_ | refine qa ?_ _)); exact BK130.out) k_ hk_.1)⟩)) (below_size (by repeat (first | (with_reducible first | exact HB.out | apply qA | apply qN | apply qD | refine below_set ?_ GE114.out | refine below_set ?_ GE130.out) | exact HB.out)))); have n8_ := Aside0.mk (blk_below (g := gb114) (o := .cells #[.int .i64 t111, .int .i64 t112] 35 (0, 0)) (by (with_reducible repeat (first | refine qn ?_ _ | refine qd ?_ | refine qa ?_ _)); refine blk_far ?_ NB114_130.out _; (with_reducible repeat (first | refine qn ?_ _ | refine qd ?_ | refine qa ?_ _)); refine blk_far ?_ NB114_130.out _; (with_reducible repeat (first | refine qn ?_ _ | refine qd ?_ | refine qa ?_ _)); exact BK114.out) hb); have n9_ := Aside0.mk (blk_below (g := gb130) (o := .cells #[.int .i64 t127, .int .i64 t128] 35 (0, 0)) (by (with_reducible repeat (first | refine qn ?_ _ | refine qd ?_ | refine qa ?_ _)); refine blk_put (cs := #[.int .i64 t127, .int .i64 0]) ?_ 1 _ rfl; (with_reducible repeat (first | refine qn ?_ _ | refine qd ?_ | refine qa ?_ _)); refine blk_put (cs := #[.int .i64 0, .int .i64 0]) ?_ 0 _ rfl; (with_reducible repeat (first | refine qn ?_ _ | refine qd ?_ | refine qa ?_ _)); exact BK130.out) hb); have n10_ := Aside0.mk (below_step (by repeat (first | (with_reducible first | exact HB.out | apply qA | apply qN | apply qD | refine below_set ?_ GE114.out | refine below_set ?_ GE130.out) | exact HB.out)) hb); clear HO117; clear HO120; clear HO123; clear HO126; clear BK114; clear BK130; clear HB; have HO117 := n0_; have HO120 := n1_; have HO123 := n2_; have HO126 := n3_; have HO133 := n4_; have HO136 := n5_; have HO139 := n6_; have HO142 := n7_; have BK114 := n8_; have BK130 := n9_; have HB := n10_; clear n0_ n1_ n2_ n3_ n4_ n5_ n6_ n7_ n8_ n9_ n10_; (try clear hb); (try clear hb2); (try clear hk); (try clear hi); (try clear ho0); (try clear ho1); (try clear ho2); (try clear ho3); obtain ⟨Ao26, co26, eo26⟩ := Kd.R_slice HO133.out; subst eo26; obtain ⟨Ao27, co27, eo27⟩ := Kd.R_slice HO136.out; subst eo27; obtain ⟨Ao28, co28, eo28⟩ := Kd.N_slice HO139.out; subst eo28; obtain ⟨Ao29, co29, eo29⟩ := Kd.N_slice HO142.out; subst eo29) | (go_at_call 37; (with_reducible refine (curve_Check.calls _ _ t131 _ _ t134 _ _ t137 _ _ t140 t143 _ ?side1 ?side2 ?side3 ?side4 ?side5 ?side6 ?side7 ?side8 A10.out).mono ?_); (case side1 => repeat (first | exact (Kd.R_reads' HO133.out).2.2 | (with_reducible refine Kd.C_alloc ?_ _) | (with_reducible refine Kd.C_drewN ?_ _) | (with_reducible refine Kd.C_drew ?_))); (case side2 => exact (Kd.R_reads' HO133.out).2.1); (case side3 => repeat (first | exact (Kd.R_reads' HO136.out).2.2 | (with_reducible refine Kd.C_alloc ?_ _) | (with_reducible refine Kd.C_drewN ?_ _) | (with_reducible refine Kd.C_drew ?_))); (case side4 => exact (Kd.R_reads' HO136.out).2.1); (case side5 => repeat (first | exact (Kd.N_reads' HO139.out).2.2 | (with_reducible refine Kd.C_alloc ?_ _) | (with_reducible refine Kd.C_drewN ?_ _) | (with_reducible refine Kd.C_drew ?_))); (case side6 => exact (Kd.N_reads' HO139.out).2.1); (case side7 => repeat (first | exact (Kd.N_reads' HO142.out).2.2 | (with_reducible refine Kd.C_alloc ?_ _) | (with_reducible refine Kd.C_drewN ?_ _) | (with_reducible refine Kd.C_drew ?_))); (case side8 => exact (Kd.N_reads' HO142.out).2.1); rintro e w30 ⟨rfl, hb⟩; have n0_ := Aside0.mk (Kd.R_below (by (with_reducible repeat (first | apply Kd.R_alloc | apply Kd.R_drewN | apply Kd.R_drew)); exact HO117.out) hb); have n1_ := Aside0.mk (Kd.R_below (by (with_reducible repeat (first | apply Kd.R_alloc | apply Kd.R_drewN | apply Kd.R_drew)); exact HO120.out) hb); have n2_ := Aside0.mk (Kd.N_below (by (with_reducible repeat (first | apply Kd.N_alloc | apply Kd.N_drewN | apply Kd.N_drew)); exact HO123.out) hb); have n3_ := Aside0.mk (Kd.N_below (by (with_reducible repeat (first | apply Kd.N_alloc | apply Kd.N_drewN | apply Kd.N_drew)); exact HO126.out) hb); have n4_ := Aside0.mk (Kd.R_below (by (with_reducible repeat (first | apply Kd.R_alloc | apply Kd.R_drewN | apply Kd.R_drew)); exact HO133.out) hb); have n5_ := Aside0.mk (Kd.R_below (by (with_reducible repeat (first | apply Kd.R_alloc | apply Kd.R_drewN | apply Kd.R_drew)); exact HO136.out) hb); have n6_ := Aside0.mk (Kd.N_below (by (with_reducible repeat (first | apply Kd.N_alloc | apply Kd.N_drewN | apply Kd.N_drew)); exact HO139.out) hb); have n7_ := Aside0.mk (Kd.N_below (by (with_reducible repeat (first | apply Kd.N_alloc | apply Kd.N_drewN | apply Kd.N_drew)); exact HO142.out) hb); have n8_ := Aside0.mk (blk_below (by (with_reducible repeat (first | refine qn ?_ _ | refine qd ?_ | refine qa ?_ _)); exact BK114.out) hb); have n9_ := Aside0.mk (blk_below (by (with_reducible repeat (first | refine qn ?_ _ | refine qd ?_ | refine qa ?_ _)); exact BK130.out) hb); have n10_ := Aside0.mk (below_step (by repeat (first | (with_reducible first | exact HB.out | apply qA | apply qN | apply qD | refine below_set ?_ GE114.out | refine below_set ?_ GE130.out) | exact HB.out)) hb); clear HO117; clear HO120; clear HO123; clear HO126; clear HO133; clear HO136; clear HO139; clear HO142; clear BK114; clear BK130; clear HB; have HO117 := n0_; have HO120 := n1_; have HO123 := n2_; have HO126 := n3_; have HO133 := n4_; have HO136 := n5_; have HO139 := n6_; have HO142 := n7_; have BK114 := n8_; have BK130 := n9_; have HB := n10_; clear n0_ n1_ n2_ n3_ n4_ n5_ n6_ n7_ n8_ n9_ n10_; (try clear hb); (try clear hb2); (try clear hk); (try clear hi)))
          go_ret
          exact ⟨by first | rfl | (simp [errW_none, errW_some] <;> rfl) | (simp [*, errW_none, errW_some] <;> rfl), by repeat (first | (with_reducible first | exact HB.out | apply qA | apply qN | apply qD | refine below_set ?_ GE114.out | refine below_set ?_ GE130.out) | exact HB.out)⟩
        · rw [if_neg c8] at H
          exact absurd H (by simp)
      · rw [if_neg c7] at H
        exact absurd H (by simp)
    · rw [if_neg c6] at H
      exact absurd H (by simp)
  · rw [if_neg c5] at H
    exact absurd H (by simp)

end Go.Proofs.Ytbomgfbfnkfamaa.PAll
end
section
namespace Go.Proofs.Ytbomgfbfnkfamaa.PAll
open Go.RowKit Go.Proofs.YtbomgfbfnkfamaaW.PrintWords Go.Proofs.YtbomgfbfnkfamaaW.PrintLast Go.Proofs.YtbomgfbfnkfamaaW.PrintMore
attribute [local go_sem] max2_int min2_int max_two min_two max_three min_three max_four min_four   -- for this text's walks alone
set_option linter.unusedVariables false
set_option linter.unusedSimpArgs false

/-- A state of type 83 at block g of W; what its slices lead to came in by w0. -/
def IsS83 (w0 W : World) (g : Nat) (f0 : Int) : Prop := W.heap[g]? = some (.cells #[.int .u64 f0] 83 (0, 0)) ∧ w0.heap.size ≤ g
theorem IsS83.grown {w0 W : World} {g : Nat} {f0 : Int} {W1 : World} {row : Option Nat} (h : IsS83 w0 W g f0) (hw : W.grownBy W1 row) (hne : some g ≠ row) : IsS83 w0 W1 g f0 := by
  obtain ⟨hb, hg⟩ := h
  exact ⟨blk_grown hb hw hne, hg⟩
theorem IsS83.own_neN {w0 W : World} {g : Nat} {f0 : Int} {α : Type} {d : Kd α} {e : Nat} {base : Nat} {ok : Nat → Prop} {v : Value} {xs : List α} (h : IsS83 w0 W g f0) (ho : Kd.N d e W base ok v xs) (ht : e ≠ 83) : some g ≠ v.ownBlock := by
  obtain ⟨hb, hg⟩ := h
  exact Kd.N_ne ho hb ht
theorem IsS83.fresh {w0 W : World} {g : Nat} {f0 : Int} (h : IsS83 w0 W g f0) : ∀ k, W.heap.size ≤ k → k ≠ g := by
  obtain ⟨hb, hg⟩ := h
  exact Kd.freshB hb
theorem IsS83.kept {w0 W : World} {g : Nat} {f0 : Int} {W1 : World} {S : Nat → Prop} (h : IsS83 w0 W g f0) (hk : Kept W W1 S) (hne : ¬ S g) : IsS83 w0 W1 g f0 := by
  obtain ⟨hb, hg⟩ := h
  exact ⟨blk_kept hb hk hne, hg⟩
theorem IsS83.below {w0 W : World} {g : Nat} {f0 : Int} {W1 : World} (h : IsS83 w0 W g f0) (hw : Below W.heap.size W W1) : IsS83 w0 W1 g f0 := h.grown (grown_of_below hw none) (by simp)
theorem IsS83.alloc {w0 W : World} {g : Nat} {f0 : Int} (h : IsS83 w0 W g f0) (o : Obj) : IsS83 w0 (W.alloc o) g f0 := h.below (qA (Below.refl _ _) o)
theorem IsS83.drewN {w0 W : World} {g : Nat} {f0 : Int} (h : IsS83 w0 W g f0) (m : Nat) : IsS83 w0 (W.drewN m) g f0 := h
theorem IsS83.drew {w0 W : World} {g : Nat} {f0 : Int} (h : IsS83 w0 W g f0) : IsS83 w0 W.drew g f0 := h
theorem IsS83.at_ {w0 W : World} {g : Nat} {f0 : Int} {w' : World} {m : Nat} (hq : W.drewN m = w') (h : IsS83 w0 W g f0) : IsS83 w0 w' g f0 := by subst hq; exact IsS83.drewN h m
theorem IsS83.apart {w0 W : World} {g : Nat} {f0 : Int} {α : Type} {d : Kd α} {e : Nat} {base : Nat} {ok : Nat → Prop} {v : Value} {xs : List α} (h : IsS83 w0 W g f0) (ho : d.R e W base ok v xs) (ht : ∀ q, q ∈ e :: d.E → q ≠ 83) : d.R e W base (fun k => ok k ∧ k ≠ g) v xs := by
  obtain ⟨hb, hg⟩ := h
  exact Kd.R_types ho hb ht
theorem IsS83.own_ne {w0 W : World} {g : Nat} {f0 : Int} {α : Type} {d : Kd α} {e : Nat} {base : Nat} {ok : Nat → Prop} {v : Value} {xs : List α} (h : IsS83 w0 W g f0) (ho : d.R e W base ok v xs) (ht : e ≠ 83) : some g ≠ v.ownBlock := by
  obtain ⟨hb, hg⟩ := h
  exact Kd.R_ne ho hb ht
theorem IsS83.apartQ {w0 W : World} {g : Nat} {f0 : Int} {α : Type} {d : Kd α} {e : Nat} {base : Nat} {ok : Nat → Prop} {v : Value} {xs : List α} (h : IsS83 w0 W g f0) (ho : d.Q e W base ok v xs) (ht : ∀ q, q ∈ e :: d.E → q ≠ 83) : d.Q e W base (fun k => ok k ∧ k ≠ g) v xs := by
  obtain ⟨hb, hg⟩ := h
  exact Kd.Q_types ho hb ht
theorem IsS83.own_neQ {w0 W : World} {g : Nat} {f0 : Int} {α : Type} {d : Kd α} {e : Nat} {base : Nat} {ok : Nat → Prop} {v : Value} {xs : List α} (h : IsS83 w0 W g f0) (ho : d.Q e W base ok v xs) (ht : e ≠ 83) : some g ≠ v.ownBlock := by
  obtain ⟨hb, hg⟩ := h
  exact Kd.Q_ne ho hb ht
theorem IsS83.apartS {w0 W : World} {g : Nat} {f0 : Int} {α : Type} {d : Kd α} {e : Nat} {base : Nat} {ok : Nat → Prop} {v : Value} {xs : List α} (h : IsS83 w0 W g f0) (ho : d.S e W base ok v xs) (ht : ∀ q, q ∈ e :: d.E → q ≠ 83) : d.S e W base (fun k => ok k ∧ k ≠ g) v xs := by
  obtain ⟨hb, hg⟩ := h
  exact Kd.S_types ho hb ht
theorem IsS83.own_neS {w0 W : World} {g : Nat} {f0 : Int} {α : Type} {d : Kd α} {e : Nat} {base : Nat} {ok : Nat → Prop} {v : Value} {xs : List α} (h : IsS83 w0 W g f0) (ho : d.S e W base ok v xs) (ht : e ≠ 83) : some g ≠ v.ownBlock := by
  obtain ⟨hb, hg⟩ := h
  exact Kd.S_ne ho hb ht
theorem IsS83.lt {w0 W : World} {g : Nat} {f0 : Int} (h : IsS83 w0 W g f0) : g < W.heap.size := by
  obtain ⟨hb, hg⟩ := h
  exact blk_lt hb
theorem IsS83.ge {w0 W : World} {g : Nat} {f0 : Int} (h : IsS83 w0 W g f0) : w0.heap.size ≤ g := by
  obtain ⟨hb, hg⟩ := h
  exact hg
theorem IsS83.ne_blk {w0 W : World} {g : Nat} {f0 : Int} {a : Nat} {cs : Array Value} {t : TypeId} {fr : Nat × Nat} (h : IsS83 w0 W g f0) (hb2 : W.heap[a]? = some (.cells cs t fr)) (ht : t ≠ 83) : g ≠ a := by
  obtain ⟨hb, hg⟩ := h
  rintro rfl
  rw [hb] at hb2
  injection hb2 with hb2
  injection hb2 with _ ht2
  exact ht ht2.symm
theorem IsS83.far {w0 W : World} {g : Nat} {f0 : Int} {p : Addr} (h : IsS83 w0 W g f0) (hne : g ≠ p.block) (u : Value) : IsS83 w0 (W.setCell p u) g f0 := by
  obtain ⟨hb, hg⟩ := h
  exact ⟨blk_far hb hne u, hg⟩
theorem cellS83_0 {W : World} {g : Nat} {f0 : Int} (h : W.heap[g]? = some (.cells #[.int .u64 f0] 83 (0, 0))) : W.cell? ⟨g, 0, none⟩ = some (.int .u64 f0) := (blk_cell h 0).trans rfl
theorem IsS83.set_0 {w0 W : World} {g : Nat} {f0 : Int} (h : IsS83 w0 W g f0) (x : Int) : IsS83 w0 (W.setCell ⟨g, 0, none⟩ (.int .u64 x)) g x := by
  obtain ⟨hb, hg⟩ := h
  exact ⟨by simpa using blk_set hb 0 (.int .u64 x), hg⟩
theorem IsS83.new (w0 W : World) (f0 : Int) (hB : Below w0.heap.size w0 W) : IsS83 w0 (W.alloc (.cells #[.int .u64 f0] 83)) W.heap.size f0 := ⟨by simpa using heap_alloc_new W _, hB.size⟩

/-! ### thermionkit_Dice_next: function 65 -/
def thermionkit_Dice_next.f (s0_0 : Int) : Option (Int × Int) := some (Go.bits .xor .u64 (IntKind.u64.wrap ((Go.bits .xor .u64 (IntKind.u64.wrap ((Go.bits .xor .u64 (IntKind.u64.wrap (s0_0 + 11400714819323198485)) ((IntKind.u64.wrap (s0_0 + 11400714819323198485)) / 1073741824)) * 13787848793156543929)) ((IntKind.u64.wrap ((Go.bits .xor .u64 (IntKind.u64.wrap (s0_0 + 11400714819323198485)) ((IntKind.u64.wrap (s0_0 + 11400714819323198485)) / 1073741824)) * 13787848793156543929)) / 134217728)) * 10723151780598845931)) ((IntKind.u64.wrap ((Go.bits .xor .u64 (IntKind.u64.wrap ((Go.bits .xor .u64 (IntKind.u64.wrap (s0_0 + 11400714819323198485)) ((IntKind.u64.wrap (s0_0 + 11400714819323198485)) / 1073741824)) * 13787848793156543929)) ((IntKind.u64.wrap ((Go.bits .xor .u64 (IntKind.u64.wrap (s0_0 + 11400714819323198485)) ((IntKind.u64.wrap (s0_0 + 11400714819323198485)) / 1073741824)) * 13787848793156543929)) / 134217728)) * 10723151780598845931)) / 2147483648), IntKind.u64.wrap (s0_0 + 11400714819323198485))
set_option maxHeartbeats 8000000 in
set_option maxRecDepth 100000 in
theorem thermionkit_Dice_next.calls (g : Nat) (s0_0 : Int) (r1 : Int) (r2 : Int) (w0 w : World) (hI : IsS83 w0 w g s0_0) (hB : Below w0.heap.size w0 w) (h : thermionkit_Dice_next.f s0_0 = some (r1, r2)) :
    Calls Try.prog 65 #[.pointer (some ⟨g, 0, none⟩)] w fun e w' => e = .returned (.int .u64 r1) ∧ IsS83 w0 w' g r2 ∧ Below w0.heap.size w0 w' ∧ KeepBut w w' g none := by
  have HI0 := Aside0.mk hI
  have HK := Aside0.mk (KeepBut.refl w g none)
  have HL := Aside0.mk hB.size
  clear hI
  have HW0 := Aside0.mk hB.size
  have HB := Aside0.mk hB
  clear hB
  have H : (some (Go.bits .xor .u64 (IntKind.u64.wrap ((Go.bits .xor .u64 (IntKind.u64.wrap ((Go.bits .xor .u64 (IntKind.u64.wrap (s0_0 + 11400714819323198485)) ((IntKind.u64.wrap (s0_0 + 11400714819323198485)) / 1073741824)) * 13787848793156543929)) ((IntKind.u64.wrap ((Go.bits .xor .u64 (IntKind.u64.wrap (s0_0 + 11400714819323198485)) ((IntKind.u64.wrap (s0_0 + 11400714819323198485)) / 1073741824)) * 13787848793156543929)) / 134217728)) * 10723151780598845931)) ((IntKind.u64.wrap ((Go.bits .xor .u64 (IntKind.u64.wrap ((Go.bits .xor .u64 (IntKind.u64.wrap (s0_0 + 11400714819323198485)) ((IntKind.u64.wrap (s0_0 + 11400714819323198485)) / 1073741824)) * 13787848793156543929)) ((IntKind.u64.wrap ((Go.bits .xor .u64 (IntKind.u64.wrap (s0_0 + 11400714819323198485)) ((IntKind.u64.wrap (s0_0 + 11400714819323198485)) / 1073741824)) * 13787848793156543929)) / 134217728)) * 10723151780598845931)) / 2147483648), IntKind.u64.wrap (s0_0 + 11400714819323198485))) = some (r1, r2) := h
  clear h
  simp only [Option.some.injEq, Prod.mk.injEq] at H
  obtain ⟨rfl, rfl⟩ := H
  obtain ⟨HGz2, hgz2⟩ := HI0.out
  have hcz2_0 := cellS83_0 HGz2
  have hfz2_0 := blk_frozen HGz2 0
  clear HGz2 hgz2
  go_enter Try.func65, Try.ntmps65
  go_wp2
  go_ret
  exact ⟨by first | rfl | (simp [errW_none, errW_some] <;> rfl) | (simp [*, errW_none, errW_some] <;> rfl), by repeat (first | (with_reducible first | exact HI0.out | apply IsS83.alloc | apply IsS83.drewN | apply IsS83.drew | apply IsS83.set_0) | exact HI0.out), by repeat (first | (with_reducible first | exact HB.out | apply qA | apply qN | apply qD | refine below_set ?_ (IsS83.ge HI0.out)) | exact HB.out), by repeat (first | (with_reducible first | exact HK.out | apply KeepBut.set_ | apply keep_drewN | apply keep_drew | apply keep_alloc) | exact HK.out)⟩

end Go.Proofs.Ytbomgfbfnkfamaa.PAll
end
section
namespace Go.Proofs.Ytbomgfbfnkfamaa.PAll
open Go.RowKit Go.Proofs.YtbomgfbfnkfamaaW.PrintWords Go.Proofs.YtbomgfbfnkfamaaW.PrintLast Go.Proofs.YtbomgfbfnkfamaaW.PrintMore
attribute [local go_sem] max2_int min2_int max_two min_two max_three min_three max_four min_four   -- for this text's walks alone
set_option linter.unusedVariables false
set_option linter.unusedSimpArgs false

/-! ### thermionkit_NewDice: function 18 -/
def diceFold : List Int → Int → Option Int
  | [], s => some s
  | x :: t, s => (thermionkit_Dice_next.f (Go.bits .xor .u64 s (IntKind.u64.wrap x))).bind fun b => diceFold t b.2
def thermionkit_NewDice.f (l0 : List Int) : Option (Int) := diceFold l0 ((l0.length : Int) + 1374496523)
/-- What changed a block that is new alone leaves what was. -/
theorem nd_below {w w0 w2 w3 : World} {g : Nat} (h : Below w.heap.size w w2) (h3 : Below w0.heap.size w0 w3) (h2 : Below w0.heap.size w0 w2) (hk : KeepBut w2 w3 g none) (hg : w.heap.size ≤ g) : Below w.heap.size w w3 :=
  ⟨h3.os.trans (h2.os.symm.trans h.os), h3.tape.trans (h2.tape.symm.trans h.tape), h3.output.trans (h2.output.symm.trans h.output), Nat.le_trans h.size hk.1, fun i hi => (hk.2 i (Nat.lt_of_lt_of_le hi h.size) (by omega) (by simp)).trans (h.block i hi)⟩
set_option maxHeartbeats 8000000 in
set_option maxRecDepth 100000 in
theorem thermionkit_NewDice.calls (A0 : Option Addr) (c0 : Nat) (l0 : List Int) (r : Int) (w0 w : World) (hB : Below w0.heap.size w0 w) (hr0 : Kd.C (Kd.int .i64) w0 A0 l0.length l0) (hc0 : l0.length ≤ c0) (h : thermionkit_NewDice.f l0 = some r) :
    Calls Try.prog 18 #[.slice A0 l0.length c0] w fun e w' => ∃ g_ : Nat, e = .returned (.pointer (some ⟨g_, 0, none⟩)) ∧ IsS83 w0 w' g_ r ∧ Below w0.heap.size w0 w' ∧ Below w.heap.size w w' := by
  unfold thermionkit_NewDice.f at h
  have m0 : l0.length ≤ 9223372036854775807 := hr0.2.1
  have HR0 := Aside0.mk hr0
  have HB := Aside0.mk hB
  have hsz := hB.size
  clear hr0 hB
  have HF := Aside0.mk h
  clear h
  go_enter Try.func18, Try.ntmps18
  go_wp2_with fail
  go_loopw [4, 31] (fun i _ wr => ∃ (k : Nat) (s : Int), k ≤ l0.length ∧ i = .int .i64 k ∧ Aside0 (diceFold (l0.drop k) s = some r) ∧ Aside0 (IsS83 w0 wr w.heap.size s) ∧ Aside0 (Below w0.heap.size w0 wr) ∧ Aside0 (Below w.heap.size w wr)) (fun i _ _ => l0.length - (intOf i).toNat)
  case atStart => exact ⟨0, _, Nat.zero_le _, rfl, HF, ⟨IsS83.new w0 w _ HB.out⟩, ⟨HB.out.alloc hsz _⟩, ⟨qA (Below.refl _ _) _⟩⟩
  case round =>
    obtain ⟨k, s, hk, rfl, hs, hI, hB0, hBw⟩ := hrel
    by_cases hlt : k < l0.length
    · obtain ⟨ad, hA, hcell⟩ := Kd.at_int HR0.out (k : Int) (by omega) (by omega)
      have hcell' : wr.drew.cell? (ad.add k) = some (.int .i64 (l0.getD k 0)) := pw_cell_below hB0.out hcell
      clear hcell
      subst hA
      have hd : l0.drop k = l0.getD k 0 :: l0.drop (k + 1) := by
        rw [List.getD_eq_getElem?_getD, List.getElem?_eq_getElem hlt]; exact List.drop_eq_getElem_cons hlt
      have hs2 := hs.out
      rw [hd, diceFold] at hs2
      obtain ⟨b, hb1, hb2⟩ := Option.bind_eq_some_iff.mp hs2
      obtain ⟨b1, b2⟩ := b
      have HN := Aside0.mk hb1
      have HM := Aside0.mk hb2
      clear hs2 hs hb1 hb2 hd HF
      generalize l0.getD k 0 = v at *
      obtain ⟨hblk, hge⟩ := hI.out
      have hc0' : wr.drew.cell? ⟨w.heap.size, 0, none⟩ = some (.int .u64 s) := (blk_cell hblk 0).trans rfl
      have hf0' : wr.drew.frozen? ⟨w.heap.size, 0, none⟩ = false := blk_frozen hblk 0
      have hk0 : (0 : Int) ≤ k := by omega
      have hk1 : (k : Int) < l0.length := by omega
      have HI := Aside0.mk (IsS83.drew hI.out)
      have HB0 := Aside0.mk (below_drew hB0.out)
      have HBw := Aside0.mk (below_drew hBw.out)
      clear hI hB0 hBw hblk hge
      go_wp2_with fail
      go_still_tail 13, (by kernel_rfl)
      change wpList _ _ _ _ _ wr.drew
      generalize wr.drew = w2 at *
      go_wp2_with (go_at_call 65; go_loud (refine (thermionkit_Dice_next.calls w.heap.size _ _ _ w0 _ (IsS83.set_0 HI.out _) (below_set HB0.out (IsS83.ge HI.out)) HN.out).mono ?_); rintro e w3 ⟨rfl, hI3, hB3, hK3⟩; (have HI3 := Aside0.mk hI3); (have HB3 := Aside0.mk hB3); (have HBw3 := Aside0.mk (nd_below (below_set HBw.out (Nat.le_refl _)) hB3 (below_set HB0.out (IsS83.ge HI.out)) hK3 (Nat.le_refl _))); clear hI3 hB3 hK3)
      go_roundw
      case rel => exact ⟨k + 1, b2, by omega, by go_num, HM, HI3, HB3, HBw3⟩
      case measure => simp [intOf]; omega
    · obtain rfl : k = l0.length := by omega
      have HX : Aside0 (s = r) := ⟨by have := hs.out; rw [List.drop_length, diceFold] at this; exact Option.some.inj this⟩
      clear hs
      go_wp2_with fail
      go_ret
      exact ⟨w.heap.size, rfl, HX.out ▸ hI.out, hB0.out, hBw.out⟩

end Go.Proofs.Ytbomgfbfnkfamaa.PAll
end
section
namespace Go.Proofs.Ytbomgfbfnkfamaa.PAll
open Go.RowKit Go.Proofs.YtbomgfbfnkfamaaW.PrintWords Go.Proofs.YtbomgfbfnkfamaaW.PrintLast Go.Proofs.YtbomgfbfnkfamaaW.PrintMore
attribute [local go_sem] max2_int min2_int max_two min_two max_three min_three max_four min_four   -- for this text's walks alone
set_option linter.unusedVariables false
set_option linter.unusedSimpArgs false

/-! ### thermionkit_Dice_Upto: function 21 -/
def thermionkit_Dice_Upto.f (s0_0 : Int) (a1 : Int) : Option (Int × Int) := (thermionkit_Dice_next.f s0_0).bind fun bt101 => (if a1 < 1 then (some (0, bt101.2)) else (if (IntKind.u64.wrap (a1)) = 0 then (none) else (some (wrap64 (Int.tmod bt101.1 (IntKind.u64.wrap (a1))), bt101.2))))
set_option maxHeartbeats 8000000 in
set_option maxRecDepth 100000 in
theorem thermionkit_Dice_Upto.calls (g : Nat) (s0_0 : Int) (a1 : Int) (r1 : Int) (r2 : Int) (w0 w : World) (hI : IsS83 w0 w g s0_0) (hB : Below w0.heap.size w0 w) (h : thermionkit_Dice_Upto.f s0_0 a1 = some (r1, r2)) :
    Calls Try.prog 21 #[.pointer (some ⟨g, 0, none⟩), .int .i64 a1] w fun e w' => e = .returned (.int .i64 r1) ∧ IsS83 w0 w' g r2 ∧ Below w0.heap.size w0 w' ∧ KeepBut w w' g none := by
  have HI0 := Aside0.mk hI
  have HK := Aside0.mk (KeepBut.refl w g none)
  have HL := Aside0.mk hB.size
  clear hI
  have HW0 := Aside0.mk hB.size
  have HB := Aside0.mk hB
  clear hB
  have H : ((thermionkit_Dice_next.f s0_0).bind fun bt101 => (if a1 < 1 then (some (0, bt101.2)) else (if (IntKind.u64.wrap (a1)) = 0 then (none) else (some (wrap64 (Int.tmod bt101.1 (IntKind.u64.wrap (a1))), bt101.2))))) = some (r1, r2) := h
  clear h
  replace H := Option.bind_eq_some_iff.mp H
  obtain ⟨⟨t101, t102⟩, A30, H⟩ := H
  replace H : (if a1 < 1 then (some (0, t102)) else (if (IntKind.u64.wrap (a1)) = 0 then (none) else (some (wrap64 (Int.tmod t101 (IntKind.u64.wrap (a1))), t102)))) = some (r1, r2) := H
  have A3 := Aside0.mk A30
  clear A30
  by_cases c4 : a1 < 1
  · rw [if_pos c4] at H
    have c4b0 : decide (a1 < 1) = true := decide_eq_true c4
    clear c4
    simp only [Option.some.injEq, Prod.mk.injEq] at H
    obtain ⟨rfl, rfl⟩ := H
    go_enter Try.func21, Try.ntmps21
    go_wp2_with (first | ((with_reducible refine gate_callee (f := 65) rfl ?_); refine goesL_ (some 7) rfl rfl Try.func65 (by kernel_rfl) rfl #[.pointer (some ⟨g, 0, none⟩)] rfl (by (try simp only [List.map_toArray, List.map_cons, List.map_nil]); first | done | rfl | (simp only [List.length_drop, List.length_take]; rfl)) ?_; (with_reducible refine (thermionkit_Dice_next.calls g s0_0 t101 t102 w0 _ ?side1 ?side2 A3.out).mono ?_); (case side1 => repeat (first | (with_reducible first | exact HI0.out | apply IsS83.alloc | apply IsS83.drewN | apply IsS83.drew | apply IsS83.set_0) | exact HI0.out)); (case side2 => repeat (first | (with_reducible first | exact HB.out | apply qA | apply qN | apply qD | refine below_set ?_ (IsS83.ge HI0.out)) | exact HB.out)); rintro e w5 ⟨rfl, hi, hb, hk⟩; refine ⟨_, rfl, ?_⟩; have n0_ := Aside0.mk (KeepBut.trans (by repeat (first | (with_reducible first | exact HK.out | apply KeepBut.set_ | apply keep_drewN | apply keep_drew | apply keep_alloc) | exact HK.out)) hk (.inl rfl)); have n1_ := Aside0.mk (hb); have n2_ := Aside0.mk (hi); clear HK; clear HB; clear HI0; have HK := n0_; have HB := n1_; have HI0 := n2_; clear n0_ n1_ n2_; (try clear hb); (try clear hb2); (try clear hk); (try clear hi)))
    go_ret
    exact ⟨by first | rfl | (simp [errW_none, errW_some] <;> rfl) | (simp [*, errW_none, errW_some] <;> rfl), by repeat (first | (with_reducible first | exact HI0.out | apply IsS83.alloc | apply IsS83.drewN | apply IsS83.drew | apply IsS83.set_0) | exact HI0.out), by repeat (first | (with_reducible first | exact HB.out | apply qA | apply qN | apply qD | refine below_set ?_ (IsS83.ge HI0.out)) | exact HB.out), by repeat (first | (with_reducible first | exact HK.out | apply KeepBut.set_ | apply keep_drewN | apply keep_drew | apply keep_alloc) | exact HK.out)⟩
  · rw [if_neg c4] at H
    have c4b0 : decide (a1 < 1) = false := decide_eq_false c4
    clear c4
    by_cases c6 : (IntKind.u64.wrap (a1)) = 0
    · rw [if_pos c6] at H
      exact absurd H (by simp)
    · rw [if_neg c6] at H
      have c6b0 : ((IntKind.u64.wrap (a1)) == 0) = false := beq_eq_false_iff_ne.mpr c6
      have c6b1 : ((IntKind.u64.wrap (a1)) != 0) = true := bne_iff_ne.mpr c6
      simp only [Option.some.injEq, Prod.mk.injEq] at H
      obtain ⟨rfl, rfl⟩ := H
      go_enter Try.func21, Try.ntmps21
      go_wp2_with (first | ((with_reducible refine gate_callee (f := 65) rfl ?_); refine goesL_ (some 7) rfl rfl Try.func65 (by kernel_rfl) rfl #[.pointer (some ⟨g, 0, none⟩)] rfl (by (try simp only [List.map_toArray, List.map_cons, List.map_nil]); first | done | rfl | (simp only [List.length_drop, List.length_take]; rfl)) ?_; (with_reducible refine (thermionkit_Dice_next.calls g s0_0 t101 t102 w0 _ ?side1 ?side2 A3.out).mono ?_); (case side1 => repeat (first | (with_reducible first | exact HI0.out | apply IsS83.alloc | apply IsS83.drewN | apply IsS83.drew | apply IsS83.set_0) | exact HI0.out)); (case side2 => repeat (first | (with_reducible first | exact HB.out | apply qA | apply qN | apply qD | refine below_set ?_ (IsS83.ge HI0.out)) | exact HB.out)); rintro e w7 ⟨rfl, hi, hb, hk⟩; refine ⟨_, rfl, ?_⟩; have n0_ := Aside0.mk (KeepBut.trans (by repeat (first | (with_reducible first | exact HK.out | apply KeepBut.set_ | apply keep_drewN | apply keep_drew | apply keep_alloc) | exact HK.out)) hk (.inl rfl)); have n1_ := Aside0.mk (hb); have n2_ := Aside0.mk (hi); clear HK; clear HB; clear HI0; have HK := n0_; have HB := n1_; have HI0 := n2_; clear n0_ n1_ n2_; (try clear hb); (try clear hb2); (try clear hk); (try clear hi)))
      go_ret
      exact ⟨by first | rfl | (simp [errW_none, errW_some] <;> rfl) | (simp [*, errW_none, errW_some] <;> rfl), by repeat (first | (with_reducible first | exact HI0.out | apply IsS83.alloc | apply IsS83.drewN | apply IsS83.drew | apply IsS83.set_0) | exact HI0.out), by repeat (first | (with_reducible first | exact HB.out | apply qA | apply qN | apply qD | refine below_set ?_ (IsS83.ge HI0.out)) | exact HB.out), by repeat (first | (with_reducible first | exact HK.out | apply KeepBut.set_ | apply keep_drewN | apply keep_drew | apply keep_alloc) | exact HK.out)⟩

end Go.Proofs.Ytbomgfbfnkfamaa.PAll
end
section
namespace Go.Proofs.Ytbomgfbfnkfamaa.PAll
open Go.RowKit Go.Proofs.YtbomgfbfnkfamaaW.PrintWords Go.Proofs.YtbomgfbfnkfamaaW.PrintLast Go.Proofs.YtbomgfbfnkfamaaW.PrintMore
attribute [local go_sem] max2_int min2_int max_two min_two max_three min_three max_four min_four   -- for this text's walks alone
set_option linter.unusedVariables false
set_option linter.unusedSimpArgs false

/-! ### thermionkit_Dice_Between: function 20 -/
def thermionkit_Dice_Between.f (s0_0 : Int) (a1 : Int) (a2 : Int) : Option (Int × Int) := (thermionkit_Dice_Upto.f s0_0 (wrap64 ((wrap64 (a2 - a1)) + 1))).bind fun bt101 => (some (wrap64 (a1 + bt101.1), bt101.2))
set_option maxHeartbeats 8000000 in
set_option maxRecDepth 100000 in
theorem thermionkit_Dice_Between.calls (g : Nat) (s0_0 : Int) (a1 : Int) (a2 : Int) (r1 : Int) (r2 : Int) (w0 w : World) (hI : IsS83 w0 w g s0_0) (hB : Below w0.heap.size w0 w) (h : thermionkit_Dice_Between.f s0_0 a1 a2 = some (r1, r2)) :
    Calls Try.prog 20 #[.pointer (some ⟨g, 0, none⟩), .int .i64 a1, .int .i64 a2] w fun e w' => e = .returned (.int .i64 r1) ∧ IsS83 w0 w' g r2 ∧ Below w0.heap.size w0 w' ∧ KeepBut w w' g none := by
  have HI0 := Aside0.mk hI
  have HK := Aside0.mk (KeepBut.refl w g none)
  have HL := Aside0.mk hB.size
  clear hI
  have HW0 := Aside0.mk hB.size
  have HB := Aside0.mk hB
  clear hB
  have H : ((thermionkit_Dice_Upto.f s0_0 (wrap64 ((wrap64 (a2 - a1)) + 1))).bind fun bt101 => (some (wrap64 (a1 + bt101.1), bt101.2))) = some (r1, r2) := h
  clear h
  replace H := Option.bind_eq_some_iff.mp H
  obtain ⟨⟨t101, t102⟩, A40, H⟩ := H
  replace H : (some (wrap64 (a1 + t101), t102)) = some (r1, r2) := H
  have A4 := Aside0.mk A40
  clear A40
  simp only [Option.some.injEq, Prod.mk.injEq] at H
  obtain ⟨rfl, rfl⟩ := H
  go_enter Try.func20, Try.ntmps20
  go_wp2_with (first | ((with_reducible refine gate_callee (f := 21) rfl ?_); refine goesL_ (some 13) rfl rfl Try.func21 (by kernel_rfl) rfl #[.pointer (some ⟨g, 0, none⟩), .int .i64 (wrap64 ((wrap64 (a2 - a1)) + 1))] rfl (by (try simp only [List.map_toArray, List.map_cons, List.map_nil]); first | done | rfl | (simp only [List.length_drop, List.length_take]; rfl)) ?_; (with_reducible refine (thermionkit_Dice_Upto.calls g s0_0 (wrap64 ((wrap64 (a2 - a1)) + 1)) t101 t102 w0 _ ?side1 ?side2 A4.out).mono ?_); (case side1 => repeat (first | (with_reducible first | exact HI0.out | apply IsS83.alloc | apply IsS83.drewN | apply IsS83.drew | apply IsS83.set_0) | exact HI0.out)); (case side2 => repeat (first | (with_reducible first | exact HB.out | apply qA | apply qN | apply qD | refine below_set ?_ (IsS83.ge HI0.out)) | exact HB.out)); rintro e w5 ⟨rfl, hi, hb, hk⟩; refine ⟨_, rfl, ?_⟩; have n0_ := Aside0.mk (KeepBut.trans (by repeat (first | (with_reducible first | exact HK.out | apply KeepBut.set_ | apply keep_drewN | apply keep_drew | apply keep_alloc) | exact HK.out)) hk (.inl rfl)); have n1_ := Aside0.mk (hb); have n2_ := Aside0.mk (hi); clear HK; clear HB; clear HI0; have HK := n0_; have HB := n1_; have HI0 := n2_; clear n0_ n1_ n2_; (try clear hb); (try clear hb2); (try clear hk); (try clear hi)))
  go_ret
  exact ⟨by first | rfl | (simp [errW_none, errW_some] <;> rfl) | (simp [*, errW_none, errW_some] <;> rfl), by repeat (first | (with_reducible first | exact HI0.out | apply IsS83.alloc | apply IsS83.drewN | apply IsS83.drew | apply IsS83.set_0) | exact HI0.out), by repeat (first | (with_reducible first | exact HB.out | apply qA | apply qN | apply qD | refine below_set ?_ (IsS83.ge HI0.out)) | exact HB.out), by repeat (first | (with_reducible first | exact HK.out | apply KeepBut.set_ | apply keep_drewN | apply keep_drew | apply keep_alloc) | exact HK.out)⟩

end Go.Proofs.Ytbomgfbfnkfamaa.PAll
end
section
namespace Go.Proofs.Ytbomgfbfnkfamaa.PAll
open Go.RowKit Go.Proofs.YtbomgfbfnkfamaaW.PrintWords Go.Proofs.YtbomgfbfnkfamaaW.PrintLast Go.Proofs.YtbomgfbfnkfamaaW.PrintMore
attribute [local go_sem] max2_int min2_int max_two min_two max_three min_three max_four min_four   -- for this text's walks alone
set_option linter.unusedVariables false
set_option linter.unusedSimpArgs false

/-! ### thermionkit_Dice_One: function 50 -/
def thermionkit_Dice_One.f (s0_0 : Int) (a1 : Int) : Option (Bool × Int) := (thermionkit_Dice_Upto.f s0_0 a1).bind fun bt101 => (some ((bt101.1 == 0), bt101.2))
set_option maxHeartbeats 8000000 in
set_option maxRecDepth 100000 in
theorem thermionkit_Dice_One.calls (g : Nat) (s0_0 : Int) (a1 : Int) (r1 : Bool) (r2 : Int) (w0 w : World) (hI : IsS83 w0 w g s0_0) (hB : Below w0.heap.size w0 w) (h : thermionkit_Dice_One.f s0_0 a1 = some (r1, r2)) :
    Calls Try.prog 50 #[.pointer (some ⟨g, 0, none⟩), .int .i64 a1] w fun e w' => e = .returned (.bool r1) ∧ IsS83 w0 w' g r2 ∧ Below w0.heap.size w0 w' ∧ KeepBut w w' g none := by
  have HI0 := Aside0.mk hI
  have HK := Aside0.mk (KeepBut.refl w g none)
  have HL := Aside0.mk hB.size
  clear hI
  have HW0 := Aside0.mk hB.size
  have HB := Aside0.mk hB
  clear hB
  have H : ((thermionkit_Dice_Upto.f s0_0 a1).bind fun bt101 => (some ((bt101.1 == 0), bt101.2))) = some (r1, r2) := h
  clear h
  replace H := Option.bind_eq_some_iff.mp H
  obtain ⟨⟨t101, t102⟩, A30, H⟩ := H
  replace H : (some ((t101 == 0), t102)) = some (r1, r2) := H
  have A3 := Aside0.mk A30
  clear A30
  simp only [Option.some.injEq, Prod.mk.injEq] at H
  obtain ⟨rfl, rfl⟩ := H
  go_enter Try.func50, Try.ntmps50
  go_wp2_with (first | ((with_reducible refine gate_callee (f := 21) rfl ?_); refine goesL_ (some 7) rfl rfl Try.func21 (by kernel_rfl) rfl #[.pointer (some ⟨g, 0, none⟩), .int .i64 a1] rfl (by (try simp only [List.map_toArray, List.map_cons, List.map_nil]); first | done | rfl | (simp only [List.length_drop, List.length_take]; rfl)) ?_; (with_reducible refine (thermionkit_Dice_Upto.calls g s0_0 a1 t101 t102 w0 _ ?side1 ?side2 A3.out).mono ?_); (case side1 => repeat (first | (with_reducible first | exact HI0.out | apply IsS83.alloc | apply IsS83.drewN | apply IsS83.drew | apply IsS83.set_0) | exact HI0.out)); (case side2 => repeat (first | (with_reducible first | exact HB.out | apply qA | apply qN | apply qD | refine below_set ?_ (IsS83.ge HI0.out)) | exact HB.out)); rintro e w4 ⟨rfl, hi, hb, hk⟩; refine ⟨_, rfl, ?_⟩; have n0_ := Aside0.mk (KeepBut.trans (by repeat (first | (with_reducible first | exact HK.out | apply KeepBut.set_ | apply keep_drewN | apply keep_drew | apply keep_alloc) | exact HK.out)) hk (.inl rfl)); have n1_ := Aside0.mk (hb); have n2_ := Aside0.mk (hi); clear HK; clear HB; clear HI0; have HK := n0_; have HB := n1_; have HI0 := n2_; clear n0_ n1_ n2_; (try clear hb); (try clear hb2); (try clear hk); (try clear hi)))
  go_ret
  exact ⟨by first | rfl | (simp [errW_none, errW_some] <;> rfl) | (simp [*, errW_none, errW_some] <;> rfl), by repeat (first | (with_reducible first | exact HI0.out | apply IsS83.alloc | apply IsS83.drewN | apply IsS83.drew | apply IsS83.set_0) | exact HI0.out), by repeat (first | (with_reducible first | exact HB.out | apply qA | apply qN | apply qD | refine below_set ?_ (IsS83.ge HI0.out)) | exact HB.out), by repeat (first | (with_reducible first | exact HK.out | apply KeepBut.set_ | apply keep_drewN | apply keep_drew | apply keep_alloc) | exact HK.out)⟩

end Go.Proofs.Ytbomgfbfnkfamaa.PAll
end
section
namespace Go.Proofs.Ytbomgfbfnkfamaa.PAll
open Go.RowKit Go.Proofs.YtbomgfbfnkfamaaW.PrintWords Go.Proofs.YtbomgfbfnkfamaaW.PrintLast Go.Proofs.YtbomgfbfnkfamaaW.PrintMore
attribute [local go_sem] max2_int min2_int max_two min_two max_three min_three max_four min_four   -- for this text's walks alone
set_option linter.unusedVariables false
set_option linter.unusedSimpArgs false

/-! ### thermionkit_Dice_Range: function 78 -/
def thermionkit_Dice_Range.f (s0_0 : Int) (a1 : Int) (a2 : Int) : Option (Int × Int × Int) := (thermionkit_Dice_Between.f s0_0 a1 a2).bind fun bt102 => ((thermionkit_Dice_Between.f bt102.2 a1 a2).bind fun bt104 => (some (mn bt102.1 bt104.1, mx bt102.1 bt104.1, bt104.2)))
set_option maxHeartbeats 8000000 in
set_option maxRecDepth 100000 in
theorem thermionkit_Dice_Range.calls (g : Nat) (s0_0 : Int) (a1 : Int) (a2 : Int) (r1 : Int) (r2 : Int) (r3 : Int) (w0 w : World) (hI : IsS83 w0 w g s0_0) (hB : Below w0.heap.size w0 w) (h : thermionkit_Dice_Range.f s0_0 a1 a2 = some (r1, r2, r3)) :
    Calls Try.prog 78 #[.pointer (some ⟨g, 0, none⟩), .int .i64 a1, .int .i64 a2] w fun e w' => e = .returned (.agg #[.int .i64 r1, .int .i64 r2]) ∧ IsS83 w0 w' g r3 ∧ Below w0.heap.size w0 w' ∧ KeepBut w w' g none := by
  have hu35 := Try.underlying35
  have HI0 := Aside0.mk hI
  have HK := Aside0.mk (KeepBut.refl w g none)
  have HL := Aside0.mk hB.size
  clear hI
  have HW0 := Aside0.mk hB.size
  have HB := Aside0.mk hB
  clear hB
  have H : ((thermionkit_Dice_Between.f s0_0 a1 a2).bind fun bt102 => ((thermionkit_Dice_Between.f bt102.2 a1 a2).bind fun bt104 => (some (mn bt102.1 bt104.1, mx bt102.1 bt104.1, bt104.2)))) = some (r1, r2, r3) := h
  clear h
  replace H := Option.bind_eq_some_iff.mp H
  obtain ⟨⟨t102, t103⟩, A40, H⟩ := H
  replace H : ((thermionkit_Dice_Between.f t103 a1 a2).bind fun bt104 => (some (mn t102 bt104.1, mx t102 bt104.1, bt104.2))) = some (r1, r2, r3) := H
  have A4 := Aside0.mk A40
  clear A40
  replace H := Option.bind_eq_some_iff.mp H
  obtain ⟨⟨t104, t105⟩, A50, H⟩ := H
  replace H : (some (mn t102 t104, mx t102 t104, t105)) = some (r1, r2, r3) := H
  have A5 := Aside0.mk A50
  clear A50
  obtain ⟨ji6, hji6⟩ : ∃ j_ : Int, (mn t102 t104) = j_ := ⟨_, rfl⟩
  replace H : (some (ji6, mx t102 t104, t105)) = some (r1, r2, r3) := by first | (rw [hji6] at H; exact H) | (simp only [hji6] at H ⊢; exact H)
  (try rw [hji6] at A4)
  (try rw [hji6] at A5)
  have hji6_ : (if t104 < t102 then t104 else t102) = ji6 := hji6
  obtain ⟨ji7, hji7⟩ : ∃ j_ : Int, (mx t102 t104) = j_ := ⟨_, rfl⟩
  replace H : (some (ji6, ji7, t105)) = some (r1, r2, r3) := by first | (rw [hji7] at H; exact H) | (simp only [hji7] at H ⊢; exact H)
  (try rw [hji7] at A4)
  (try rw [hji7] at A5)
  have hji7_ : (if t102 < t104 then t104 else t102) = ji7 := hji7
  simp only [Option.some.injEq, Prod.mk.injEq] at H
  obtain ⟨rfl, rfl, rfl⟩ := H
  go_enter Try.func78, Try.ntmps78
  go_wp2_with (first | ((with_reducible refine gate_dst (N := 6) rfl ?_); refine box_event ?hg (N := 6) ?hd (cs := #[.int .i64 0, .int .i64 0]) (t := 35) ?hr ?_; (case hd => rfl); (case hg => rfl); (case hr => first | (go_simp; done) | (go_simp; rfl)); intro gb101 hg w8 hbox hb; have n0_ := Aside0.mk (IsS83.below (by repeat (first | (with_reducible first | exact HI0.out | apply IsS83.alloc | apply IsS83.drewN | apply IsS83.drew | apply IsS83.set_0) | exact HI0.out)) hb); have n1_ := Aside0.mk (KeepBut.trans (by repeat (first | (with_reducible first | exact HK.out | apply KeepBut.set_ | apply keep_drewN | apply keep_drew | apply keep_alloc) | exact HK.out)) (KeepBut.of_below hb g none) (.inl rfl)); have n2_ := Aside0.mk (below_step (by repeat (first | (with_reducible first | exact HB.out | apply qA | apply qN | apply qD | refine below_set ?_ (IsS83.ge HI0.out)) | exact HB.out)) hb); have n3_ := Aside0.mk (hbox); have n4_ := Aside0.mk ((by rw [hg]; exact (keep_size (w := w) (g := g) (row := none) (by repeat (first | (with_reducible first | exact HK.out | apply KeepBut.set_ | apply keep_drewN | apply keep_drew | apply keep_alloc) | exact HK.out))) : w.heap.size ≤ gb101)); have n5_ := Aside0.mk ((Nat.le_trans HW0.out (by rw [hg]; exact (keep_size (w := w) (g := g) (row := none) (by repeat (first | (with_reducible first | exact HK.out | apply KeepBut.set_ | apply keep_drewN | apply keep_drew | apply keep_alloc) | exact HK.out))) : w.heap.size ≤ gb101) : w0.heap.size ≤ gb101)); have n6_ := Aside0.mk ((by rw [hg]; exact Nat.ne_of_lt (IsS83.lt (show IsS83 w0 _ g s0_0 from by repeat (first | (with_reducible first | exact HI0.out | apply IsS83.alloc | apply IsS83.drewN | apply IsS83.drew | apply IsS83.set_0) | exact HI0.out))) : g ≠ gb101)); have n7_ := Aside0.mk ((by rw [hg]; exact Nat.ne_of_gt (IsS83.lt (show IsS83 w0 _ g s0_0 from by repeat (first | (with_reducible first | exact HI0.out | apply IsS83.alloc | apply IsS83.drewN | apply IsS83.drew | apply IsS83.set_0) | exact HI0.out))) : gb101 ≠ g)); clear HI0; clear HK; clear HB; have HI0 := n0_; have HK := n1_; have HB := n2_; have BK101 := n3_; have GW101 := n4_; have GE101 := n5_; have NB0_101 := n6_; have NB101_0 := n7_; clear n0_ n1_ n2_ n3_ n4_ n5_ n6_ n7_; clear hb hbox hg) | ((with_reducible refine gate_callee (f := 20) rfl ?_); refine goesL_ (some 12) rfl rfl Try.func20 (by kernel_rfl) rfl #[.pointer (some ⟨g, 0, none⟩), .int .i64 a1, .int .i64 a2] rfl (by (try simp only [List.map_toArray, List.map_cons, List.map_nil]); first | done | rfl | (simp only [List.length_drop, List.length_take]; rfl)) ?_; (with_reducible refine (thermionkit_Dice_Between.calls g s0_0 a1 a2 t102 t103 w0 _ ?side1 ?side2 A4.out).mono ?_); (case side1 => repeat (first | (with_reducible first | exact HI0.out | apply IsS83.alloc | apply IsS83.drewN | apply IsS83.drew | apply IsS83.set_0 | refine IsS83.far ?_ NB0_101.out _) | exact HI0.out)); (case side2 => repeat (first | (with_reducible first | exact HB.out | apply qA | apply qN | apply qD | refine below_set ?_ (IsS83.ge HI0.out) | refine below_set ?_ GE101.out) | exact HB.out)); rintro e w9 ⟨rfl, hi, hb, hk⟩; refine ⟨_, rfl, ?_⟩; have n0_ := Aside0.mk (KeepBut.blk hk (g' := gb101) (o := .cells #[.int .i64 0, .int .i64 0] 35 (0, 0)) (by (with_reducible repeat (first | refine qn ?_ _ | refine qd ?_ | refine qa ?_ _)); exact BK101.out) NB101_0.out (by simp)); have n1_ := Aside0.mk (KeepBut.trans (by repeat (first | (with_reducible first | exact HK.out | apply KeepBut.set_ | apply keep_drewN | apply keep_drew | apply keep_alloc | refine keep_far ?_ GW101.out _) | exact HK.out)) hk (.inl rfl)); have n2_ := Aside0.mk (hb); have n3_ := Aside0.mk (hi); clear BK101; clear HK; clear HB; clear HI0; have BK101 := n0_; have HK := n1_; have HB := n2_; have HI0 := n3_; clear n0_ n1_ n2_ n3_; (try clear hb); (try clear hb2); (try clear hk); (try clear hi)) | ((with_reducible refine gate_callee (f := 20) rfl ?_); refine goesL_ (some 16) rfl rfl Try.func20 (by kernel_rfl) rfl #[.pointer (some ⟨g, 0, none⟩), .int .i64 a1, .int .i64 a2] rfl (by (try simp only [List.map_toArray, List.map_cons, List.map_nil]); first | done | rfl | (simp only [List.length_drop, List.length_take]; rfl)) ?_; (with_reducible refine (thermionkit_Dice_Between.calls g t103 a1 a2 t104 t105 w0 _ ?side1 ?side2 A5.out).mono ?_); (case side1 => repeat (first | (with_reducible first | exact HI0.out | apply IsS83.alloc | apply IsS83.drewN | apply IsS83.drew | apply IsS83.set_0 | refine IsS83.far ?_ NB0_101.out _) | exact HI0.out)); (case side2 => repeat (first | (with_reducible first | exact HB.out | apply qA | apply qN | apply qD | refine below_set ?_ (IsS83.ge HI0.out) | refine below_set ?_ GE101.out) | exact HB.out)); rintro e w10 ⟨rfl, hi, hb, hk⟩; refine ⟨_, rfl, ?_⟩; have n0_ := Aside0.mk (KeepBut.blk hk (g' := gb101) (o := .cells #[.int .i64 0, .int .i64 0] 35 (0, 0)) (by (with_reducible repeat (first | refine qn ?_ _ | refine qd ?_ | refine qa ?_ _)); exact BK101.out) NB101_0.out (by simp)); have n1_ := Aside0.mk (KeepBut.trans (by repeat (first | (with_reducible first | exact HK.out | apply KeepBut.set_ | apply keep_drewN | apply keep_drew | apply keep_alloc | refine keep_far ?_ GW101.out _) | exact HK.out)) hk (.inl rfl)); have n2_ := Aside0.mk (hb); have n3_ := Aside0.mk (hi); clear BK101; clear HK; clear HB; clear HI0; have BK101 := n0_; have HK := n1_; have HB := n2_; have HI0 := n3_; clear n0_ n1_ n2_ n3_; (try clear hb); (try clear hb2); (try clear hk); (try clear hi); have hnb11 := NB101_0.out; have hnc11 := NB0_101.out; have hcz12_0 : w10.cell? ⟨gb101, 0, none⟩ = some (.int .i64 0) := (blk_cell BK101.out 0).trans rfl; have hcz12_1 : w10.cell? ⟨gb101, 1, none⟩ = some (.int .i64 0) := (blk_cell BK101.out 1).trans rfl; have hfz12_0 := blk_frozen BK101.out 0; have hfz12_1 := blk_frozen BK101.out 1))
  refine bodyPost_ret (results_cell_row rfl _ _ gb101 35 #[.int .i64 ji6, .int .i64 ji7] (0, 0) _ rfl (by (with_reducible repeat (first | refine qn ?_ _ | refine qd ?_ | refine qa ?_ _)); refine blk_put (cs := #[.int .i64 ji6, .int .i64 0]) ?_ 1 _ rfl; (with_reducible repeat (first | refine qn ?_ _ | refine qd ?_ | refine qa ?_ _)); refine blk_put (cs := #[.int .i64 0, .int .i64 0]) ?_ 0 _ rfl; (with_reducible repeat (first | refine qn ?_ _ | refine qd ?_ | refine qa ?_ _)); exact BK101.out) Try.underlying35 rfl (by kernel_rfl)) rfl ?_
  exact ⟨by first | rfl | (simp [errW_none, errW_some] <;> rfl) | (simp only [← hji6, ← hji7]; first | rfl | (simp [errW_none, errW_some] <;> rfl)) | (simp [*, errW_none, errW_some] <;> rfl), by repeat (first | (with_reducible first | exact HI0.out | apply IsS83.alloc | apply IsS83.drewN | apply IsS83.drew | apply IsS83.set_0 | refine IsS83.far ?_ NB0_101.out _) | exact HI0.out), by repeat (first | (with_reducible first | exact HB.out | apply qA | apply qN | apply qD | refine below_set ?_ (IsS83.ge HI0.out) | refine below_set ?_ GE101.out) | exact HB.out), by repeat (first | (with_reducible first | exact HK.out | apply KeepBut.set_ | apply keep_drewN | apply keep_drew | apply keep_alloc | refine keep_far ?_ GW101.out _) | exact HK.out)⟩

end Go.Proofs.Ytbomgfbfnkfamaa.PAll
end
section
namespace Go.Proofs.Ytbomgfbfnkfamaa.PAll
open Go.RowKit Go.Proofs.YtbomgfbfnkfamaaW.PrintWords Go.Proofs.YtbomgfbfnkfamaaW.PrintLast Go.Proofs.YtbomgfbfnkfamaaW.PrintMore
attribute [local go_sem] max2_int min2_int max_two min_two max_three min_three max_four min_four   -- for this text's walks alone
set_option linter.unusedVariables false
set_option linter.unusedSimpArgs false

/-! ### thermionkit_LawOf: function 25 -/
mutual
def thermionkit_LawOf.j0 : Nat → Int → Int → Int → Int → Int → Int → Int → Int → Int → Int → Int → Option (Int × Int × Int × Int × Int × Int × Int × Int × Int × Int × Int)
  | 0, _, _, _, _, _, _, _, _, _, _, _ => none
  | k + 1, x1000, x118000, x118001, x118002, x118003, x118004, x118005, x118006, x118007, x118008, x118009 => (thermionkit_Dice_One.f x1000 2).bind fun bt120 => (if bt120.1 = true then (thermionkit_LawOf.j1 k bt120.2 x118000 x118001 x118002 x118003 x118004 x118005 x118006 x118007 1000000 1000000) else (thermionkit_LawOf.j1 k bt120.2 x118000 x118001 x118002 x118003 x118004 x118005 x118006 x118007 x118008 x118009))
def thermionkit_LawOf.j1 : Nat → Int → Int → Int → Int → Int → Int → Int → Int → Int → Int → Int → Option (Int × Int × Int × Int × Int × Int × Int × Int × Int × Int × Int)
  | 0, _, _, _, _, _, _, _, _, _, _, _ => none
  | k + 1, x1000, x118000, x118001, x118002, x118003, x118004, x118005, x118006, x118007, x118008, x118009 => (thermionkit_Dice_One.f x1000 8).bind fun bt122 => (if bt122.1 = true then ((thermionkit_Dice_Between.f bt122.2 1 400).bind fun bt124 => (some (x118000, x118001, 1, bt124.1, x118004, x118005, x118006, x118007, x118008, x118009, bt124.2))) else (some (x118000, x118001, x118002, x118003, x118004, x118005, x118006, x118007, x118008, x118009, bt122.2)))
end
def thermionkit_LawOf.f (k : Nat) (s0_0 : Int) : Option (Int × Int × Int × Int × Int × Int × Int × Int × Int × Int × Int) := (thermionkit_Dice_Range.f s0_0 1000 90000).bind fun bt102 => ((thermionkit_Dice_Range.f bt102.2.2 5000 60000).bind fun bt105 => ((thermionkit_Dice_Range.f bt105.2.2 (-800) 800).bind fun bt108 => ((thermionkit_Dice_Range.f bt108.2.2 2000 60000).bind fun bt111 => ((thermionkit_Dice_Range.f bt111.2.2 500000 1000000).bind fun bt114 => ((thermionkit_Dice_One.f bt114.2.2 3).bind fun bt118 => (if bt118.1 = true then (thermionkit_LawOf.j0 k bt118.2 bt102.1 bt102.2.1 bt105.1 bt105.2.1 bt108.1 bt108.2.1 1000000 1000000 bt114.1 bt114.2.1) else (thermionkit_LawOf.j0 k bt118.2 bt102.1 bt102.2.1 bt105.1 bt105.2.1 bt108.1 bt108.2.1 bt111.1 bt111.2.1 bt114.1 bt114.2.1)))))))
theorem thermionkit_LawOf.mono_l : ∀ k, (∀ y0 y1 y2 y3 y4 y5 y6 y7 y8 y9 y10, LeO (thermionkit_LawOf.j0 k y0 y1 y2 y3 y4 y5 y6 y7 y8 y9 y10) (thermionkit_LawOf.j0 (k + 1) y0 y1 y2 y3 y4 y5 y6 y7 y8 y9 y10)) ∧ (∀ y0 y1 y2 y3 y4 y5 y6 y7 y8 y9 y10, LeO (thermionkit_LawOf.j1 k y0 y1 y2 y3 y4 y5 y6 y7 y8 y9 y10) (thermionkit_LawOf.j1 (k + 1) y0 y1 y2 y3 y4 y5 y6 y7 y8 y9 y10))
  | 0 => ⟨fun _ _ _ _ _ _ _ _ _ _ _ r h => by simp [thermionkit_LawOf.j0] at h, fun _ _ _ _ _ _ _ _ _ _ _ r h => by simp [thermionkit_LawOf.j1] at h⟩
  | k + 1 => by
    obtain ⟨ih0, ih1⟩ := thermionkit_LawOf.mono_l k
    refine ⟨?_, ?_⟩
    · intro y0 y1 y2 y3 y4 y5 y6 y7 y8 y9 y10
      unfold thermionkit_LawOf.j0
      repeat' first
      | (with_reducible exact ih0 _ _ _ _ _ _ _ _ _ _ _)
      | (with_reducible exact ih1 _ _ _ _ _ _ _ _ _ _ _)
      | (with_reducible exact LeO.refl _)
      | (with_reducible exact LeO.none _)
      | (with_reducible refine LeO.ite ?_ ?_)
      | (with_reducible refine LeO.bind ?_ (fun _ => ?_))
      | exact ih0 _ _ _ _ _ _ _ _ _ _ _
      | exact ih1 _ _ _ _ _ _ _ _ _ _ _
      | exact LeO.none _
      | refine LeO.ite ?_ ?_
      | refine LeO.bind ?_ (fun _ => ?_)
    · intro y0 y1 y2 y3 y4 y5 y6 y7 y8 y9 y10
      unfold thermionkit_LawOf.j1
      repeat' first
      | (with_reducible exact ih0 _ _ _ _ _ _ _ _ _ _ _)
      | (with_reducible exact ih1 _ _ _ _ _ _ _ _ _ _ _)
      | (with_reducible exact LeO.refl _)
      | (with_reducible exact LeO.none _)
      | (with_reducible refine LeO.ite ?_ ?_)
      | (with_reducible refine LeO.bind ?_ (fun _ => ?_))
      | exact ih0 _ _ _ _ _ _ _ _ _ _ _
      | exact ih1 _ _ _ _ _ _ _ _ _ _ _
      | exact LeO.none _
      | refine LeO.ite ?_ ?_
      | refine LeO.bind ?_ (fun _ => ?_)
theorem thermionkit_LawOf.mono : ∀ a0 k, LeO (thermionkit_LawOf.f k a0) (thermionkit_LawOf.f (k + 1) a0) := by
  intro a0 k
  obtain ⟨ih0, ih1⟩ := thermionkit_LawOf.mono_l k
  unfold thermionkit_LawOf.f
  repeat' first
      | (with_reducible exact ih0 _ _ _ _ _ _ _ _ _ _ _)
      | (with_reducible exact ih1 _ _ _ _ _ _ _ _ _ _ _)
      | (with_reducible exact LeO.refl _)
      | (with_reducible exact LeO.none _)
      | (with_reducible refine LeO.ite ?_ ?_)
      | (with_reducible refine LeO.bind ?_ (fun _ => ?_))
      | exact ih0 _ _ _ _ _ _ _ _ _ _ _
      | exact ih1 _ _ _ _ _ _ _ _ _ _ _
      | exact LeO.none _
      | refine LeO.ite ?_ ?_
      | refine LeO.bind ?_ (fun _ => ?_)
set_option maxHeartbeats 8000000 in
set_option maxRecDepth 100000 in
theorem thermionkit_LawOf.calls (k : Nat) (g : Nat) (s0_0 : Int) (r1 : Int) (r2 : Int) (r3 : Int) (r4 : Int) (r5 : Int) (r6 : Int) (r7 : Int) (r8 : Int) (r9 : Int) (r10 : Int) (r11 : Int) (w0 w : World) (hI : IsS83 w0 w g s0_0) (hB : Below w0.heap.size w0 w) (h : thermionkit_LawOf.f k s0_0 = some (r1, r2, r3, r4, r5, r6, r7, r8, r9, r10, r11)) :
    Calls Try.prog 25 #[.pointer (some ⟨g, 0, none⟩)] w fun e w' => e = .returned (.agg #[.int .i64 r1, .int .i64 r2, .int .i64 r3, .int .i64 r4, .int .i64 r5, .int .i64 r6, .int .i64 r7, .int .i64 r8, .int .i64 r9, .int .i64 r10]) ∧ IsS83 w0 w' g r11 ∧ Below w0.heap.size w0 w' ∧ KeepBut w w' g none := by
  have hu42 := Try.underlying42
  have hu35 := Try.underlying35
  have HI0 := Aside0.mk hI
  have HK := Aside0.mk (KeepBut.refl w g none)
  have HL := Aside0.mk hB.size
  clear hI
  have HW0 := Aside0.mk hB.size
  have HB := Aside0.mk hB
  clear hB
  have H : ((thermionkit_Dice_Range.f s0_0 1000 90000).bind fun bt102 => ((thermionkit_Dice_Range.f bt102.2.2 5000 60000).bind fun bt105 => ((thermionkit_Dice_Range.f bt105.2.2 (-800) 800).bind fun bt108 => ((thermionkit_Dice_Range.f bt108.2.2 2000 60000).bind fun bt111 => ((thermionkit_Dice_Range.f bt111.2.2 500000 1000000).bind fun bt114 => ((thermionkit_Dice_One.f bt114.2.2 3).bind fun bt118 => (if bt118.1 = true then (thermionkit_LawOf.j0 k bt118.2 bt102.1 bt102.2.1 bt105.1 bt105.2.1 bt108.1 bt108.2.1 1000000 1000000 bt114.1 bt114.2.1) else (thermionkit_LawOf.j0 k bt118.2 bt102.1 bt102.2.1 bt105.1 bt105.2.1 bt108.1 bt108.2.1 bt111.1 bt111.2.1 bt114.1 bt114.2.1)))))))) = some (r1, r2, r3, r4, r5, r6, r7, r8, r9, r10, r11) := h
  clear h
  replace H := Option.bind_eq_some_iff.mp H
  obtain ⟨⟨t102, t103, t104⟩, A20, H⟩ := H
  replace H : ((thermionkit_Dice_Range.f t104 5000 60000).bind fun bt105 => ((thermionkit_Dice_Range.f bt105.2.2 (-800) 800).bind fun bt108 => ((thermionkit_Dice_Range.f bt108.2.2 2000 60000).bind fun bt111 => ((thermionkit_Dice_Range.f bt111.2.2 500000 1000000).bind fun bt114 => ((thermionkit_Dice_One.f bt114.2.2 3).bind fun bt118 => (if bt118.1 = true then (thermionkit_LawOf.j0 k bt118.2 t102 t103 bt105.1 bt105.2.1 bt108.1 bt108.2.1 1000000 1000000 bt114.1 bt114.2.1) else (thermionkit_LawOf.j0 k bt118.2 t102 t103 bt105.1 bt105.2.1 bt108.1 bt108.2.1 bt111.1 bt111.2.1 bt114.1 bt114.2.1))))))) = some (r1, r2, r3, r4, r5, r6, r7, r8, r9, r10, r11) := H
  have A2 := Aside0.mk A20
  clear A20
  replace H := Option.bind_eq_some_iff.mp H
  obtain ⟨⟨t105, t106, t107⟩, A30, H⟩ := H
  replace H : ((thermionkit_Dice_Range.f t107 (-800) 800).bind fun bt108 => ((thermionkit_Dice_Range.f bt108.2.2 2000 60000).bind fun bt111 => ((thermionkit_Dice_Range.f bt111.2.2 500000 1000000).bind fun bt114 => ((thermionkit_Dice_One.f bt114.2.2 3).bind fun bt118 => (if bt118.1 = true then (thermionkit_LawOf.j0 k bt118.2 t102 t103 t105 t106 bt108.1 bt108.2.1 1000000 1000000 bt114.1 bt114.2.1) else (thermionkit_LawOf.j0 k bt118.2 t102 t103 t105 t106 bt108.1 bt108.2.1 bt111.1 bt111.2.1 bt114.1 bt114.2.1)))))) = some (r1, r2, r3, r4, r5, r6, r7, r8, r9, r10, r11) := H
  have A3 := Aside0.mk A30
  clear A30
  replace H := Option.bind_eq_some_iff.mp H
  obtain ⟨⟨t108, t109, t110⟩, A40, H⟩ := H
  replace H : ((thermionkit_Dice_Range.f t110 2000 60000).bind fun bt111 => ((thermionkit_Dice_Range.f bt111.2.2 500000 1000000).bind fun bt114 => ((thermionkit_Dice_One.f bt114.2.2 3).bind fun bt118 => (if bt118.1 = true then (thermionkit_LawOf.j0 k bt118.2 t102 t103 t105 t106 t108 t109 1000000 1000000 bt114.1 bt114.2.1) else (thermionkit_LawOf.j0 k bt118.2 t102 t103 t105 t106 t108 t109 bt111.1 bt111.2.1 bt114.1 bt114.2.1))))) = some (r1, r2, r3, r4, r5, r6, r7, r8, r9, r10, r11) := H
  have A4 := Aside0.mk A40
  clear A40
  replace H := Option.bind_eq_some_iff.mp H
  obtain ⟨⟨t111, t112, t113⟩, A50, H⟩ := H
  replace H : ((thermionkit_Dice_Range.f t113 500000 1000000).bind fun bt114 => ((thermionkit_Dice_One.f bt114.2.2 3).bind fun bt118 => (if bt118.1 = true then (thermionkit_LawOf.j0 k bt118.2 t102 t103 t105 t106 t108 t109 1000000 1000000 bt114.1 bt114.2.1) else (thermionkit_LawOf.j0 k bt118.2 t102 t103 t105 t106 t108 t109 t111 t112 bt114.1 bt114.2.1)))) = some (r1, r2, r3, r4, r5, r6, r7, r8, r9, r10, r11) := H
  have A5 := Aside0.mk A50
  clear A50
  replace H := Option.bind_eq_some_iff.mp H
  obtain ⟨⟨t114, t115, t116⟩, A60, H⟩ := H
  replace H : ((thermionkit_Dice_One.f t116 3).bind fun bt118 => (if bt118.1 = true then (thermionkit_LawOf.j0 k bt118.2 t102 t103 t105 t106 t108 t109 1000000 1000000 t114 t115) else (thermionkit_LawOf.j0 k bt118.2 t102 t103 t105 t106 t108 t109 t111 t112 t114 t115))) = some (r1, r2, r3, r4, r5, r6, r7, r8, r9, r10, r11) := H
  have A6 := Aside0.mk A60
  clear A60
  replace H := Option.bind_eq_some_iff.mp H
  obtain ⟨⟨t118, t119⟩, A70, H⟩ := H
  replace H : (if t118 = true then (thermionkit_LawOf.j0 k t119 t102 t103 t105 t106 t108 t109 1000000 1000000 t114 t115) else (thermionkit_LawOf.j0 k t119 t102 t103 t105 t106 t108 t109 t111 t112 t114 t115)) = some (r1, r2, r3, r4, r5, r6, r7, r8, r9, r10, r11) := H
  have A7 := Aside0.mk A70
  clear A70
  have HC8 := Aside0.mk H
  clear H
  go_enter Try.func25, Try.ntmps25
  go_upto_if 16 with (first | ((with_reducible refine gate_dst (N := 2) rfl ?_); refine box_event ?hg (N := 2) ?hd (cs := #[.int .i64 0, .int .i64 0, .int .i64 0, .int .i64 0, .int .i64 0, .int .i64 0, .int .i64 0, .int .i64 0, .int .i64 0, .int .i64 0]) (t := 42) ?hr ?_; (case hd => rfl); (case hg => rfl); (case hr => first | (go_simp; done) | (go_simp; rfl)); intro gb101 hg w9 hbox hb; have n0_ := Aside0.mk (IsS83.below (by repeat (first | (with_reducible first | exact HI0.out | apply IsS83.alloc | apply IsS83.drewN | apply IsS83.drew | apply IsS83.set_0) | exact HI0.out)) hb); have n1_ := Aside0.mk (KeepBut.trans (by repeat (first | (with_reducible first | exact HK.out | apply KeepBut.set_ | apply keep_drewN | apply keep_drew | apply keep_alloc) | exact HK.out)) (KeepBut.of_below hb g none) (.inl rfl)); have n2_ := Aside0.mk (below_step (by repeat (first | (with_reducible first | exact HB.out | apply qA | apply qN | apply qD | refine below_set ?_ (IsS83.ge HI0.out)) | exact HB.out)) hb); have n3_ := Aside0.mk (hbox); have n4_ := Aside0.mk ((by rw [hg]; exact (keep_size (w := w) (g := g) (row := none) (by repeat (first | (with_reducible first | exact HK.out | apply KeepBut.set_ | apply keep_drewN | apply keep_drew | apply keep_alloc) | exact HK.out))) : w.heap.size ≤ gb101)); have n5_ := Aside0.mk ((Nat.le_trans HW0.out (by rw [hg]; exact (keep_size (w := w) (g := g) (row := none) (by repeat (first | (with_reducible first | exact HK.out | apply KeepBut.set_ | apply keep_drewN | apply keep_drew | apply keep_alloc) | exact HK.out))) : w.heap.size ≤ gb101) : w0.heap.size ≤ gb101)); have n6_ := Aside0.mk ((by rw [hg]; exact Nat.ne_of_lt (IsS83.lt (show IsS83 w0 _ g s0_0 from by repeat (first | (with_reducible first | exact HI0.out | apply IsS83.alloc | apply IsS83.drewN | apply IsS83.drew | apply IsS83.set_0) | exact HI0.out))) : g ≠ gb101)); have n7_ := Aside0.mk ((by rw [hg]; exact Nat.ne_of_gt (IsS83.lt (show IsS83 w0 _ g s0_0 from by repeat (first | (with_reducible first | exact HI0.out | apply IsS83.alloc | apply IsS83.drewN | apply IsS83.drew | apply IsS83.set_0) | exact HI0.out))) : gb101 ≠ g)); clear HI0; clear HK; clear HB; have HI0 := n0_; have HK := n1_; have HB := n2_; have BK101 := n3_; have GW101 := n4_; have GE101 := n5_; have NB0_101 := n6_; have NB101_0 := n7_; clear n0_ n1_ n2_ n3_ n4_ n5_ n6_ n7_; clear hb hbox hg) | ((with_reducible refine gate_callee (f := 78) rfl ?_); refine goesL_ (some 5) rfl rfl Try.func78 (by kernel_rfl) rfl #[.pointer (some ⟨g, 0, none⟩), .int .i64 1000, .int .i64 90000] rfl (by (try simp only [List.map_toArray, List.map_cons, List.map_nil]); first | done | rfl | (simp only [List.length_drop, List.length_take]; rfl)) ?_; (with_reducible refine (thermionkit_Dice_Range.calls g s0_0 1000 90000 t102 t103 t104 w0 _ ?side1 ?side2 A2.out).mono ?_); (case side1 => repeat (first | (with_reducible first | exact HI0.out | apply IsS83.alloc | apply IsS83.drewN | apply IsS83.drew | apply IsS83.set_0 | refine IsS83.far ?_ NB0_101.out _) | exact HI0.out)); (case side2 => repeat (first | (with_reducible first | exact HB.out | apply qA | apply qN | apply qD | refine below_set ?_ (IsS83.ge HI0.out) | refine below_set ?_ GE101.out) | exact HB.out)); rintro e w10 ⟨rfl, hi, hb, hk⟩; refine ⟨_, rfl, ?_⟩; have n0_ := Aside0.mk (KeepBut.blk hk (g' := gb101) (o := .cells #[.int .i64 0, .int .i64 0, .int .i64 0, .int .i64 0, .int .i64 0, .int .i64 0, .int .i64 0, .int .i64 0, .int .i64 0, .int .i64 0] 42 (0, 0)) (by (with_reducible repeat (first | refine qn ?_ _ | refine qd ?_ | refine qa ?_ _)); exact BK101.out) NB101_0.out (by simp)); have n1_ := Aside0.mk (KeepBut.trans (by repeat (first | (with_reducible first | exact HK.out | apply KeepBut.set_ | apply keep_drewN | apply keep_drew | apply keep_alloc | refine keep_far ?_ GW101.out _) | exact HK.out)) hk (.inl rfl)); have n2_ := Aside0.mk (hb); have n3_ := Aside0.mk (hi); clear BK101; clear HK; clear HB; clear HI0; have BK101 := n0_; have HK := n1_; have HB := n2_; have HI0 := n3_; clear n0_ n1_ n2_ n3_; (try clear hb); (try clear hb2); (try clear hk); (try clear hi)) | ((with_reducible refine gate_callee (f := 78) rfl ?_); refine goesL_ (some 7) rfl rfl Try.func78 (by kernel_rfl) rfl #[.pointer (some ⟨g, 0, none⟩), .int .i64 5000, .int .i64 60000] rfl (by (try simp only [List.map_toArray, List.map_cons, List.map_nil]); first | done | rfl | (simp only [List.length_drop, List.length_take]; rfl)) ?_; (with_reducible refine (thermionkit_Dice_Range.calls g t104 5000 60000 t105 t106 t107 w0 _ ?side1 ?side2 A3.out).mono ?_); (case side1 => repeat (first | (with_reducible first | exact HI0.out | apply IsS83.alloc | apply IsS83.drewN | apply IsS83.drew | apply IsS83.set_0 | refine IsS83.far ?_ NB0_101.out _) | exact HI0.out)); (case side2 => repeat (first | (with_reducible first | exact HB.out | apply qA | apply qN | apply qD | refine below_set ?_ (IsS83.ge HI0.out) | refine below_set ?_ GE101.out) | exact HB.out)); rintro e w11 ⟨rfl, hi, hb, hk⟩; refine ⟨_, rfl, ?_⟩; have n0_ := Aside0.mk (KeepBut.blk hk (g' := gb101) (o := .cells #[.int .i64 0, .int .i64 0, .int .i64 0, .int .i64 0, .int .i64 0, .int .i64 0, .int .i64 0, .int .i64 0, .int .i64 0, .int .i64 0] 42 (0, 0)) (by (with_reducible repeat (first | refine qn ?_ _ | refine qd ?_ | refine qa ?_ _)); exact BK101.out) NB101_0.out (by simp)); have n1_ := Aside0.mk (KeepBut.trans (by repeat (first | (with_reducible first | exact HK.out | apply KeepBut.set_ | apply keep_drewN | apply keep_drew | apply keep_alloc | refine keep_far ?_ GW101.out _) | exact HK.out)) hk (.inl rfl)); have n2_ := Aside0.mk (hb); have n3_ := Aside0.mk (hi); clear BK101; clear HK; clear HB; clear HI0; have BK101 := n0_; have HK := n1_; have HB := n2_; have HI0 := n3_; clear n0_ n1_ n2_ n3_; (try clear hb); (try clear hb2); (try clear hk); (try clear hi)) | ((with_reducible refine gate_callee (f := 78) rfl ?_); refine goesL_ (some 9) rfl rfl Try.func78 (by kernel_rfl) rfl #[.pointer (some ⟨g, 0, none⟩), .int .i64 (-800), .int .i64 800] rfl (by (try simp only [List.map_toArray, List.map_cons, List.map_nil]); first | done | rfl | (simp only [List.length_drop, List.length_take]; rfl)) ?_; (with_reducible refine (thermionkit_Dice_Range.calls g t107 (-800) 800 t108 t109 t110 w0 _ ?side1 ?side2 A4.out).mono ?_); (case side1 => repeat (first | (with_reducible first | exact HI0.out | apply IsS83.alloc | apply IsS83.drewN | apply IsS83.drew | apply IsS83.set_0 | refine IsS83.far ?_ NB0_101.out _) | exact HI0.out)); (case side2 => repeat (first | (with_reducible first | exact HB.out | apply qA | apply qN | apply qD | refine below_set ?_ (IsS83.ge HI0.out) | refine below_set ?_ GE101.out) | exact HB.out)); rintro e w12 ⟨rfl, hi, hb, hk⟩; refine ⟨_, rfl, ?_⟩; have n0_ := Aside0.mk (KeepBut.blk hk (g' := gb101) (o := .cells #[.int .i64 0, .int .i64 0, .int .i64 0, .int .i64 0, .int .i64 0, .int .i64 0, .int .i64 0, .int .i64 0, .int .i64 0, .int .i64 0] 42 (0, 0)) (by (with_reducible repeat (first | refine qn ?_ _ | refine qd ?_ | refine qa ?_ _)); exact BK101.out) NB101_0.out (by simp)); have n1_ := Aside0.mk (KeepBut.trans (by repeat (first | (with_reducible first | exact HK.out | apply KeepBut.set_ | apply keep_drewN | apply keep_drew | apply keep_alloc | refine keep_far ?_ GW101.out _) | exact HK.out)) hk (.inl rfl)); have n2_ := Aside0.mk (hb); have n3_ := Aside0.mk (hi); clear BK101; clear HK; clear HB; clear HI0; have BK101 := n0_; have HK := n1_; have HB := n2_; have HI0 := n3_; clear n0_ n1_ n2_ n3_; (try clear hb); (try clear hb2); (try clear hk); (try clear hi)) | ((with_reducible refine gate_callee (f := 78) rfl ?_); refine goesL_ (some 11) rfl rfl Try.func78 (by kernel_rfl) rfl #[.pointer (some ⟨g, 0, none⟩), .int .i64 2000, .int .i64 60000] rfl (by (try simp only [List.map_toArray, List.map_cons, List.map_nil]); first | done | rfl | (simp only [List.length_drop, List.length_take]; rfl)) ?_; (with_reducible refine (thermionkit_Dice_Range.calls g t110 2000 60000 t111 t112 t113 w0 _ ?side1 ?side2 A5.out).mono ?_); (case side1 => repeat (first | (with_reducible first | exact HI0.out | apply IsS83.alloc | apply IsS83.drewN | apply IsS83.drew | apply IsS83.set_0 | refine IsS83.far ?_ NB0_101.out _) | exact HI0.out)); (case side2 => repeat (first | (with_reducible first | exact HB.out | apply qA | apply qN | apply qD | refine below_set ?_ (IsS83.ge HI0.out) | refine below_set ?_ GE101.out) | exact HB.out)); rintro e w13 ⟨rfl, hi, hb, hk⟩; refine ⟨_, rfl, ?_⟩; have n0_ := Aside0.mk (KeepBut.blk hk (g' := gb101) (o := .cells #[.int .i64 0, .int .i64 0, .int .i64 0, .int .i64 0, .int .i64 0, .int .i64 0, .int .i64 0, .int .i64 0, .int .i64 0, .int .i64 0] 42 (0, 0)) (by (with_reducible repeat (first | refine qn ?_ _ | refine qd ?_ | refine qa ?_ _)); exact BK101.out) NB101_0.out (by simp)); have n1_ := Aside0.mk (KeepBut.trans (by repeat (first | (with_reducible first | exact HK.out | apply KeepBut.set_ | apply keep_drewN | apply keep_drew | apply keep_alloc | refine keep_far ?_ GW101.out _) | exact HK.out)) hk (.inl rfl)); have n2_ := Aside0.mk (hb); have n3_ := Aside0.mk (hi); clear BK101; clear HK; clear HB; clear HI0; have BK101 := n0_; have HK := n1_; have HB := n2_; have HI0 := n3_; clear n0_ n1_ n2_ n3_; (try clear hb); (try clear hb2); (try clear hk); (try clear hi)) | ((with_reducible refine gate_callee (f := 78) rfl ?_); refine goesL_ (some 13) rfl rfl Try.func78 (by kernel_rfl) rfl #[.pointer (some ⟨g, 0, none⟩), .int .i64 500000, .int .i64 1000000] rfl (by (try simp only [List.map_toArray, List.map_cons, List.map_nil]); first | done | rfl | (simp only [List.length_drop, List.length_take]; rfl)) ?_; (with_reducible refine (thermionkit_Dice_Range.calls g t113 500000 1000000 t114 t115 t116 w0 _ ?side1 ?side2 A6.out).mono ?_); (case side1 => repeat (first | (with_reducible first | exact HI0.out | apply IsS83.alloc | apply IsS83.drewN | apply IsS83.drew | apply IsS83.set_0 | refine IsS83.far ?_ NB0_101.out _) | exact HI0.out)); (case side2 => repeat (first | (with_reducible first | exact HB.out | apply qA | apply qN | apply qD | refine below_set ?_ (IsS83.ge HI0.out) | refine below_set ?_ GE101.out) | exact HB.out)); rintro e w14 ⟨rfl, hi, hb, hk⟩; refine ⟨_, rfl, ?_⟩; have n0_ := Aside0.mk (KeepBut.blk hk (g' := gb101) (o := .cells #[.int .i64 0, .int .i64 0, .int .i64 0, .int .i64 0, .int .i64 0, .int .i64 0, .int .i64 0, .int .i64 0, .int .i64 0, .int .i64 0] 42 (0, 0)) (by (with_reducible repeat (first | refine qn ?_ _ | refine qd ?_ | refine qa ?_ _)); exact BK101.out) NB101_0.out (by simp)); have n1_ := Aside0.mk (KeepBut.trans (by repeat (first | (with_reducible first | exact HK.out | apply KeepBut.set_ | apply keep_drewN | apply keep_drew | apply keep_alloc | refine keep_far ?_ GW101.out _) | exact HK.out)) hk (.inl rfl)); have n2_ := Aside0.mk (hb); have n3_ := Aside0.mk (hi); clear BK101; clear HK; clear HB; clear HI0; have BK101 := n0_; have HK := n1_; have HB := n2_; have HI0 := n3_; clear n0_ n1_ n2_ n3_; (try clear hb); (try clear hb2); (try clear hk); (try clear hi)) | ((with_reducible refine gate_dst (N := 3) rfl ?_); refine box_event ?hg (N := 3) ?hd (cs := #[.int .i64 0, .int .i64 0, .int .i64 0, .int .i64 0, .int .i64 0, .int .i64 0, .int .i64 0, .int .i64 0, .int .i64 0, .int .i64 0]) (t := 42) ?hr ?_; (case hd => rfl); (case hg => rfl); (case hr => first | (go_simp; done) | (go_simp; rfl)); intro gb117 hg w15 hbox hb; have n0_ := Aside0.mk (IsS83.below (by repeat (first | (with_reducible first | exact HI0.out | apply IsS83.alloc | apply IsS83.drewN | apply IsS83.drew | apply IsS83.set_0 | refine IsS83.far ?_ NB0_101.out _) | exact HI0.out)) hb); have n1_ := Aside0.mk (blk_below (by (with_reducible repeat (first | refine qn ?_ _ | refine qd ?_ | refine qa ?_ _)); exact BK101.out) hb); have n2_ := Aside0.mk (KeepBut.trans (by repeat (first | (with_reducible first | exact HK.out | apply KeepBut.set_ | apply keep_drewN | apply keep_drew | apply keep_alloc | refine keep_far ?_ GW101.out _) | exact HK.out)) (KeepBut.of_below hb g none) (.inl rfl)); have n3_ := Aside0.mk (below_step (by repeat (first | (with_reducible first | exact HB.out | apply qA | apply qN | apply qD | refine below_set ?_ (IsS83.ge HI0.out) | refine below_set ?_ GE101.out) | exact HB.out)) hb); have n4_ := Aside0.mk (hbox); have n5_ := Aside0.mk ((by rw [hg]; exact (keep_size (w := w) (g := g) (row := none) (by repeat (first | (with_reducible first | exact HK.out | apply KeepBut.set_ | apply keep_drewN | apply keep_drew | apply keep_alloc | refine keep_far ?_ GW101.out _) | exact HK.out))) : w.heap.size ≤ gb117)); have n6_ := Aside0.mk ((Nat.le_trans HW0.out (by rw [hg]; exact (keep_size (w := w) (g := g) (row := none) (by repeat (first | (with_reducible first | exact HK.out | apply KeepBut.set_ | apply keep_drewN | apply keep_drew | apply keep_alloc | refine keep_far ?_ GW101.out _) | exact HK.out))) : w.heap.size ≤ gb117) : w0.heap.size ≤ gb117)); have n7_ := Aside0.mk ((by rw [hg]; exact Nat.ne_of_lt (blk_lt (by (with_reducible repeat (first | refine qn ?_ _ | refine qd ?_ | refine qa ?_ _)); exact BK101.out)) : gb101 ≠ gb117)); have n8_ := Aside0.mk ((by rw [hg]; exact Nat.ne_of_gt (blk_lt (by (with_reducible repeat (first | refine qn ?_ _ | refine qd ?_ | refine qa ?_ _)); exact BK101.out)) : gb117 ≠ gb101)); have n9_ := Aside0.mk ((by rw [hg]; exact Nat.ne_of_lt (IsS83.lt (show IsS83 w0 _ g t116 from by repeat (first | (with_reducible first | exact HI0.out | apply IsS83.alloc | apply IsS83.drewN | apply IsS83.drew | apply IsS83.set_0 | refine IsS83.far ?_ NB0_101.out _) | exact HI0.out))) : g ≠ gb117)); have n10_ := Aside0.mk ((by rw [hg]; exact Nat.ne_of_gt (IsS83.lt (show IsS83 w0 _ g t116 from by repeat (first | (with_reducible first | exact HI0.out | apply IsS83.alloc | apply IsS83.drewN | apply IsS83.drew | apply IsS83.set_0 | refine IsS83.far ?_ NB0_101.out _) | exact HI0.out))) : gb117 ≠ g)); clear HI0; clear BK101; clear HK; clear HB; have HI0 := n0_; have BK101 := n1_; have HK := n2_; have HB := n3_; have BK117 := n4_; have GW117 := n5_; have GE117 := n6_; have NB101_117 := n7_; have NB117_101 := n8_; have NB0_117 := n9_; have NB117_0 := n10_; clear n0_ n1_ n2_ n3_ n4_ n5_ n6_ n7_ n8_ n9_ n10_; clear hb hbox hg; have hnb16 := NB117_101.out; have hnc16 := NB101_117.out; have hnb17 := NB117_0.out; have hnc17 := NB0_117.out; have hcz18_0 : w15.cell? ⟨gb117, 0, none⟩ = some (.int .i64 0) := (blk_cell BK117.out 0).trans rfl; have hcz18_1 : w15.cell? ⟨gb117, 1, none⟩ = some (.int .i64 0) := (blk_cell BK117.out 1).trans rfl; have hcz18_2 : w15.cell? ⟨gb117, 2, none⟩ = some (.int .i64 0) := (blk_cell BK117.out 2).trans rfl; have hcz18_3 : w15.cell? ⟨gb117, 3, none⟩ = some (.int .i64 0) := (blk_cell BK117.out 3).trans rfl; have hcz18_4 : w15.cell? ⟨gb117, 4, none⟩ = some (.int .i64 0) := (blk_cell BK117.out 4).trans rfl; have hcz18_5 : w15.cell? ⟨gb117, 5, none⟩ = some (.int .i64 0) := (blk_cell BK117.out 5).trans rfl; have hcz18_6 : w15.cell? ⟨gb117, 6, none⟩ = some (.int .i64 0) := (blk_cell BK117.out 6).trans rfl; have hcz18_7 : w15.cell? ⟨gb117, 7, none⟩ = some (.int .i64 0) := (blk_cell BK117.out 7).trans rfl; have hcz18_8 : w15.cell? ⟨gb117, 8, none⟩ = some (.int .i64 0) := (blk_cell BK117.out 8).trans rfl; have hcz18_9 : w15.cell? ⟨gb117, 9, none⟩ = some (.int .i64 0) := (blk_cell BK117.out 9).trans rfl; have hfz18_0 := blk_frozen BK117.out 0; have hfz18_1 := blk_frozen BK117.out 1; have hfz18_2 := blk_frozen BK117.out 2; have hfz18_3 := blk_frozen BK117.out 3; have hfz18_4 := blk_frozen BK117.out 4; have hfz18_5 := blk_frozen BK117.out 5; have hfz18_6 := blk_frozen BK117.out 6; have hfz18_7 := blk_frozen BK117.out 7; have hfz18_8 := blk_frozen BK117.out 8; have hfz18_9 := blk_frozen BK117.out 9) | ((with_reducible refine gate_callee (f := 50) rfl ?_); refine goesL_ (some 16) rfl rfl Try.func50 (by kernel_rfl) rfl #[.pointer (some ⟨g, 0, none⟩), .int .i64 3] rfl (by (try simp only [List.map_toArray, List.map_cons, List.map_nil]); first | done | rfl | (simp only [List.length_drop, List.length_take]; rfl)) ?_; (with_reducible refine (thermionkit_Dice_One.calls g t116 3 t118 t119 w0 _ ?side1 ?side2 A7.out).mono ?_); (case side1 => repeat (first | (with_reducible first | exact HI0.out | apply IsS83.alloc | apply IsS83.drewN | apply IsS83.drew | apply IsS83.set_0 | refine IsS83.far ?_ NB0_101.out _ | refine IsS83.far ?_ NB0_117.out _) | exact HI0.out)); (case side2 => repeat (first | (with_reducible first | exact HB.out | apply qA | apply qN | apply qD | refine below_set ?_ (IsS83.ge HI0.out) | refine below_set ?_ GE101.out | refine below_set ?_ GE117.out) | exact HB.out)); rintro e w19 ⟨rfl, hi, hb, hk⟩; refine ⟨_, rfl, ?_⟩; have n0_ := Aside0.mk (KeepBut.blk hk (g' := gb101) (o := .cells #[.int .i64 0, .int .i64 0, .int .i64 0, .int .i64 0, .int .i64 0, .int .i64 0, .int .i64 0, .int .i64 0, .int .i64 0, .int .i64 0] 42 (0, 0)) (by (with_reducible repeat (first | refine qn ?_ _ | refine qd ?_ | refine qa ?_ _)); refine blk_far ?_ NB101_117.out _; (with_reducible repeat (first | refine qn ?_ _ | refine qd ?_ | refine qa ?_ _)); refine blk_far ?_ NB101_117.out _; (with_reducible repeat (first | refine qn ?_ _ | refine qd ?_ | refine qa ?_ _)); refine blk_far ?_ NB101_117.out _; (with_reducible repeat (first | refine qn ?_ _ | refine qd ?_ | refine qa ?_ _)); refine blk_far ?_ NB101_117.out _; (with_reducible repeat (first | refine qn ?_ _ | refine qd ?_ | refine qa ?_ _)); refine blk_far ?_ NB101_117.out _; (with_reducible repeat (first | refine qn ?_ _ | refine qd ?_ | refine qa ?_ _)); refine blk_far ?_ NB101_117.out _; (with_reducible repeat (first | refine qn ?_ _ | refine qd ?_ | refine qa ?_ _)); refine blk_far ?_ NB101_117.out _; (with_reducible repeat (first | refine qn ?_ _ | refine qd ?_ | refine qa ?_ _)); refine blk_far ?_ NB101_117.out _; (with_reducible repeat (first | refine qn ?_ _ | refine qd ?_ | refine qa ?_ _)); refine blk_far ?_ NB101_117.out _; (with_reducible repeat (first | refine qn ?_ _ | refine qd ?_ | refine qa ?_ _)); refine blk_far ?_ NB101_117.out _; (with_reducible repeat (first | refine qn ?_ _ | refine qd ?_ | refine qa ?_ _)); exact BK101.out) NB101_0.out (by simp)); have n1_ := Aside0.mk (KeepBut.blk hk (g' := gb117) (o := .cells #[.int .i64 t102, .int .i64 t103, .int .i64 t105, .int .i64 t106, .int .i64 t108, .int .i64 t109, .int .i64 t111, .int .i64 t112, .int .i64 t114, .int .i64 t115] 42 (0, 0)) (by (with_reducible repeat (first | refine qn ?_ _ | refine qd ?_ | refine qa ?_ _)); refine blk_put (cs := #[.int .i64 t102, .int .i64 t103, .int .i64 t105, .int .i64 t106, .int .i64 t108, .int .i64 t109, .int .i64 t111, .int .i64 t112, .int .i64 t114, .int .i64 0]) ?_ 9 _ rfl; (with_reducible repeat (first | refine qn ?_ _ | refine qd ?_ | refine qa ?_ _)); refine blk_put (cs := #[.int .i64 t102, .int .i64 t103, .int .i64 t105, .int .i64 t106, .int .i64 t108, .int .i64 t109, .int .i64 t111, .int .i64 t112, .int .i64 0, .int .i64 0]) ?_ 8 _ rfl; (with_reducible repeat (first | refine qn ?_ _ | refine qd ?_ | refine qa ?_ _)); refine blk_put (cs := #[.int .i64 t102, .int .i64 t103, .int .i64 t105, .int .i64 t106, .int .i64 t108, .int .i64 t109, .int .i64 t111, .int .i64 0, .int .i64 0, .int .i64 0]) ?_ 7 _ rfl; (with_reducible repeat (first | refine qn ?_ _ | refine qd ?_ | refine qa ?_ _)); refine blk_put (cs := #[.int .i64 t102, .int .i64 t103, .int .i64 t105, .int .i64 t106, .int .i64 t108, .int .i64 t109, .int .i64 0, .int .i64 0, .int .i64 0, .int .i64 0]) ?_ 6 _ rfl; (with_reducible repeat (first | refine qn ?_ _ | refine qd ?_ | refine qa ?_ _)); refine blk_put (cs := #[.int .i64 t102, .int .i64 t103, .int .i64 t105, .int .i64 t106, .int .i64 t108, .int .i64 0, .int .i64 0, .int .i64 0, .int .i64 0, .int .i64 0]) ?_ 5 _ rfl; (with_reducible repeat (first | refine qn ?_ _ | refine qd ?_ | refine qa ?_ _)); refine blk_put (cs := #[.int .i64 t102, .int .i64 t103, .int .i64 t105, .int .i64 t106, .int .i64 0, .int .i64 0, .int .i64 0, .int .i64 0, .int .i64 0, .int .i64 0]) ?_ 4 _ rfl; (with_reducible repeat (first | refine qn ?_ _ | refine qd ?_ | refine qa ?_ _)); refine blk_put (cs := #[.int .i64 t102, .int .i64 t103, .int .i64 t105, .int .i64 0, .int .i64 0, .int .i64 0, .int .i64 0, .int .i64 0, .int .i64 0, .int .i64 0]) ?_ 3 _ rfl; (with_reducible repeat (first | refine qn ?_ _ | refine qd ?_ | refine qa ?_ _)); refine blk_put (cs := #[.int .i64 t102, .int .i64 t103, .int .i64 0, .int .i64 0, .int .i64 0, .int .i64 0, .int .i64 0, .int .i64 0, .int .i64 0, .int .i64 0]) ?_ 2 _ rfl; (with_reducible repeat (first | refine qn ?_ _ | refine qd ?_ | refine qa ?_ _)); refine blk_put (cs := #[.int .i64 t102, .int .i64 0, .int .i64 0, .int .i64 0, .int .i64 0, .int .i64 0, .int .i64 0, .int .i64 0, .int .i64 0, .int .i64 0]) ?_ 1 _ rfl; (with_reducible repeat (first | refine qn ?_ _ | refine qd ?_ | refine qa ?_ _)); refine blk_put (cs := #[.int .i64 0, .int .i64 0, .int .i64 0, .int .i64 0, .int .i64 0, .int .i64 0, .int .i64 0, .int .i64 0, .int .i64 0, .int .i64 0]) ?_ 0 _ rfl; (with_reducible repeat (first | refine qn ?_ _ | refine qd ?_ | refine qa ?_ _)); exact BK117.out) NB117_0.out (by simp)); have n2_ := Aside0.mk (KeepBut.trans (by repeat (first | (with_reducible first | exact HK.out | apply KeepBut.set_ | apply keep_drewN | apply keep_drew | apply keep_alloc | refine keep_far ?_ GW101.out _ | refine keep_far ?_ GW117.out _) | exact HK.out)) hk (.inl rfl)); have n3_ := Aside0.mk (hb); have n4_ := Aside0.mk (hi); clear BK101; clear BK117; clear HK; clear HB; clear HI0; have BK101 := n0_; have BK117 := n1_; have HK := n2_; have HB := n3_; have HI0 := n4_; clear n0_ n1_ n2_ n3_ n4_; (try clear hb); (try clear hb2); (try clear hk); (try clear hi)))
  (try simp only [Act.put, List.setIfInBounds_toArray, List.set_cons_zero, List.set_cons_succ])
  go_cut [] (fun wc => ∃ (kq : Nat) (x118006_7 : Int) (x118007_7 : Int), Aside0 (thermionkit_LawOf.j0 kq t119 t102 t103 t105 t106 t108 t109 x118006_7 x118007_7 t114 t115 = some (r1, r2, r3, r4, r5, r6, r7, r8, r9, r10, r11)) ∧ Aside0 (kq ≤ k) ∧ Aside0 (wc.heap[gb101]? = some (.cells #[.int .i64 0, .int .i64 0, .int .i64 0, .int .i64 0, .int .i64 0, .int .i64 0, .int .i64 0, .int .i64 0, .int .i64 0, .int .i64 0] 42 (0, 0))) ∧ Aside0 (wc.heap[gb117]? = some (.cells #[.int .i64 t102, .int .i64 t103, .int .i64 t105, .int .i64 t106, .int .i64 t108, .int .i64 t109, .int .i64 x118006_7, .int .i64 x118007_7, .int .i64 t114, .int .i64 t115] 42 (0, 0))) ∧ Aside0 (IsS83 w0 wc g t119) ∧ Aside0 (KeepBut w wc g none) ∧ Aside0 (Below w0.heap.size w0 wc))
  case first =>
    have H := HC8.out
    clear HC8
    by_cases c20 : t118 = true
    · subst c20
      have H1 : (thermionkit_LawOf.j0 k t119 t102 t103 t105 t106 t108 t109 1000000 1000000 t114 t115) = some (r1, r2, r3, r4, r5, r6, r7, r8, r9, r10, r11) := by rw [if_pos rfl] at H; exact H
      clear H
      have H := H1
      clear H1
      have H' := Aside0.mk H
      clear H
      have hnb21 := NB117_101.out
      have hnc21 := NB101_117.out
      have hnb22 := NB117_0.out
      have hnc22 := NB0_117.out
      have hcz23_0 : w19.cell? ⟨gb117, 0, none⟩ = some (.int .i64 t102) := (blk_cell BK117.out 0).trans rfl
      have hcz23_1 : w19.cell? ⟨gb117, 1, none⟩ = some (.int .i64 t103) := (blk_cell BK117.out 1).trans rfl
      have hcz23_2 : w19.cell? ⟨gb117, 2, none⟩ = some (.int .i64 t105) := (blk_cell BK117.out 2).trans rfl
      have hcz23_3 : w19.cell? ⟨gb117, 3, none⟩ = some (.int .i64 t106) := (blk_cell BK117.out 3).trans rfl
      have hcz23_4 : w19.cell? ⟨gb117, 4, none⟩ = some (.int .i64 t108) := (blk_cell BK117.out 4).trans rfl
      have hcz23_5 : w19.cell? ⟨gb117, 5, none⟩ = some (.int .i64 t109) := (blk_cell BK117.out 5).trans rfl
      have hcz23_6 : w19.cell? ⟨gb117, 6, none⟩ = some (.int .i64 t111) := (blk_cell BK117.out 6).trans rfl
      have hcz23_7 : w19.cell? ⟨gb117, 7, none⟩ = some (.int .i64 t112) := (blk_cell BK117.out 7).trans rfl
      have hcz23_8 : w19.cell? ⟨gb117, 8, none⟩ = some (.int .i64 t114) := (blk_cell BK117.out 8).trans rfl
      have hcz23_9 : w19.cell? ⟨gb117, 9, none⟩ = some (.int .i64 t115) := (blk_cell BK117.out 9).trans rfl
      have hfz23_0 := blk_frozen BK117.out 0
      have hfz23_1 := blk_frozen BK117.out 1
      have hfz23_2 := blk_frozen BK117.out 2
      have hfz23_3 := blk_frozen BK117.out 3
      have hfz23_4 := blk_frozen BK117.out 4
      have hfz23_5 := blk_frozen BK117.out 5
      have hfz23_6 := blk_frozen BK117.out 6
      have hfz23_7 := blk_frozen BK117.out 7
      have hfz23_8 := blk_frozen BK117.out 8
      have hfz23_9 := blk_frozen BK117.out 9
      go_wp2
      go_meet
      case rel => exact ⟨_, (1000000), (1000000), H', ⟨by first | omega | exact Nat.le_refl _⟩, ⟨by (with_reducible repeat (first | refine qn ?_ _ | refine qd ?_ | refine qa ?_ _)); refine blk_far ?_ NB101_117.out _; (with_reducible repeat (first | refine qn ?_ _ | refine qd ?_ | refine qa ?_ _)); refine blk_far ?_ NB101_117.out _; (with_reducible repeat (first | refine qn ?_ _ | refine qd ?_ | refine qa ?_ _)); exact BK101.out⟩, ⟨by (with_reducible repeat (first | refine qn ?_ _ | refine qd ?_ | refine qa ?_ _)); refine blk_put (cs := #[.int .i64 t102, .int .i64 t103, .int .i64 t105, .int .i64 t106, .int .i64 t108, .int .i64 t109, .int .i64 1000000, .int .i64 t112, .int .i64 t114, .int .i64 t115]) ?_ 7 _ rfl; (with_reducible repeat (first | refine qn ?_ _ | refine qd ?_ | refine qa ?_ _)); refine blk_put (cs := #[.int .i64 t102, .int .i64 t103, .int .i64 t105, .int .i64 t106, .int .i64 t108, .int .i64 t109, .int .i64 t111, .int .i64 t112, .int .i64 t114, .int .i64 t115]) ?_ 6 _ rfl; (with_reducible repeat (first | refine qn ?_ _ | refine qd ?_ | refine qa ?_ _)); exact BK117.out⟩, ⟨by repeat (first | (with_reducible first | exact HI0.out | apply IsS83.alloc | apply IsS83.drewN | apply IsS83.drew | apply IsS83.set_0 | refine IsS83.far ?_ NB0_101.out _ | refine IsS83.far ?_ NB0_117.out _) | exact HI0.out)⟩, ⟨by repeat (first | (with_reducible first | exact HK.out | apply KeepBut.set_ | apply keep_drewN | apply keep_drew | apply keep_alloc | refine keep_far ?_ GW101.out _ | refine keep_far ?_ GW117.out _) | exact HK.out)⟩, ⟨by repeat (first | (with_reducible first | exact HB.out | apply qA | apply qN | apply qD | refine below_set ?_ (IsS83.ge HI0.out) | refine below_set ?_ GE101.out | refine below_set ?_ GE117.out) | exact HB.out)⟩⟩
    · replace c20 := Bool.eq_false_iff.mpr c20
      subst c20
      have H1 : (thermionkit_LawOf.j0 k t119 t102 t103 t105 t106 t108 t109 t111 t112 t114 t115) = some (r1, r2, r3, r4, r5, r6, r7, r8, r9, r10, r11) := by rw [if_neg (show ¬ (false = true) by decide)] at H; exact H
      clear H
      have H := H1
      clear H1
      have H' := Aside0.mk H
      clear H
      go_wp2
      go_meet
      case rel => exact ⟨_, (t111), (t112), H', ⟨by first | omega | exact Nat.le_refl _⟩, ⟨by (with_reducible repeat (first | refine qn ?_ _ | refine qd ?_ | refine qa ?_ _)); exact BK101.out⟩, ⟨by (with_reducible repeat (first | refine qn ?_ _ | refine qd ?_ | refine qa ?_ _)); exact BK117.out⟩, ⟨by repeat (first | (with_reducible first | exact HI0.out | apply IsS83.alloc | apply IsS83.drewN | apply IsS83.drew | apply IsS83.set_0 | refine IsS83.far ?_ NB0_101.out _ | refine IsS83.far ?_ NB0_117.out _) | exact HI0.out)⟩, ⟨by repeat (first | (with_reducible first | exact HK.out | apply KeepBut.set_ | apply keep_drewN | apply keep_drew | apply keep_alloc | refine keep_far ?_ GW101.out _ | refine keep_far ?_ GW117.out _) | exact HK.out)⟩, ⟨by repeat (first | (with_reducible first | exact HB.out | apply qA | apply qN | apply qD | refine below_set ?_ (IsS83.ge HI0.out) | refine below_set ?_ GE101.out | refine below_set ?_ GE117.out) | exact HB.out)⟩⟩
  case rest =>
    clear HC8
    try clear c1
    try clear c2
    try clear p2
    try clear c5
    try clear c7
    try clear c16
    try clear c17
    try clear c20
    try clear c21
    try clear c22
    try clear hcz18_0
    try clear hcz18_1
    try clear hcz18_2
    try clear hcz18_3
    try clear hcz18_4
    try clear hcz18_5
    try clear hcz18_6
    try clear hcz18_7
    try clear hcz18_8
    try clear hcz18_9
    try clear hcz23_0
    try clear hcz23_1
    try clear hcz23_2
    try clear hcz23_3
    try clear hcz23_4
    try clear hcz23_5
    try clear hcz23_6
    try clear hcz23_7
    try clear hcz23_8
    try clear hcz23_9
    try clear hfz18_0
    try clear hfz18_1
    try clear hfz18_2
    try clear hfz18_3
    try clear hfz18_4
    try clear hfz18_5
    try clear hfz18_6
    try clear hfz18_7
    try clear hfz18_8
    try clear hfz18_9
    try clear hfz23_0
    try clear hfz23_1
    try clear hfz23_2
    try clear hfz23_3
    try clear hfz23_4
    try clear hfz23_5
    try clear hfz23_6
    try clear hfz23_7
    try clear hfz23_8
    try clear hfz23_9
    obtain ⟨kq, x118006_7, x118007_7, HA, HJ7, BK101, BK117, HI0, HK, HB⟩ := hcut
    cases kq with
    | zero => exact absurd HA.out (by simp [thermionkit_LawOf.j0])
    | succ kj7 =>
      have H := HA.out
      clear HA
      simp only [thermionkit_LawOf.j0] at H
      replace H := Option.bind_eq_some_iff.mp H
      obtain ⟨⟨t120, t121⟩, A240, H⟩ := H
      replace H : (if t120 = true then (thermionkit_LawOf.j1 kj7 t121 t102 t103 t105 t106 t108 t109 x118006_7 x118007_7 1000000 1000000) else (thermionkit_LawOf.j1 kj7 t121 t102 t103 t105 t106 t108 t109 x118006_7 x118007_7 t114 t115)) = some (r1, r2, r3, r4, r5, r6, r7, r8, r9, r10, r11) := H
      have A24 := Aside0.mk A240
      clear A240
      have HC25 := Aside0.mk H
      clear H
      go_upto_if 20 with (first | ((with_reducible refine gate_callee (f := 50) rfl ?_); refine goesL_ (some 20) rfl rfl Try.func50 (by kernel_rfl) rfl #[.pointer (some ⟨g, 0, none⟩), .int .i64 2] rfl (by (try simp only [List.map_toArray, List.map_cons, List.map_nil]); first | done | rfl | (simp only [List.length_drop, List.length_take]; rfl)) ?_; (with_reducible refine (thermionkit_Dice_One.calls g t119 2 t120 t121 w0 _ ?side1 ?side2 A24.out).mono ?_); (case side1 => repeat (first | (with_reducible first | exact HI0.out | apply IsS83.alloc | apply IsS83.drewN | apply IsS83.drew | apply IsS83.set_0 | refine IsS83.far ?_ NB0_101.out _ | refine IsS83.far ?_ NB0_117.out _) | exact HI0.out)); (case side2 => repeat (first | (with_reducible first | exact HB.out | apply qA | apply qN | apply qD | refine below_set ?_ (IsS83.ge HI0.out) | refine below_set ?_ GE101.out | refine below_set ?_ GE117.out) | exact HB.out)); rintro e w26 ⟨rfl, hi, hb, hk⟩; refine ⟨_, rfl, ?_⟩; have n0_ := Aside0.mk (KeepBut.blk hk (g' := gb101) (o := .cells #[.int .i64 0, .int .i64 0, .int .i64 0, .int .i64 0, .int .i64 0, .int .i64 0, .int .i64 0, .int .i64 0, .int .i64 0, .int .i64 0] 42 (0, 0)) (by (with_reducible repeat (first | refine qn ?_ _ | refine qd ?_ | refine qa ?_ _)); exact BK101.out) NB101_0.out (by simp)); have n1_ := Aside0.mk (KeepBut.blk hk (g' := gb117) (o := .cells #[.int .i64 t102, .int .i64 t103, .int .i64 t105, .int .i64 t106, .int .i64 t108, .int .i64 t109, .int .i64 x118006_7, .int .i64 x118007_7, .int .i64 t114, .int .i64 t115] 42 (0, 0)) (by (with_reducible repeat (first | refine qn ?_ _ | refine qd ?_ | refine qa ?_ _)); exact BK117.out) NB117_0.out (by simp)); have n2_ := Aside0.mk (KeepBut.trans (by repeat (first | (with_reducible first | exact HK.out | apply KeepBut.set_ | apply keep_drewN | apply keep_drew | apply keep_alloc | refine keep_far ?_ GW101.out _ | refine keep_far ?_ GW117.out _) | exact HK.out)) hk (.inl rfl)); have n3_ := Aside0.mk (hb); have n4_ := Aside0.mk (hi); clear BK101; clear BK117; clear HK; clear HB; clear HI0; have BK101 := n0_; have BK117 := n1_; have HK := n2_; have HB := n3_; have HI0 := n4_; clear n0_ n1_ n2_ n3_ n4_; (try clear hb); (try clear hb2); (try clear hk); (try clear hi)))
      (try simp only [Act.put, List.setIfInBounds_toArray, List.set_cons_zero, List.set_cons_succ])
      go_cut [] (fun wc => ∃ (kq : Nat) (x118008_24 : Int) (x118009_24 : Int), Aside0 (thermionkit_LawOf.j1 kq t121 t102 t103 t105 t106 t108 t109 x118006_7 x118007_7 x118008_24 x118009_24 = some (r1, r2, r3, r4, r5, r6, r7, r8, r9, r10, r11)) ∧ Aside0 (kq ≤ kj7) ∧ Aside0 (wc.heap[gb101]? = some (.cells #[.int .i64 0, .int .i64 0, .int .i64 0, .int .i64 0, .int .i64 0, .int .i64 0, .int .i64 0, .int .i64 0, .int .i64 0, .int .i64 0] 42 (0, 0))) ∧ Aside0 (wc.heap[gb117]? = some (.cells #[.int .i64 t102, .int .i64 t103, .int .i64 t105, .int .i64 t106, .int .i64 t108, .int .i64 t109, .int .i64 x118006_7, .int .i64 x118007_7, .int .i64 x118008_24, .int .i64 x118009_24] 42 (0, 0))) ∧ Aside0 (IsS83 w0 wc g t121) ∧ Aside0 (KeepBut w wc g none) ∧ Aside0 (Below w0.heap.size w0 wc))
      case first =>
        have H := HC25.out
        clear HC25
        by_cases c27 : t120 = true
        · subst c27
          have H1 : (thermionkit_LawOf.j1 kj7 t121 t102 t103 t105 t106 t108 t109 x118006_7 x118007_7 1000000 1000000) = some (r1, r2, r3, r4, r5, r6, r7, r8, r9, r10, r11) := by rw [if_pos rfl] at H; exact H
          clear H
          have H := H1
          clear H1
          have H' := Aside0.mk H
          clear H
          have hnb28 := NB117_101.out
          have hnc28 := NB101_117.out
          have hnb29 := NB117_0.out
          have hnc29 := NB0_117.out
          have hcz30_0 : w26.cell? ⟨gb117, 0, none⟩ = some (.int .i64 t102) := (blk_cell BK117.out 0).trans rfl
          have hcz30_1 : w26.cell? ⟨gb117, 1, none⟩ = some (.int .i64 t103) := (blk_cell BK117.out 1).trans rfl
          have hcz30_2 : w26.cell? ⟨gb117, 2, none⟩ = some (.int .i64 t105) := (blk_cell BK117.out 2).trans rfl
          have hcz30_3 : w26.cell? ⟨gb117, 3, none⟩ = some (.int .i64 t106) := (blk_cell BK117.out 3).trans rfl
          have hcz30_4 : w26.cell? ⟨gb117, 4, none⟩ = some (.int .i64 t108) := (blk_cell BK117.out 4).trans rfl
          have hcz30_5 : w26.cell? ⟨gb117, 5, none⟩ = some (.int .i64 t109) := (blk_cell BK117.out 5).trans rfl
          have hcz30_6 : w26.cell? ⟨gb117, 6, none⟩ = some (.int .i64 x118006_7) := (blk_cell BK117.out 6).trans rfl
          have hcz30_7 : w26.cell? ⟨gb117, 7, none⟩ = some (.int .i64 x118007_7) := (blk_cell BK117.out 7).trans rfl
          have hcz30_8 : w26.cell? ⟨gb117, 8, none⟩ = some (.int .i64 t114) := (blk_cell BK117.out 8).trans rfl
          have hcz30_9 : w26.cell? ⟨gb117, 9, none⟩ = some (.int .i64 t115) := (blk_cell BK117.out 9).trans rfl
          have hfz30_0 := blk_frozen BK117.out 0
          have hfz30_1 := blk_frozen BK117.out 1
          have hfz30_2 := blk_frozen BK117.out 2
          have hfz30_3 := blk_frozen BK117.out 3
          have hfz30_4 := blk_frozen BK117.out 4
          have hfz30_5 := blk_frozen BK117.out 5
          have hfz30_6 := blk_frozen BK117.out 6
          have hfz30_7 := blk_frozen BK117.out 7
          have hfz30_8 := blk_frozen BK117.out 8
          have hfz30_9 := blk_frozen BK117.out 9
          go_wp2
          go_meet
          case rel => exact ⟨_, (1000000), (1000000), H', ⟨by have := HJ7.out; first | omega | exact Nat.le_refl _⟩, ⟨by (with_reducible repeat (first | refine qn ?_ _ | refine qd ?_ | refine qa ?_ _)); refine blk_far ?_ NB101_117.out _; (with_reducible repeat (first | refine qn ?_ _ | refine qd ?_ | refine qa ?_ _)); refine blk_far ?_ NB101_117.out _; (with_reducible repeat (first | refine qn ?_ _ | refine qd ?_ | refine qa ?_ _)); exact BK101.out⟩, ⟨by (with_reducible repeat (first | refine qn ?_ _ | refine qd ?_ | refine qa ?_ _)); refine blk_put (cs := #[.int .i64 t102, .int .i64 t103, .int .i64 t105, .int .i64 t106, .int .i64 t108, .int .i64 t109, .int .i64 x118006_7, .int .i64 x118007_7, .int .i64 1000000, .int .i64 t115]) ?_ 9 _ rfl; (with_reducible repeat (first | refine qn ?_ _ | refine qd ?_ | refine qa ?_ _)); refine blk_put (cs := #[.int .i64 t102, .int .i64 t103, .int .i64 t105, .int .i64 t106, .int .i64 t108, .int .i64 t109, .int .i64 x118006_7, .int .i64 x118007_7, .int .i64 t114, .int .i64 t115]) ?_ 8 _ rfl; (with_reducible repeat (first | refine qn ?_ _ | refine qd ?_ | refine qa ?_ _)); exact BK117.out⟩, ⟨by repeat (first | (with_reducible first | exact HI0.out | apply IsS83.alloc | apply IsS83.drewN | apply IsS83.drew | apply IsS83.set_0 | refine IsS83.far ?_ NB0_101.out _ | refine IsS83.far ?_ NB0_117.out _) | exact HI0.out)⟩, ⟨by repeat (first | (with_reducible first | exact HK.out | apply KeepBut.set_ | apply keep_drewN | apply keep_drew | apply keep_alloc | refine keep_far ?_ GW101.out _ | refine keep_far ?_ GW117.out _) | exact HK.out)⟩, ⟨by repeat (first | (with_reducible first | exact HB.out | apply qA | apply qN | apply qD | refine below_set ?_ (IsS83.ge HI0.out) | refine below_set ?_ GE101.out | refine below_set ?_ GE117.out) | exact HB.out)⟩⟩
        · replace c27 := Bool.eq_false_iff.mpr c27
          subst c27
          have H1 : (thermionkit_LawOf.j1 kj7 t121 t102 t103 t105 t106 t108 t109 x118006_7 x118007_7 t114 t115) = some (r1, r2, r3, r4, r5, r6, r7, r8, r9, r10, r11) := by rw [if_neg (show ¬ (false = true) by decide)] at H; exact H
          clear H
          have H := H1
          clear H1
          have H' := Aside0.mk H
          clear H
          go_wp2
          go_meet
          case rel => exact ⟨_, (t114), (t115), H', ⟨by have := HJ7.out; first | omega | exact Nat.le_refl _⟩, ⟨by (with_reducible repeat (first | refine qn ?_ _ | refine qd ?_ | refine qa ?_ _)); exact BK101.out⟩, ⟨by (with_reducible repeat (first | refine qn ?_ _ | refine qd ?_ | refine qa ?_ _)); exact BK117.out⟩, ⟨by repeat (first | (with_reducible first | exact HI0.out | apply IsS83.alloc | apply IsS83.drewN | apply IsS83.drew | apply IsS83.set_0 | refine IsS83.far ?_ NB0_101.out _ | refine IsS83.far ?_ NB0_117.out _) | exact HI0.out)⟩, ⟨by repeat (first | (with_reducible first | exact HK.out | apply KeepBut.set_ | apply keep_drewN | apply keep_drew | apply keep_alloc | refine keep_far ?_ GW101.out _ | refine keep_far ?_ GW117.out _) | exact HK.out)⟩, ⟨by repeat (first | (with_reducible first | exact HB.out | apply qA | apply qN | apply qD | refine below_set ?_ (IsS83.ge HI0.out) | refine below_set ?_ GE101.out | refine below_set ?_ GE117.out) | exact HB.out)⟩⟩
      case rest =>
        clear HC25
        try clear c1
        try clear c2
        try clear p2
        try clear c5
        try clear c7
        try clear c16
        try clear c17
        try clear c20
        try clear c21
        try clear c22
        try clear c25
        try clear c27
        try clear c28
        try clear c29
        try clear hcz18_0
        try clear hcz18_1
        try clear hcz18_2
        try clear hcz18_3
        try clear hcz18_4
        try clear hcz18_5
        try clear hcz18_6
        try clear hcz18_7
        try clear hcz18_8
        try clear hcz18_9
        try clear hcz23_0
        try clear hcz23_1
        try clear hcz23_2
        try clear hcz23_3
        try clear hcz23_4
        try clear hcz23_5
        try clear hcz23_6
        try clear hcz23_7
        try clear hcz23_8
        try clear hcz23_9
        try clear hcz30_0
        try clear hcz30_1
        try clear hcz30_2
        try clear hcz30_3
        try clear hcz30_4
        try clear hcz30_5
        try clear hcz30_6
        try clear hcz30_7
        try clear hcz30_8
        try clear hcz30_9
        try clear hfz18_0
        try clear hfz18_1
        try clear hfz18_2
        try clear hfz18_3
        try clear hfz18_4
        try clear hfz18_5
        try clear hfz18_6
        try clear hfz18_7
        try clear hfz18_8
        try clear hfz18_9
        try clear hfz23_0
        try clear hfz23_1
        try clear hfz23_2
        try clear hfz23_3
        try clear hfz23_4
        try clear hfz23_5
        try clear hfz23_6
        try clear hfz23_7
        try clear hfz23_8
        try clear hfz23_9
        try clear hfz30_0
        try clear hfz30_1
        try clear hfz30_2
        try clear hfz30_3
        try clear hfz30_4
        try clear hfz30_5
        try clear hfz30_6
        try clear hfz30_7
        try clear hfz30_8
        try clear hfz30_9
        try clear p2
        obtain ⟨kq, x118008_24, x118009_24, HA, HJ24, BK101, BK117, HI0, HK, HB⟩ := hcut
        cases kq with
        | zero => exact absurd HA.out (by simp [thermionkit_LawOf.j1])
        | succ kj24 =>
          have H := HA.out
          clear HA
          simp only [thermionkit_LawOf.j1] at H
          replace H := Option.bind_eq_some_iff.mp H
          obtain ⟨⟨t122, t123⟩, A310, H⟩ := H
          replace H : (if t122 = true then ((thermionkit_Dice_Between.f t123 1 400).bind fun bt124 => (some (t102, t103, 1, bt124.1, t108, t109, x118006_7, x118007_7, x118008_24, x118009_24, bt124.2))) else (some (t102, t103, t105, t106, t108, t109, x118006_7, x118007_7, x118008_24, x118009_24, t123))) = some (r1, r2, r3, r4, r5, r6, r7, r8, r9, r10, r11) := H
          have A31 := Aside0.mk A310
          clear A310
          by_cases c32 : t122 = true
          · subst c32
            have H1 : ((thermionkit_Dice_Between.f t123 1 400).bind fun bt124 => (some (t102, t103, 1, bt124.1, t108, t109, x118006_7, x118007_7, x118008_24, x118009_24, bt124.2))) = some (r1, r2, r3, r4, r5, r6, r7, r8, r9, r10, r11) := by rw [if_pos rfl] at H; exact H
            clear H
            have H := H1
            clear H1
            replace H := Option.bind_eq_some_iff.mp H
            obtain ⟨⟨t124, t125⟩, A330, H⟩ := H
            replace H : (some (t102, t103, 1, t124, t108, t109, x118006_7, x118007_7, x118008_24, x118009_24, t125)) = some (r1, r2, r3, r4, r5, r6, r7, r8, r9, r10, r11) := H
            have A33 := Aside0.mk A330
            clear A330
            simp only [Option.some.injEq, Prod.mk.injEq] at H
            obtain ⟨rfl, rfl, rfl, rfl, rfl, rfl, rfl, rfl, rfl, rfl, rfl⟩ := H
            go_wp2_with (first | ((with_reducible refine gate_callee (f := 50) rfl ?_); refine goesL_ (some 24) rfl rfl Try.func50 (by kernel_rfl) rfl #[.pointer (some ⟨g, 0, none⟩), .int .i64 8] rfl (by (try simp only [List.map_toArray, List.map_cons, List.map_nil]); first | done | rfl | (simp only [List.length_drop, List.length_take]; rfl)) ?_; (with_reducible refine (thermionkit_Dice_One.calls g t121 8 true t123 w0 _ ?side1 ?side2 A31.out).mono ?_); (case side1 => repeat (first | (with_reducible first | exact HI0.out | apply IsS83.alloc | apply IsS83.drewN | apply IsS83.drew | apply IsS83.set_0 | refine IsS83.far ?_ NB0_101.out _ | refine IsS83.far ?_ NB0_117.out _) | exact HI0.out)); (case side2 => repeat (first | (with_reducible first | exact HB.out | apply qA | apply qN | apply qD | refine below_set ?_ (IsS83.ge HI0.out) | refine below_set ?_ GE101.out | refine below_set ?_ GE117.out) | exact HB.out)); rintro e w34 ⟨rfl, hi, hb, hk⟩; refine ⟨_, rfl, ?_⟩; have n0_ := Aside0.mk (KeepBut.blk hk (g' := gb101) (o := .cells #[.int .i64 0, .int .i64 0, .int .i64 0, .int .i64 0, .int .i64 0, .int .i64 0, .int .i64 0, .int .i64 0, .int .i64 0, .int .i64 0] 42 (0, 0)) (by (with_reducible repeat (first | refine qn ?_ _ | refine qd ?_ | refine qa ?_ _)); exact BK101.out) NB101_0.out (by simp)); have n1_ := Aside0.mk (KeepBut.blk hk (g' := gb117) (o := .cells #[.int .i64 t102, .int .i64 t103, .int .i64 t105, .int .i64 t106, .int .i64 t108, .int .i64 t109, .int .i64 x118006_7, .int .i64 x118007_7, .int .i64 x118008_24, .int .i64 x118009_24] 42 (0, 0)) (by (with_reducible repeat (first | refine qn ?_ _ | refine qd ?_ | refine qa ?_ _)); exact BK117.out) NB117_0.out (by simp)); have n2_ := Aside0.mk (KeepBut.trans (by repeat (first | (with_reducible first | exact HK.out | apply KeepBut.set_ | apply keep_drewN | apply keep_drew | apply keep_alloc | refine keep_far ?_ GW101.out _ | refine keep_far ?_ GW117.out _) | exact HK.out)) hk (.inl rfl)); have n3_ := Aside0.mk (hb); have n4_ := Aside0.mk (hi); clear BK101; clear BK117; clear HK; clear HB; clear HI0; have BK101 := n0_; have BK117 := n1_; have HK := n2_; have HB := n3_; have HI0 := n4_; clear n0_ n1_ n2_ n3_ n4_; (try clear hb); (try clear hb2); (try clear hk); (try clear hi)) | ((with_reducible refine gate_callee (f := 20) rfl ?_); refine goesL_ (some 26) rfl rfl Try.func20 (by kernel_rfl) rfl #[.pointer (some ⟨g, 0, none⟩), .int .i64 1, .int .i64 400] rfl (by (try simp only [List.map_toArray, List.map_cons, List.map_nil]); first | done | rfl | (simp only [List.length_drop, List.length_take]; rfl)) ?_; (with_reducible refine (thermionkit_Dice_Between.calls g t123 1 400 t124 t125 w0 _ ?side1 ?side2 A33.out).mono ?_); (case side1 => repeat (first | (with_reducible first | exact HI0.out | apply IsS83.alloc | apply IsS83.drewN | apply IsS83.drew | apply IsS83.set_0 | refine IsS83.far ?_ NB0_101.out _ | refine IsS83.far ?_ NB0_117.out _) | exact HI0.out)); (case side2 => repeat (first | (with_reducible first | exact HB.out | apply qA | apply qN | apply qD | refine below_set ?_ (IsS83.ge HI0.out) | refine below_set ?_ GE101.out | refine below_set ?_ GE117.out) | exact HB.out)); rintro e w35 ⟨rfl, hi, hb, hk⟩; refine ⟨_, rfl, ?_⟩; have n0_ := Aside0.mk (KeepBut.blk hk (g' := gb101) (o := .cells #[.int .i64 0, .int .i64 0, .int .i64 0, .int .i64 0, .int .i64 0, .int .i64 0, .int .i64 0, .int .i64 0, .int .i64 0, .int .i64 0] 42 (0, 0)) (by (with_reducible repeat (first | refine qn ?_ _ | refine qd ?_ | refine qa ?_ _)); exact BK101.out) NB101_0.out (by simp)); have n1_ := Aside0.mk (KeepBut.blk hk (g' := gb117) (o := .cells #[.int .i64 t102, .int .i64 t103, .int .i64 t105, .int .i64 t106, .int .i64 t108, .int .i64 t109, .int .i64 x118006_7, .int .i64 x118007_7, .int .i64 x118008_24, .int .i64 x118009_24] 42 (0, 0)) (by (with_reducible repeat (first | refine qn ?_ _ | refine qd ?_ | refine qa ?_ _)); exact BK117.out) NB117_0.out (by simp)); have n2_ := Aside0.mk (KeepBut.trans (by repeat (first | (with_reducible first | exact HK.out | apply KeepBut.set_ | apply keep_drewN | apply keep_drew | apply keep_alloc | refine keep_far ?_ GW101.out _ | refine keep_far ?_ GW117.out _) | exact HK.out)) hk (.inl rfl)); have n3_ := Aside0.mk (hb); have n4_ := Aside0.mk (hi); clear BK101; clear BK117; clear HK; clear HB; clear HI0; have BK101 := n0_; have BK117 := n1_; have HK := n2_; have HB := n3_; have HI0 := n4_; clear n0_ n1_ n2_ n3_ n4_; (try clear hb); (try clear hb2); (try clear hk); (try clear hi); have hnb36 := NB117_101.out; have hnc36 := NB101_117.out; have hnb37 := NB117_0.out; have hnc37 := NB0_117.out; have hcz38_0 : w35.cell? ⟨gb117, 0, none⟩ = some (.int .i64 t102) := (blk_cell BK117.out 0).trans rfl; have hcz38_1 : w35.cell? ⟨gb117, 1, none⟩ = some (.int .i64 t103) := (blk_cell BK117.out 1).trans rfl; have hcz38_2 : w35.cell? ⟨gb117, 2, none⟩ = some (.int .i64 t105) := (blk_cell BK117.out 2).trans rfl; have hcz38_3 : w35.cell? ⟨gb117, 3, none⟩ = some (.int .i64 t106) := (blk_cell BK117.out 3).trans rfl; have hcz38_4 : w35.cell? ⟨gb117, 4, none⟩ = some (.int .i64 t108) := (blk_cell BK117.out 4).trans rfl; have hcz38_5 : w35.cell? ⟨gb117, 5, none⟩ = some (.int .i64 t109) := (blk_cell BK117.out 5).trans rfl; have hcz38_6 : w35.cell? ⟨gb117, 6, none⟩ = some (.int .i64 x118006_7) := (blk_cell BK117.out 6).trans rfl; have hcz38_7 : w35.cell? ⟨gb117, 7, none⟩ = some (.int .i64 x118007_7) := (blk_cell BK117.out 7).trans rfl; have hcz38_8 : w35.cell? ⟨gb117, 8, none⟩ = some (.int .i64 x118008_24) := (blk_cell BK117.out 8).trans rfl; have hcz38_9 : w35.cell? ⟨gb117, 9, none⟩ = some (.int .i64 x118009_24) := (blk_cell BK117.out 9).trans rfl; have hfz38_0 := blk_frozen BK117.out 0; have hfz38_1 := blk_frozen BK117.out 1; have hfz38_2 := blk_frozen BK117.out 2; have hfz38_3 := blk_frozen BK117.out 3; have hfz38_4 := blk_frozen BK117.out 4; have hfz38_5 := blk_frozen BK117.out 5; have hfz38_6 := blk_frozen BK117.out 6; have hfz38_7 := blk_frozen BK117.out 7; have hfz38_8 := blk_frozen BK117.out 8; have hfz38_9 := blk_frozen BK117.out 9; have hnb39 := NB101_0.out; have hnc39 := NB0_101.out; have hcz40_0 : w35.cell? ⟨gb101, 0, none⟩ = some (.int .i64 0) := (blk_cell BK101.out 0).trans rfl; have hcz40_1 : w35.cell? ⟨gb101, 1, none⟩ = some (.int .i64 0) := (blk_cell BK101.out 1).trans rfl; have hcz40_2 : w35.cell? ⟨gb101, 2, none⟩ = some (.int .i64 0) := (blk_cell BK101.out 2).trans rfl; have hcz40_3 : w35.cell? ⟨gb101, 3, none⟩ = some (.int .i64 0) := (blk_cell BK101.out 3).trans rfl; have hcz40_4 : w35.cell? ⟨gb101, 4, none⟩ = some (.int .i64 0) := (blk_cell BK101.out 4).trans rfl; have hcz40_5 : w35.cell? ⟨gb101, 5, none⟩ = some (.int .i64 0) := (blk_cell BK101.out 5).trans rfl; have hcz40_6 : w35.cell? ⟨gb101, 6, none⟩ = some (.int .i64 0) := (blk_cell BK101.out 6).trans rfl; have hcz40_7 : w35.cell? ⟨gb101, 7, none⟩ = some (.int .i64 0) := (blk_cell BK101.out 7).trans rfl; have hcz40_8 : w35.cell? ⟨gb101, 8, none⟩ = some (.int .i64 0) := (blk_cell BK101.out 8).trans rfl; have hcz40_9 : w35.cell? ⟨gb101, 9, none⟩ = some (.int .i64 0) := (blk_cell BK101.out 9).trans rfl; have hfz40_0 := blk_frozen BK101.out 0; have hfz40_1 := blk_frozen BK101.out 1; have hfz40_2 := blk_frozen BK101.out 2; have hfz40_3 := blk_frozen BK101.out 3; have hfz40_4 := blk_frozen BK101.out 4; have hfz40_5 := blk_frozen BK101.out 5; have hfz40_6 := blk_frozen BK101.out 6; have hfz40_7 := blk_frozen BK101.out 7; have hfz40_8 := blk_frozen BK101.out 8; have hfz40_9 := blk_frozen BK101.out 9))
            refine bodyPost_ret (results_cell_row rfl _ _ gb101 42 #[.int .i64 t102, .int .i64 t103, .int .i64 1, .int .i64 t124, .int .i64 t108, .int .i64 t109, .int .i64 x118006_7, .int .i64 x118007_7, .int .i64 x118008_24, .int .i64 x118009_24] (0, 0) _ rfl (by (with_reducible repeat (first | refine qn ?_ _ | refine qd ?_ | refine qa ?_ _)); refine blk_put (cs := #[.int .i64 t102, .int .i64 t103, .int .i64 1, .int .i64 t124, .int .i64 t108, .int .i64 t109, .int .i64 x118006_7, .int .i64 x118007_7, .int .i64 x118008_24, .int .i64 0]) ?_ 9 _ rfl; (with_reducible repeat (first | refine qn ?_ _ | refine qd ?_ | refine qa ?_ _)); refine blk_put (cs := #[.int .i64 t102, .int .i64 t103, .int .i64 1, .int .i64 t124, .int .i64 t108, .int .i64 t109, .int .i64 x118006_7, .int .i64 x118007_7, .int .i64 0, .int .i64 0]) ?_ 8 _ rfl; (with_reducible repeat (first | refine qn ?_ _ | refine qd ?_ | refine qa ?_ _)); refine blk_put (cs := #[.int .i64 t102, .int .i64 t103, .int .i64 1, .int .i64 t124, .int .i64 t108, .int .i64 t109, .int .i64 x118006_7, .int .i64 0, .int .i64 0, .int .i64 0]) ?_ 7 _ rfl; (with_reducible repeat (first | refine qn ?_ _ | refine qd ?_ | refine qa ?_ _)); refine blk_put (cs := #[.int .i64 t102, .int .i64 t103, .int .i64 1, .int .i64 t124, .int .i64 t108, .int .i64 t109, .int .i64 0, .int .i64 0, .int .i64 0, .int .i64 0]) ?_ 6 _ rfl; (with_reducible repeat (first | refine qn ?_ _ | refine qd ?_ | refine qa ?_ _)); refine blk_put (cs := #[.int .i64 t102, .int .i64 t103, .int .i64 1, .int .i64 t124, .int .i64 t108, .int .i64 0, .int .i64 0, .int .i64 0, .int .i64 0, .int .i64 0]) ?_ 5 _ rfl; (with_reducible repeat (first | refine qn ?_ _ | refine qd ?_ | refine qa ?_ _)); refine blk_put (cs := #[.int .i64 t102, .int .i64 t103, .int .i64 1, .int .i64 t124, .int .i64 0, .int .i64 0, .int .i64 0, .int .i64 0, .int .i64 0, .int .i64 0]) ?_ 4 _ rfl; (with_reducible repeat (first | refine qn ?_ _ | refine qd ?_ | refine qa ?_ _)); refine blk_put (cs := #[.int .i64 t102, .int .i64 t103, .int .i64 1, .int .i64 0, .int .i64 0, .int .i64 0, .int .i64 0, .int .i64 0, .int .i64 0, .int .i64 0]) ?_ 3 _ rfl; (with_reducible repeat (first | refine qn ?_ _ | refine qd ?_ | refine qa ?_ _)); refine blk_put (cs := #[.int .i64 t102, .int .i64 t103, .int .i64 0, .int .i64 0, .int .i64 0, .int .i64 0, .int .i64 0, .int .i64 0, .int .i64 0, .int .i64 0]) ?_ 2 _ rfl; (with_reducible repeat (first | refine qn ?_ _ | refine qd ?_ | refine qa ?_ _)); refine blk_put (cs := #[.int .i64 t102, .int .i64 0, .int .i64 0, .int .i64 0, .int .i64 0, .int .i64 0, .int .i64 0, .int .i64 0, .int .i64 0, .int .i64 0]) ?_ 1 _ rfl; (with_reducible repeat (first | refine qn ?_ _ | refine qd ?_ | refine qa ?_ _)); refine blk_put (cs := #[.int .i64 0, .int .i64 0, .int .i64 0, .int .i64 0, .int .i64 0, .int .i64 0, .int .i64 0, .int .i64 0, .int .i64 0, .int .i64 0]) ?_ 0 _ rfl; (with_reducible repeat (first | refine qn ?_ _ | refine qd ?_ | refine qa ?_ _)); refine blk_far ?_ NB101_117.out _; (with_reducible repeat (first | refine qn ?_ _ | refine qd ?_ | refine qa ?_ _)); refine blk_far ?_ NB101_117.out _; (with_reducible repeat (first | refine qn ?_ _ | refine qd ?_ | refine qa ?_ _)); exact BK101.out) Try.underlying42 rfl (by kernel_rfl)) rfl ?_
            exact ⟨by first | rfl | (simp [errW_none, errW_some] <;> rfl) | (simp [*, errW_none, errW_some] <;> rfl), by repeat (first | (with_reducible first | exact HI0.out | apply IsS83.alloc | apply IsS83.drewN | apply IsS83.drew | apply IsS83.set_0 | refine IsS83.far ?_ NB0_101.out _ | refine IsS83.far ?_ NB0_117.out _) | exact HI0.out), by repeat (first | (with_reducible first | exact HB.out | apply qA | apply qN | apply qD | refine below_set ?_ (IsS83.ge HI0.out) | refine below_set ?_ GE101.out | refine below_set ?_ GE117.out) | exact HB.out), by repeat (first | (with_reducible first | exact HK.out | apply KeepBut.set_ | apply keep_drewN | apply keep_drew | apply keep_alloc | refine keep_far ?_ GW101.out _ | refine keep_far ?_ GW117.out _) | exact HK.out)⟩
          · replace c32 := Bool.eq_false_iff.mpr c32
            subst c32
            have H1 : (some (t102, t103, t105, t106, t108, t109, x118006_7, x118007_7, x118008_24, x118009_24, t123)) = some (r1, r2, r3, r4, r5, r6, r7, r8, r9, r10, r11) := by rw [if_neg (show ¬ (false = true) by decide)] at H; exact H
            clear H
            have H := H1
            clear H1
            simp only [Option.some.injEq, Prod.mk.injEq] at H
            obtain ⟨rfl, rfl, rfl, rfl, rfl, rfl, rfl, rfl, rfl, rfl, rfl⟩ := H
            go_wp2_with (first | ((with_reducible refine gate_callee (f := 50) rfl ?_); refine goesL_ (some 24) rfl rfl Try.func50 (by kernel_rfl) rfl #[.pointer (some ⟨g, 0, none⟩), .int .i64 8] rfl (by (try simp only [List.map_toArray, List.map_cons, List.map_nil]); first | done | rfl | (simp only [List.length_drop, List.length_take]; rfl)) ?_; (with_reducible refine (thermionkit_Dice_One.calls g t121 8 false t123 w0 _ ?side1 ?side2 A31.out).mono ?_); (case side1 => repeat (first | (with_reducible first | exact HI0.out | apply IsS83.alloc | apply IsS83.drewN | apply IsS83.drew | apply IsS83.set_0 | refine IsS83.far ?_ NB0_101.out _ | refine IsS83.far ?_ NB0_117.out _) | exact HI0.out)); (case side2 => repeat (first | (with_reducible first | exact HB.out | apply qA | apply qN | apply qD | refine below_set ?_ (IsS83.ge HI0.out) | refine below_set ?_ GE101.out | refine below_set ?_ GE117.out) | exact HB.out)); rintro e w41 ⟨rfl, hi, hb, hk⟩; refine ⟨_, rfl, ?_⟩; have n0_ := Aside0.mk (KeepBut.blk hk (g' := gb101) (o := .cells #[.int .i64 0, .int .i64 0, .int .i64 0, .int .i64 0, .int .i64 0, .int .i64 0, .int .i64 0, .int .i64 0, .int .i64 0, .int .i64 0] 42 (0, 0)) (by (with_reducible repeat (first | refine qn ?_ _ | refine qd ?_ | refine qa ?_ _)); exact BK101.out) NB101_0.out (by simp)); have n1_ := Aside0.mk (KeepBut.blk hk (g' := gb117) (o := .cells #[.int .i64 t102, .int .i64 t103, .int .i64 t105, .int .i64 t106, .int .i64 t108, .int .i64 t109, .int .i64 x118006_7, .int .i64 x118007_7, .int .i64 x118008_24, .int .i64 x118009_24] 42 (0, 0)) (by (with_reducible repeat (first | refine qn ?_ _ | refine qd ?_ | refine qa ?_ _)); exact BK117.out) NB117_0.out (by simp)); have n2_ := Aside0.mk (KeepBut.trans (by repeat (first | (with_reducible first | exact HK.out | apply KeepBut.set_ | apply keep_drewN | apply keep_drew | apply keep_alloc | refine keep_far ?_ GW101.out _ | refine keep_far ?_ GW117.out _) | exact HK.out)) hk (.inl rfl)); have n3_ := Aside0.mk (hb); have n4_ := Aside0.mk (hi); clear BK101; clear BK117; clear HK; clear HB; clear HI0; have BK101 := n0_; have BK117 := n1_; have HK := n2_; have HB := n3_; have HI0 := n4_; clear n0_ n1_ n2_ n3_ n4_; (try clear hb); (try clear hb2); (try clear hk); (try clear hi); have hnb42 := NB117_101.out; have hnc42 := NB101_117.out; have hnb43 := NB117_0.out; have hnc43 := NB0_117.out; have hcz44_0 : w41.cell? ⟨gb117, 0, none⟩ = some (.int .i64 t102) := (blk_cell BK117.out 0).trans rfl; have hcz44_1 : w41.cell? ⟨gb117, 1, none⟩ = some (.int .i64 t103) := (blk_cell BK117.out 1).trans rfl; have hcz44_2 : w41.cell? ⟨gb117, 2, none⟩ = some (.int .i64 t105) := (blk_cell BK117.out 2).trans rfl; have hcz44_3 : w41.cell? ⟨gb117, 3, none⟩ = some (.int .i64 t106) := (blk_cell BK117.out 3).trans rfl; have hcz44_4 : w41.cell? ⟨gb117, 4, none⟩ = some (.int .i64 t108) := (blk_cell BK117.out 4).trans rfl; have hcz44_5 : w41.cell? ⟨gb117, 5, none⟩ = some (.int .i64 t109) := (blk_cell BK117.out 5).trans rfl; have hcz44_6 : w41.cell? ⟨gb117, 6, none⟩ = some (.int .i64 x118006_7) := (blk_cell BK117.out 6).trans rfl; have hcz44_7 : w41.cell? ⟨gb117, 7, none⟩ = some (.int .i64 x118007_7) := (blk_cell BK117.out 7).trans rfl; have hcz44_8 : w41.cell? ⟨gb117, 8, none⟩ = some (.int .i64 x118008_24) := (blk_cell BK117.out 8).trans rfl; have hcz44_9 : w41.cell? ⟨gb117, 9, none⟩ = some (.int .i64 x118009_24) := (blk_cell BK117.out 9).trans rfl; have hfz44_0 := blk_frozen BK117.out 0; have hfz44_1 := blk_frozen BK117.out 1; have hfz44_2 := blk_frozen BK117.out 2; have hfz44_3 := blk_frozen BK117.out 3; have hfz44_4 := blk_frozen BK117.out 4; have hfz44_5 := blk_frozen BK117.out 5; have hfz44_6 := blk_frozen BK117.out 6; have hfz44_7 := blk_frozen BK117.out 7; have hfz44_8 := blk_frozen BK117.out 8; have hfz44_9 := blk_frozen BK117.out 9; have hnb45 := NB101_0.out; have hnc45 := NB0_101.out; have hcz46_0 : w41.cell? ⟨gb101, 0, none⟩ = some (.int .i64 0) := (blk_cell BK101.out 0).trans rfl; have hcz46_1 : w41.cell? ⟨gb101, 1, none⟩ = some (.int .i64 0) := (blk_cell BK101.out 1).trans rfl; have hcz46_2 : w41.cell? ⟨gb101, 2, none⟩ = some (.int .i64 0) := (blk_cell BK101.out 2).trans rfl; have hcz46_3 : w41.cell? ⟨gb101, 3, none⟩ = some (.int .i64 0) := (blk_cell BK101.out 3).trans rfl; have hcz46_4 : w41.cell? ⟨gb101, 4, none⟩ = some (.int .i64 0) := (blk_cell BK101.out 4).trans rfl; have hcz46_5 : w41.cell? ⟨gb101, 5, none⟩ = some (.int .i64 0) := (blk_cell BK101.out 5).trans rfl; have hcz46_6 : w41.cell? ⟨gb101, 6, none⟩ = some (.int .i64 0) := (blk_cell BK101.out 6).trans rfl; have hcz46_7 : w41.cell? ⟨gb101, 7, none⟩ = some (.int .i64 0) := (blk_cell BK101.out 7).trans rfl; have hcz46_8 : w41.cell? ⟨gb101, 8, none⟩ = some (.int .i64 0) := (blk_cell BK101.out 8).trans rfl; have hcz46_9 : w41.cell? ⟨gb101, 9, none⟩ = some (.int .i64 0) := (blk_cell BK101.out 9).trans rfl; have hfz46_0 := blk_frozen BK101.out 0; have hfz46_1 := blk_frozen BK101.out 1; have hfz46_2 := blk_frozen BK101.out 2; have hfz46_3 := blk_frozen BK101.out 3; have hfz46_4 := blk_frozen BK101.out 4; have hfz46_5 := blk_frozen BK101.out 5; have hfz46_6 := blk_frozen BK101.out 6; have hfz46_7 := blk_frozen BK101.out 7; have hfz46_8 := blk_frozen BK101.out 8; have hfz46_9 := blk_frozen BK101.out 9))
            refine bodyPost_ret (results_cell_row rfl _ _ gb101 42 #[.int .i64 t102, .int .i64 t103, .int .i64 t105, .int .i64 t106, .int .i64 t108, .int .i64 t109, .int .i64 x118006_7, .int .i64 x118007_7, .int .i64 x118008_24, .int .i64 x118009_24] (0, 0) _ rfl (by (with_reducible repeat (first | refine qn ?_ _ | refine qd ?_ | refine qa ?_ _)); refine blk_put (cs := #[.int .i64 t102, .int .i64 t103, .int .i64 t105, .int .i64 t106, .int .i64 t108, .int .i64 t109, .int .i64 x118006_7, .int .i64 x118007_7, .int .i64 x118008_24, .int .i64 0]) ?_ 9 _ rfl; (with_reducible repeat (first | refine qn ?_ _ | refine qd ?_ | refine qa ?_ _)); refine blk_put (cs := #[.int .i64 t102, .int .i64 t103, .int .i64 t105, .int .i64 t106, .int .i64 t108, .int .i64 t109, .int .i64 x118006_7, .int .i64 x118007_7, .int .i64 0, .int .i64 0]) ?_ 8 _ rfl; (with_reducible repeat (first | refine qn ?_ _ | refine qd ?_ | refine qa ?_ _)); refine blk_put (cs := #[.int .i64 t102, .int .i64 t103, .int .i64 t105, .int .i64 t106, .int .i64 t108, .int .i64 t109, .int .i64 x118006_7, .int .i64 0, .int .i64 0, .int .i64 0]) ?_ 7 _ rfl; (with_reducible repeat (first | refine qn ?_ _ | refine qd ?_ | refine qa ?_ _)); refine blk_put (cs := #[.int .i64 t102, .int .i64 t103, .int .i64 t105, .int .i64 t106, .int .i64 t108, .int .i64 t109, .int .i64 0, .int .i64 0, .int .i64 0, .int .i64 0]) ?_ 6 _ rfl; (with_reducible repeat (first | refine qn ?_ _ | refine qd ?_ | refine qa ?_ _)); refine blk_put (cs := #[.int .i64 t102, .int .i64 t103, .int .i64 t105, .int .i64 t106, .int .i64 t108, .int .i64 0, .int .i64 0, .int .i64 0, .int .i64 0, .int .i64 0]) ?_ 5 _ rfl; (with_reducible repeat (first | refine qn ?_ _ | refine qd ?_ | refine qa ?_ _)); refine blk_put (cs := #[.int .i64 t102, .int .i64 t103, .int .i64 t105, .int .i64 t106, .int .i64 0, .int .i64 0, .int .i64 0, .int .i64 0, .int .i64 0, .int .i64 0]) ?_ 4 _ rfl; (with_reducible repeat (first | refine qn ?_ _ | refine qd ?_ | refine qa ?_ _)); refine blk_put (cs := #[.int .i64 t102, .int .i64 t103, .int .i64 t105, .int .i64 0, .int .i64 0, .int .i64 0, .int .i64 0, .int .i64 0, .int .i64 0, .int .i64 0]) ?_ 3 _ rfl; (with_reducible repeat (first | refine qn ?_ _ | refine qd ?_ | refine qa ?_ _)); refine blk_put (cs := #[.int .i64 t102, .int .i64 t103, .int .i64 0, .int .i64 0, .int .i64 0, .int .i64 0, .int .i64 0, .int .i64 0, .int .i64 0, .int .i64 0]) ?_ 2 _ rfl; (with_reducible repeat (first | refine qn ?_ _ | refine qd ?_ | refine qa ?_ _)); refine blk_put (cs := #[.int .i64 t102, .int .i64 0, .int .i64 0, .int .i64 0, .int .i64 0, .int .i64 0, .int .i64 0, .int .i64 0, .int .i64 0, .int .i64 0]) ?_ 1 _ rfl; (with_reducible repeat (first | refine qn ?_ _ | refine qd ?_ | refine qa ?_ _)); refine blk_put (cs := #[.int .i64 0, .int .i64 0, .int .i64 0, .int .i64 0, .int .i64 0, .int .i64 0, .int .i64 0, .int .i64 0, .int .i64 0, .int .i64 0]) ?_ 0 _ rfl; (with_reducible repeat (first | refine qn ?_ _ | refine qd ?_ | refine qa ?_ _)); exact BK101.out) Try.underlying42 rfl (by kernel_rfl)) rfl ?_
            exact ⟨by first | rfl | (simp [errW_none, errW_some] <;> rfl) | (simp [*, errW_none, errW_some] <;> rfl), by repeat (first | (with_reducible first | exact HI0.out | apply IsS83.alloc | apply IsS83.drewN | apply IsS83.drew | apply IsS83.set_0 | refine IsS83.far ?_ NB0_101.out _ | refine IsS83.far ?_ NB0_117.out _) | exact HI0.out), by repeat (first | (with_reducible first | exact HB.out | apply qA | apply qN | apply qD | refine below_set ?_ (IsS83.ge HI0.out) | refine below_set ?_ GE101.out | refine below_set ?_ GE117.out) | exact HB.out), by repeat (first | (with_reducible first | exact HK.out | apply KeepBut.set_ | apply keep_drewN | apply keep_drew | apply keep_alloc | refine keep_far ?_ GW101.out _ | refine keep_far ?_ GW117.out _) | exact HK.out)⟩

end Go.Proofs.Ytbomgfbfnkfamaa.PAll
end
section
namespace Go.Proofs.Ytbomgfbfnkfamaa.PAll
open Go.RowKit Go.Proofs.YtbomgfbfnkfamaaW.PrintWords Go.Proofs.YtbomgfbfnkfamaaW.PrintLast Go.Proofs.YtbomgfbfnkfamaaW.PrintMore
attribute [local go_sem] max2_int min2_int max_two min_two max_three min_three max_four min_four   -- for this text's walks alone
set_option linter.unusedVariables false
set_option linter.unusedSimpArgs false

/-! ### thermionkit_Mod: function 26 -/
def thermionkit_Mod.f (a0 : Int) (a1 : Int) : Option (Int) := if a1 < 1 then (some 0) else (if a1 = 0 then (none) else (if (Int.tmod a0 a1) < 0 then (some (wrap64 ((Int.tmod a0 a1) + a1))) else (some (Int.tmod a0 a1))))
set_option maxHeartbeats 8000000 in
set_option maxRecDepth 100000 in
theorem thermionkit_Mod.calls (a0 : Int) (a1 : Int) (r : Int) (w : World) (h : thermionkit_Mod.f a0 a1 = some r) :
    Calls Try.prog 26 #[.int .i64 a0, .int .i64 a1] w fun e w' => e = .returned (.int .i64 r) ∧ Drawn0 w w' := by
  have H : (if a1 < 1 then (some 0) else (if a1 = 0 then (none) else (if (Int.tmod a0 a1) < 0 then (some (wrap64 ((Int.tmod a0 a1) + a1))) else (some (Int.tmod a0 a1))))) = some r := h
  clear h
  by_cases c3 : a1 < 1
  · rw [if_pos c3] at H
    have c3b0 : decide (a1 < 1) = true := decide_eq_true c3
    clear c3
    obtain rfl := Option.some.inj H
    go_enter Try.func26, Try.ntmps26
    go_wp2
    go_ret
    exact ⟨by first | rfl | (simp; done) | (simp [*]; done), by repeat (first | exact Drawn0.refl _ | apply Drawn0.step)⟩
  · rw [if_neg c3] at H
    have c3b0 : decide (a1 < 1) = false := decide_eq_false c3
    clear c3
    by_cases c4 : a1 = 0
    · rw [if_pos c4] at H
      exact absurd H (by simp)
    · rw [if_neg c4] at H
      have c4b0 : (a1 == 0) = false := beq_eq_false_iff_ne.mpr c4
      have c4b1 : (a1 != 0) = true := bne_iff_ne.mpr c4
      by_cases c5 : (Int.tmod a0 a1) < 0
      · rw [if_pos c5] at H
        have c5b0 : decide ((Int.tmod a0 a1) < 0) = true := decide_eq_true c5
        clear c5
        obtain rfl := Option.some.inj H
        go_enter Try.func26, Try.ntmps26
        go_wp2
        go_ret
        exact ⟨by first | rfl | (simp; done) | (simp [*]; done), by repeat (first | exact Drawn0.refl _ | apply Drawn0.step)⟩
      · rw [if_neg c5] at H
        have c5b0 : decide ((Int.tmod a0 a1) < 0) = false := decide_eq_false c5
        clear c5
        obtain rfl := Option.some.inj H
        go_enter Try.func26, Try.ntmps26
        go_wp2
        go_ret
        exact ⟨by first | rfl | (simp; done) | (simp [*]; done), by repeat (first | exact Drawn0.refl _ | apply Drawn0.step)⟩

end Go.Proofs.Ytbomgfbfnkfamaa.PAll
end
section
namespace Go.Proofs.Ytbomgfbfnkfamaa.PAll
open Go.RowKit Go.Proofs.YtbomgfbfnkfamaaW.PrintWords Go.Proofs.YtbomgfbfnkfamaaW.PrintLast Go.Proofs.YtbomgfbfnkfamaaW.PrintMore
attribute [local go_sem] max2_int min2_int max_two min_two max_three min_three max_four min_four   -- for this text's walks alone
set_option linter.unusedVariables false
set_option linter.unusedSimpArgs false

/-! ### thermionlaw02_roots: function 24 -/
def thermionlaw02_roots.f (k : Nat) (a0 : Int) (a1 : Int) : Option (Bool) := (thermionkit_Mod.f a0 1001).bind fun t101 => ((thermionkit_Mod.f a1 10000).bind fun t102 => ((thermionlaw02_alone.f t101).bind fun bt103 => ((thermionlaw02_alone.f 1000).bind fun bt105 => ((thermionlaw02_alone.f 0).bind fun bt107 => ((thermionlaw02_alone.f 1000000).bind fun bt109 => ((thermionlaw02_alone.f 1000000).bind fun bt111 => ((curve_Current.f k bt103.1 bt103.2 bt105.1 bt105.2 bt107.1 bt107.2 bt109.1 bt109.2 bt111.1 bt111.2 (wrap64 (1 + t102)) 0).bind fun bt114 => (if bt114.2.2 = 0 then (if bt114.1 ≥ 0 then (if bt114.2.1 ≤ 1001 then (if (wrap64 ((wrap64 (1000000 * bt114.1)) * (wrap64 (1000000 * bt114.1)))) ≤ (wrap64 ((wrap64 ((wrap64 ((wrap64 (t101 * t101)) * (wrap64 (1 + t102)))) * (wrap64 (1 + t102)))) * (wrap64 (1 + t102)))) then (if (wrap64 ((wrap64 (1000000 * bt114.2.1)) * (wrap64 (1000000 * bt114.2.1)))) ≥ (wrap64 ((wrap64 ((wrap64 ((wrap64 (t101 * t101)) * (wrap64 (1 + t102)))) * (wrap64 (1 + t102)))) * (wrap64 (1 + t102)))) then (some (decide ((wrap64 (bt114.2.1 - bt114.1)) ≤ 2))) else (none)) else (none)) else (none)) else (none)) else (none)))))))))
theorem thermionlaw02_roots.mono : ∀ a0 a1 k, LeO (thermionlaw02_roots.f k a0 a1) (thermionlaw02_roots.f (k + 1) a0 a1) := by
  intro a0 a1 k
  unfold thermionlaw02_roots.f
  repeat' first
      | (with_reducible exact curve_Current.mono _ _ _ _ _ _ _ _ _ _ _ _ _)
      | (with_reducible exact LeO.refl _)
      | (with_reducible exact LeO.none _)
      | (with_reducible refine LeO.ite ?_ ?_)
      | (with_reducible refine LeO.bind ?_ (fun _ => ?_))
      | exact curve_Current.mono _ _ _ _ _ _ _ _ _ _ _ _ _
      | exact LeO.none _
      | refine LeO.ite ?_ ?_
      | refine LeO.bind ?_ (fun _ => ?_)
set_option maxHeartbeats 8000000 in
set_option maxRecDepth 100000 in
theorem thermionlaw02_roots.calls (k : Nat) (a0 : Int) (a1 : Int) (r : Bool) (w : World) (h : thermionlaw02_roots.f k a0 a1 = some r) :
    Calls Try.prog 24 #[.int .i64 a0, .int .i64 a1] w fun e w' => e = .returned (.bool r) ∧ Below w.heap.size w w' := by
  have hu42 := Try.underlying42
  have hu35 := Try.underlying35
  have HB := Aside0.mk (Below.refl w.heap.size w)
  have H : ((thermionkit_Mod.f a0 1001).bind fun t101 => ((thermionkit_Mod.f a1 10000).bind fun t102 => ((thermionlaw02_alone.f t101).bind fun bt103 => ((thermionlaw02_alone.f 1000).bind fun bt105 => ((thermionlaw02_alone.f 0).bind fun bt107 => ((thermionlaw02_alone.f 1000000).bind fun bt109 => ((thermionlaw02_alone.f 1000000).bind fun bt111 => ((curve_Current.f k bt103.1 bt103.2 bt105.1 bt105.2 bt107.1 bt107.2 bt109.1 bt109.2 bt111.1 bt111.2 (wrap64 (1 + t102)) 0).bind fun bt114 => (if bt114.2.2 = 0 then (if bt114.1 ≥ 0 then (if bt114.2.1 ≤ 1001 then (if (wrap64 ((wrap64 (1000000 * bt114.1)) * (wrap64 (1000000 * bt114.1)))) ≤ (wrap64 ((wrap64 ((wrap64 ((wrap64 (t101 * t101)) * (wrap64 (1 + t102)))) * (wrap64 (1 + t102)))) * (wrap64 (1 + t102)))) then (if (wrap64 ((wrap64 (1000000 * bt114.2.1)) * (wrap64 (1000000 * bt114.2.1)))) ≥ (wrap64 ((wrap64 ((wrap64 ((wrap64 (t101 * t101)) * (wrap64 (1 + t102)))) * (wrap64 (1 + t102)))) * (wrap64 (1 + t102)))) then (some (decide ((wrap64 (bt114.2.1 - bt114.1)) ≤ 2))) else (none)) else (none)) else (none)) else (none)) else (none)))))))))) = some r := h
  clear h
  replace H := Option.bind_eq_some_iff.mp H
  obtain ⟨t101, A30, H⟩ := H
  replace H : ((thermionkit_Mod.f a1 10000).bind fun t102 => ((thermionlaw02_alone.f t101).bind fun bt103 => ((thermionlaw02_alone.f 1000).bind fun bt105 => ((thermionlaw02_alone.f 0).bind fun bt107 => ((thermionlaw02_alone.f 1000000).bind fun bt109 => ((thermionlaw02_alone.f 1000000).bind fun bt111 => ((curve_Current.f k bt103.1 bt103.2 bt105.1 bt105.2 bt107.1 bt107.2 bt109.1 bt109.2 bt111.1 bt111.2 (wrap64 (1 + t102)) 0).bind fun bt114 => (if bt114.2.2 = 0 then (if bt114.1 ≥ 0 then (if bt114.2.1 ≤ 1001 then (if (wrap64 ((wrap64 (1000000 * bt114.1)) * (wrap64 (1000000 * bt114.1)))) ≤ (wrap64 ((wrap64 ((wrap64 ((wrap64 (t101 * t101)) * (wrap64 (1 + t102)))) * (wrap64 (1 + t102)))) * (wrap64 (1 + t102)))) then (if (wrap64 ((wrap64 (1000000 * bt114.2.1)) * (wrap64 (1000000 * bt114.2.1)))) ≥ (wrap64 ((wrap64 ((wrap64 ((wrap64 (t101 * t101)) * (wrap64 (1 + t102)))) * (wrap64 (1 + t102)))) * (wrap64 (1 + t102)))) then (some (decide ((wrap64 (bt114.2.1 - bt114.1)) ≤ 2))) else (none)) else (none)) else (none)) else (none)) else (none))))))))) = some r := H
  have A3 := Aside0.mk A30
  clear A30
  replace H := Option.bind_eq_some_iff.mp H
  obtain ⟨t102, A40, H⟩ := H
  replace H : ((thermionlaw02_alone.f t101).bind fun bt103 => ((thermionlaw02_alone.f 1000).bind fun bt105 => ((thermionlaw02_alone.f 0).bind fun bt107 => ((thermionlaw02_alone.f 1000000).bind fun bt109 => ((thermionlaw02_alone.f 1000000).bind fun bt111 => ((curve_Current.f k bt103.1 bt103.2 bt105.1 bt105.2 bt107.1 bt107.2 bt109.1 bt109.2 bt111.1 bt111.2 (wrap64 (1 + t102)) 0).bind fun bt114 => (if bt114.2.2 = 0 then (if bt114.1 ≥ 0 then (if bt114.2.1 ≤ 1001 then (if (wrap64 ((wrap64 (1000000 * bt114.1)) * (wrap64 (1000000 * bt114.1)))) ≤ (wrap64 ((wrap64 ((wrap64 ((wrap64 (t101 * t101)) * (wrap64 (1 + t102)))) * (wrap64 (1 + t102)))) * (wrap64 (1 + t102)))) then (if (wrap64 ((wrap64 (1000000 * bt114.2.1)) * (wrap64 (1000000 * bt114.2.1)))) ≥ (wrap64 ((wrap64 ((wrap64 ((wrap64 (t101 * t101)) * (wrap64 (1 + t102)))) * (wrap64 (1 + t102)))) * (wrap64 (1 + t102)))) then (some (decide ((wrap64 (bt114.2.1 - bt114.1)) ≤ 2))) else (none)) else (none)) else (none)) else (none)) else (none)))))))) = some r := H
  have A4 := Aside0.mk A40
  clear A40
  replace H := Option.bind_eq_some_iff.mp H
  obtain ⟨⟨t103, t104⟩, A50, H⟩ := H
  replace H : ((thermionlaw02_alone.f 1000).bind fun bt105 => ((thermionlaw02_alone.f 0).bind fun bt107 => ((thermionlaw02_alone.f 1000000).bind fun bt109 => ((thermionlaw02_alone.f 1000000).bind fun bt111 => ((curve_Current.f k t103 t104 bt105.1 bt105.2 bt107.1 bt107.2 bt109.1 bt109.2 bt111.1 bt111.2 (wrap64 (1 + t102)) 0).bind fun bt114 => (if bt114.2.2 = 0 then (if bt114.1 ≥ 0 then (if bt114.2.1 ≤ 1001 then (if (wrap64 ((wrap64 (1000000 * bt114.1)) * (wrap64 (1000000 * bt114.1)))) ≤ (wrap64 ((wrap64 ((wrap64 ((wrap64 (t101 * t101)) * (wrap64 (1 + t102)))) * (wrap64 (1 + t102)))) * (wrap64 (1 + t102)))) then (if (wrap64 ((wrap64 (1000000 * bt114.2.1)) * (wrap64 (1000000 * bt114.2.1)))) ≥ (wrap64 ((wrap64 ((wrap64 ((wrap64 (t101 * t101)) * (wrap64 (1 + t102)))) * (wrap64 (1 + t102)))) * (wrap64 (1 + t102)))) then (some (decide ((wrap64 (bt114.2.1 - bt114.1)) ≤ 2))) else (none)) else (none)) else (none)) else (none)) else (none))))))) = some r := H
  have A5 := Aside0.mk A50
  clear A50
  replace H := Option.bind_eq_some_iff.mp H
  obtain ⟨⟨t105, t106⟩, A60, H⟩ := H
  replace H : ((thermionlaw02_alone.f 0).bind fun bt107 => ((thermionlaw02_alone.f 1000000).bind fun bt109 => ((thermionlaw02_alone.f 1000000).bind fun bt111 => ((curve_Current.f k t103 t104 t105 t106 bt107.1 bt107.2 bt109.1 bt109.2 bt111.1 bt111.2 (wrap64 (1 + t102)) 0).bind fun bt114 => (if bt114.2.2 = 0 then (if bt114.1 ≥ 0 then (if bt114.2.1 ≤ 1001 then (if (wrap64 ((wrap64 (1000000 * bt114.1)) * (wrap64 (1000000 * bt114.1)))) ≤ (wrap64 ((wrap64 ((wrap64 ((wrap64 (t101 * t101)) * (wrap64 (1 + t102)))) * (wrap64 (1 + t102)))) * (wrap64 (1 + t102)))) then (if (wrap64 ((wrap64 (1000000 * bt114.2.1)) * (wrap64 (1000000 * bt114.2.1)))) ≥ (wrap64 ((wrap64 ((wrap64 ((wrap64 (t101 * t101)) * (wrap64 (1 + t102)))) * (wrap64 (1 + t102)))) * (wrap64 (1 + t102)))) then (some (decide ((wrap64 (bt114.2.1 - bt114.1)) ≤ 2))) else (none)) else (none)) else (none)) else (none)) else (none)))))) = some r := H
  have A6 := Aside0.mk A60
  clear A60
  replace H := Option.bind_eq_some_iff.mp H
  obtain ⟨⟨t107, t108⟩, A70, H⟩ := H
  replace H : ((thermionlaw02_alone.f 1000000).bind fun bt109 => ((thermionlaw02_alone.f 1000000).bind fun bt111 => ((curve_Current.f k t103 t104 t105 t106 t107 t108 bt109.1 bt109.2 bt111.1 bt111.2 (wrap64 (1 + t102)) 0).bind fun bt114 => (if bt114.2.2 = 0 then (if bt114.1 ≥ 0 then (if bt114.2.1 ≤ 1001 then (if (wrap64 ((wrap64 (1000000 * bt114.1)) * (wrap64 (1000000 * bt114.1)))) ≤ (wrap64 ((wrap64 ((wrap64 ((wrap64 (t101 * t101)) * (wrap64 (1 + t102)))) * (wrap64 (1 + t102)))) * (wrap64 (1 + t102)))) then (if (wrap64 ((wrap64 (1000000 * bt114.2.1)) * (wrap64 (1000000 * bt114.2.1)))) ≥ (wrap64 ((wrap64 ((wrap64 ((wrap64 (t101 * t101)) * (wrap64 (1 + t102)))) * (wrap64 (1 + t102)))) * (wrap64 (1 + t102)))) then (some (decide ((wrap64 (bt114.2.1 - bt114.1)) ≤ 2))) else (none)) else (none)) else (none)) else (none)) else (none))))) = some r := H
  have A7 := Aside0.mk A70
  clear A70
  replace H := Option.bind_eq_some_iff.mp H
  obtain ⟨⟨t109, t110⟩, A80, H⟩ := H
  replace H : ((thermionlaw02_alone.f 1000000).bind fun bt111 => ((curve_Current.f k t103 t104 t105 t106 t107 t108 t109 t110 bt111.1 bt111.2 (wrap64 (1 + t102)) 0).bind fun bt114 => (if bt114.2.2 = 0 then (if bt114.1 ≥ 0 then (if bt114.2.1 ≤ 1001 then (if (wrap64 ((wrap64 (1000000 * bt114.1)) * (wrap64 (1000000 * bt114.1)))) ≤ (wrap64 ((wrap64 ((wrap64 ((wrap64 (t101 * t101)) * (wrap64 (1 + t102)))) * (wrap64 (1 + t102)))) * (wrap64 (1 + t102)))) then (if (wrap64 ((wrap64 (1000000 * bt114.2.1)) * (wrap64 (1000000 * bt114.2.1)))) ≥ (wrap64 ((wrap64 ((wrap64 ((wrap64 (t101 * t101)) * (wrap64 (1 + t102)))) * (wrap64 (1 + t102)))) * (wrap64 (1 + t102)))) then (some (decide ((wrap64 (bt114.2.1 - bt114.1)) ≤ 2))) else (none)) else (none)) else (none)) else (none)) else (none)))) = some r := H
  have A8 := Aside0.mk A80
  clear A80
  replace H := Option.bind_eq_some_iff.mp H
  obtain ⟨⟨t111, t112⟩, A90, H⟩ := H
  replace H : ((curve_Current.f k t103 t104 t105 t106 t107 t108 t109 t110 t111 t112 (wrap64 (1 + t102)) 0).bind fun bt114 => (if bt114.2.2 = 0 then (if bt114.1 ≥ 0 then (if bt114.2.1 ≤ 1001 then (if (wrap64 ((wrap64 (1000000 * bt114.1)) * (wrap64 (1000000 * bt114.1)))) ≤ (wrap64 ((wrap64 ((wrap64 ((wrap64 (t101 * t101)) * (wrap64 (1 + t102)))) * (wrap64 (1 + t102)))) * (wrap64 (1 + t102)))) then (if (wrap64 ((wrap64 (1000000 * bt114.2.1)) * (wrap64 (1000000 * bt114.2.1)))) ≥ (wrap64 ((wrap64 ((wrap64 ((wrap64 (t101 * t101)) * (wrap64 (1 + t102)))) * (wrap64 (1 + t102)))) * (wrap64 (1 + t102)))) then (some (decide ((wrap64 (bt114.2.1 - bt114.1)) ≤ 2))) else (none)) else (none)) else (none)) else (none)) else (none))) = some r := H
  have A9 := Aside0.mk A90
  clear A90
  obtain ⟨rfl, rfl⟩ : t109 = t111 ∧ t110 = t112 := by simpa using (A8.out.symm.trans A9.out)
  replace H := Option.bind_eq_some_iff.mp H
  obtain ⟨⟨t114, t115, t116⟩, A100, H⟩ := H
  replace H : (if t116 = 0 then (if t114 ≥ 0 then (if t115 ≤ 1001 then (if (wrap64 ((wrap64 (1000000 * t114)) * (wrap64 (1000000 * t114)))) ≤ (wrap64 ((wrap64 ((wrap64 ((wrap64 (t101 * t101)) * (wrap64 (1 + t102)))) * (wrap64 (1 + t102)))) * (wrap64 (1 + t102)))) then (if (wrap64 ((wrap64 (1000000 * t115)) * (wrap64 (1000000 * t115)))) ≥ (wrap64 ((wrap64 ((wrap64 ((wrap64 (t101 * t101)) * (wrap64 (1 + t102)))) * (wrap64 (1 + t102)))) * (wrap64 (1 + t102)))) then (some (decide ((wrap64 (t115 - t114)) ≤ 2))) else (none)) else (none)) else (none)) else (none)) else (none)) = some r := H
  have A10 := Aside0.mk A100
  clear A100
  by_cases c11 : t116 = 0
  · rw [if_pos c11] at H
    have c11b0 : (t116 == 0) = true := beq_iff_eq.mpr c11
    have c11b1 : (t116 != 0) = false := bne_eq_false_iff_eq.mpr c11
    clear c11
    by_cases c12 : t114 ≥ 0
    · rw [if_pos c12] at H
      have c12b0 : decide (0 ≤ t114) = true := decide_eq_true c12
      clear c12
      by_cases c13 : t115 ≤ 1001
      · rw [if_pos c13] at H
        have c13b0 : decide (t115 ≤ 1001) = true := decide_eq_true c13
        clear c13
        by_cases c14 : (wrap64 ((wrap64 (1000000 * t114)) * (wrap64 (1000000 * t114)))) ≤ (wrap64 ((wrap64 ((wrap64 ((wrap64 (t101 * t101)) * (wrap64 (1 + t102)))) * (wrap64 (1 + t102)))) * (wrap64 (1 + t102))))
        · rw [if_pos c14] at H
          have c14b0 : decide ((wrap64 ((wrap64 (1000000 * t114)) * (wrap64 (1000000 * t114)))) ≤ (wrap64 ((wrap64 ((wrap64 ((wrap64 (t101 * t101)) * (wrap64 (1 + t102)))) * (wrap64 (1 + t102)))) * (wrap64 (1 + t102))))) = true := decide_eq_true c14
          clear c14
          by_cases c15 : (wrap64 ((wrap64 (1000000 * t115)) * (wrap64 (1000000 * t115)))) ≥ (wrap64 ((wrap64 ((wrap64 ((wrap64 (t101 * t101)) * (wrap64 (1 + t102)))) * (wrap64 (1 + t102)))) * (wrap64 (1 + t102))))
          · rw [if_pos c15] at H
            have c15b0 : decide ((wrap64 ((wrap64 ((wrap64 ((wrap64 (t101 * t101)) * (wrap64 (1 + t102)))) * (wrap64 (1 + t102)))) * (wrap64 (1 + t102)))) ≤ (wrap64 ((wrap64 (1000000 * t115)) * (wrap64 (1000000 * t115))))) = true := decide_eq_true c15
            clear c15
            obtain rfl := Option.some.inj H
            go_enter Try.func24, Try.ntmps24
            go_wp2_with (first | (go_at_call 26; (with_reducible refine (thermionkit_Mod.calls a0 1001 t101 _ A3.out).mono ?_); rintro e w' ⟨rfl, ⟨nd, rfl⟩⟩; (try first | exact ⟨rfl, _, World.drewN_drewN _ _ _⟩ | exact ⟨rfl, _, Eq.trans (World.drewN_drewN _ _ _) (congrArg (World.drewN _) (Nat.add_assoc _ _ _))⟩)) | (go_at_call 26; (with_reducible refine (thermionkit_Mod.calls a1 10000 t102 _ A4.out).mono ?_); rintro e w' ⟨rfl, ⟨nd, rfl⟩⟩; (try first | exact ⟨rfl, _, World.drewN_drewN _ _ _⟩ | exact ⟨rfl, _, Eq.trans (World.drewN_drewN _ _ _) (congrArg (World.drewN _) (Nat.add_assoc _ _ _))⟩)) | (go_at_call 77; (with_reducible refine (thermionlaw02_alone.calls t101 t103 t104 _ A5.out).mono ?_); rintro e w16 ⟨rfl, hb⟩; have n0_ := Aside0.mk (below_step (by repeat (first | (with_reducible first | exact HB.out | apply qA | apply qN | apply qD) | exact HB.out)) hb); clear HB; have HB := n0_; clear n0_; (try clear hb); (try clear hb2); (try clear hk); (try clear hi)) | (go_at_call 77; (with_reducible refine (thermionlaw02_alone.calls 1000 t105 t106 _ A6.out).mono ?_); rintro e w17 ⟨rfl, hb⟩; have n0_ := Aside0.mk (below_step (by repeat (first | (with_reducible first | exact HB.out | apply qA | apply qN | apply qD) | exact HB.out)) hb); clear HB; have HB := n0_; clear n0_; (try clear hb); (try clear hb2); (try clear hk); (try clear hi)) | (go_at_call 77; (with_reducible refine (thermionlaw02_alone.calls 0 t107 t108 _ A7.out).mono ?_); rintro e w18 ⟨rfl, hb⟩; have n0_ := Aside0.mk (below_step (by repeat (first | (with_reducible first | exact HB.out | apply qA | apply qN | apply qD) | exact HB.out)) hb); clear HB; have HB := n0_; clear n0_; (try clear hb); (try clear hb2); (try clear hk); (try clear hi)) | (go_at_call 77; (with_reducible refine (thermionlaw02_alone.calls 1000000 t109 t110 _ A8.out).mono ?_); rintro e w19 ⟨rfl, hb⟩; have n0_ := Aside0.mk (below_step (by repeat (first | (with_reducible first | exact HB.out | apply qA | apply qN | apply qD) | exact HB.out)) hb); clear HB; have HB := n0_; clear n0_; (try clear hb); (try clear hb2); (try clear hk); (try clear hi)) | (go_at_call 77; (with_reducible refine (thermionlaw02_alone.calls 1000000 t109 t110 _ A9.out).mono ?_); rintro e w20 ⟨rfl, hb⟩; have n0_ := Aside0.mk (below_step (by repeat (first | (with_reducible first | exact HB.out | apply qA | apply qN | apply qD) | exact HB.out)) hb); clear HB; have HB := n0_; clear n0_; (try clear hb); (try clear hb2); (try clear hk); (try clear hi)) | ((with_reducible refine gate_dst (N := 5) rfl ?_); refine box_event ?hg (N := 5) ?hd (cs := #[.int .i64 0, .int .i64 0, .int .i64 0, .int .i64 0, .int .i64 0, .int .i64 0, .int .i64 0, .int .i64 0, .int .i64 0, .int .i64 0]) (t := 42) ?hr ?_; (case hd => rfl); (case hg => rfl); (case hr => first | (go_simp; done) | (go_simp; rfl)); intro gb113 hg w21 hbox hb; have n0_ := Aside0.mk (below_step (by repeat (first | (with_reducible first | exact HB.out | apply qA | apply qN | apply qD) | exact HB.out)) hb); have n1_ := Aside0.mk (hbox); have n2_ := Aside0.mk ((by rw [hg]; exact (below_size (by repeat (first | (with_reducible first | exact HB.out | apply qA | apply qN | apply qD) | exact HB.out))) : w.heap.size ≤ gb113)); have n3_ := Aside0.mk ((by rw [hg]; exact (below_size (by repeat (first | (with_reducible first | exact HB.out | apply qA | apply qN | apply qD) | exact HB.out))) : w.heap.size ≤ gb113)); clear HB; have HB := n0_; have BK113 := n1_; have GW113 := n2_; have GE113 := n3_; clear n0_ n1_ n2_ n3_; clear hb hbox hg; have hcz22_0 : w21.cell? ⟨gb113, 0, none⟩ = some (.int .i64 0) := (blk_cell BK113.out 0).trans rfl; have hcz22_1 : w21.cell? ⟨gb113, 1, none⟩ = some (.int .i64 0) := (blk_cell BK113.out 1).trans rfl; have hcz22_2 : w21.cell? ⟨gb113, 2, none⟩ = some (.int .i64 0) := (blk_cell BK113.out 2).trans rfl; have hcz22_3 : w21.cell? ⟨gb113, 3, none⟩ = some (.int .i64 0) := (blk_cell BK113.out 3).trans rfl; have hcz22_4 : w21.cell? ⟨gb113, 4, none⟩ = some (.int .i64 0) := (blk_cell BK113.out 4).trans rfl; have hcz22_5 : w21.cell? ⟨gb113, 5, none⟩ = some (.int .i64 0) := (blk_cell BK113.out 5).trans rfl; have hcz22_6 : w21.cell? ⟨gb113, 6, none⟩ = some (.int .i64 0) := (blk_cell BK113.out 6).trans rfl; have hcz22_7 : w21.cell? ⟨gb113, 7, none⟩ = some (.int .i64 0) := (blk_cell BK113.out 7).trans rfl; have hcz22_8 : w21.cell? ⟨gb113, 8, none⟩ = some (.int .i64 0) := (blk_cell BK113.out 8).trans rfl; have hcz22_9 : w21.cell? ⟨gb113, 9, none⟩ = some (.int .i64 0) := (blk_cell BK113.out 9).trans rfl; have hfz22_0 := blk_frozen BK113.out 0; have hfz22_1 := blk_frozen BK113.out 1; have hfz22_2 := blk_frozen BK113.out 2; have hfz22_3 := blk_frozen BK113.out 3; have hfz22_4 := blk_frozen BK113.out 4; have hfz22_5 := blk_frozen BK113.out 5; have hfz22_6 := blk_frozen BK113.out 6; have hfz22_7 := blk_frozen BK113.out 7; have hfz22_8 := blk_frozen BK113.out 8; have hfz22_9 := blk_frozen BK113.out 9) | (go_at_call 27; (with_reducible refine (curve_Current.calls k t103 t104 t105 t106 t107 t108 t109 t110 t109 t110 (wrap64 (1 + t102)) 0 t114 t115 t116 _ A10.out).mono ?_); rintro e w23 ⟨rfl, hb⟩; have n0_ := Aside0.mk (blk_below (g := gb113) (o := .cells #[.int .i64 t103, .int .i64 t104, .int .i64 t105, .int .i64 t106, .int .i64 t107, .int .i64 t108, .int .i64 t109, .int .i64 t110, .int .i64 t109, .int .i64 t110] 42 (0, 0)) (by (with_reducible repeat (first | refine qn ?_ _ | refine qd ?_ | refine qa ?_ _)); refine blk_put (cs := #[.int .i64 t103, .int .i64 t104, .int .i64 t105, .int .i64 t106, .int .i64 t107, .int .i64 t108, .int .i64 t109, .int .i64 t110, .int .i64 t109, .int .i64 0]) ?_ 9 _ rfl; (with_reducible repeat (first | refine qn ?_ _ | refine qd ?_ | refine qa ?_ _)); refine blk_put (cs := #[.int .i64 t103, .int .i64 t104, .int .i64 t105, .int .i64 t106, .int .i64 t107, .int .i64 t108, .int .i64 t109, .int .i64 t110, .int .i64 0, .int .i64 0]) ?_ 8 _ rfl; (with_reducible repeat (first | refine qn ?_ _ | refine qd ?_ | refine qa ?_ _)); refine blk_put (cs := #[.int .i64 t103, .int .i64 t104, .int .i64 t105, .int .i64 t106, .int .i64 t107, .int .i64 t108, .int .i64 t109, .int .i64 0, .int .i64 0, .int .i64 0]) ?_ 7 _ rfl; (with_reducible repeat (first | refine qn ?_ _ | refine qd ?_ | refine qa ?_ _)); refine blk_put (cs := #[.int .i64 t103, .int .i64 t104, .int .i64 t105, .int .i64 t106, .int .i64 t107, .int .i64 t108, .int .i64 0, .int .i64 0, .int .i64 0, .int .i64 0]) ?_ 6 _ rfl; (with_reducible repeat (first | refine qn ?_ _ | refine qd ?_ | refine qa ?_ _)); refine blk_put (cs := #[.int .i64 t103, .int .i64 t104, .int .i64 t105, .int .i64 t106, .int .i64 t107, .int .i64 0, .int .i64 0, .int .i64 0, .int .i64 0, .int .i64 0]) ?_ 5 _ rfl; (with_reducible repeat (first | refine qn ?_ _ | refine qd ?_ | refine qa ?_ _)); refine blk_put (cs := #[.int .i64 t103, .int .i64 t104, .int .i64 t105, .int .i64 t106, .int .i64 0, .int .i64 0, .int .i64 0, .int .i64 0, .int .i64 0, .int .i64 0]) ?_ 4 _ rfl; (with_reducible repeat (first | refine qn ?_ _ | refine qd ?_ | refine qa ?_ _)); refine blk_put (cs := #[.int .i64 t103, .int .i64 t104, .int .i64 t105, .int .i64 0, .int .i64 0, .int .i64 0, .int .i64 0, .int .i64 0, .int .i64 0, .int .i64 0]) ?_ 3 _ rfl; (with_reducible repeat (first | refine qn ?_ _ | refine qd ?_ | refine qa ?_ _)); refine blk_put (cs := #[.int .i64 t103, .int .i64 t104, .int .i64 0, .int .i64 0, .int .i64 0, .int .i64 0, .int .i64 0, .int .i64 0, .int .i64 0, .int .i64 0]) ?_ 2 _ rfl; (with_reducible repeat (first | refine qn ?_ _ | refine qd ?_ | refine qa ?_ _)); refine blk_put (cs := #[.int .i64 t103, .int .i64 0, .int .i64 0, .int .i64 0, .int .i64 0, .int .i64 0, .int .i64 0, .int .i64 0, .int .i64 0, .int .i64 0]) ?_ 1 _ rfl; (with_reducible repeat (first | refine qn ?_ _ | refine qd ?_ | refine qa ?_ _)); refine blk_put (cs := #[.int .i64 0, .int .i64 0, .int .i64 0, .int .i64 0, .int .i64 0, .int .i64 0, .int .i64 0, .int .i64 0, .int .i64 0, .int .i64 0]) ?_ 0 _ rfl; (with_reducible repeat (first | refine qn ?_ _ | refine qd ?_ | refine qa ?_ _)); exact BK113.out) hb); have n1_ := Aside0.mk (below_step (by repeat (first | (with_reducible first | exact HB.out | apply qA | apply qN | apply qD | refine below_set ?_ GE113.out) | exact HB.out)) hb); clear BK113; clear HB; have BK113 := n0_; have HB := n1_; clear n0_ n1_; (try clear hb); (try clear hb2); (try clear hk); (try clear hi)) | ((with_reducible refine gate_dst (N := 6) rfl ?_); refine box_event ?hg (N := 6) ?hd (cs := #[.int .i64 0, .int .i64 0]) (t := 35) ?hr ?_; (case hd => rfl); (case hg => rfl); (case hr => first | (go_simp; done) | (go_simp; rfl)); intro gb117 hg w24 hbox hb; have n0_ := Aside0.mk (blk_below (by (with_reducible repeat (first | refine qn ?_ _ | refine qd ?_ | refine qa ?_ _)); exact BK113.out) hb); have n1_ := Aside0.mk (below_step (by repeat (first | (with_reducible first | exact HB.out | apply qA | apply qN | apply qD | refine below_set ?_ GE113.out) | exact HB.out)) hb); have n2_ := Aside0.mk (hbox); have n3_ := Aside0.mk ((by rw [hg]; exact (below_size (by repeat (first | (with_reducible first | exact HB.out | apply qA | apply qN | apply qD | refine below_set ?_ GE113.out) | exact HB.out))) : w.heap.size ≤ gb117)); have n4_ := Aside0.mk ((by rw [hg]; exact (below_size (by repeat (first | (with_reducible first | exact HB.out | apply qA | apply qN | apply qD | refine below_set ?_ GE113.out) | exact HB.out))) : w.heap.size ≤ gb117)); have n5_ := Aside0.mk ((by rw [hg]; exact Nat.ne_of_lt (blk_lt (by (with_reducible repeat (first | refine qn ?_ _ | refine qd ?_ | refine qa ?_ _)); exact BK113.out)) : gb113 ≠ gb117)); have n6_ := Aside0.mk ((by rw [hg]; exact Nat.ne_of_gt (blk_lt (by (with_reducible repeat (first | refine qn ?_ _ | refine qd ?_ | refine qa ?_ _)); exact BK113.out)) : gb117 ≠ gb113)); clear BK113; clear HB; have BK113 := n0_; have HB := n1_; have BK117 := n2_; have GW117 := n3_; have GE117 := n4_; have NB113_117 := n5_; have NB117_113 := n6_; clear n0_ n1_ n2_ n3_ n4_ n5_ n6_; clear hb hbox hg; have hnb25 := NB117_113.out; have hnc25 := NB113_117.out; have hcz26_0 : w24.cell? ⟨gb117, 0, none⟩ = some (.int .i64 0) := (blk_cell BK117.out 0).trans rfl; have hcz26_1 : w24.cell? ⟨gb117, 1, none⟩ = some (.int .i64 0) := (blk_cell BK117.out 1).trans rfl; have hfz26_0 := blk_frozen BK117.out 0; have hfz26_1 := blk_frozen BK117.out 1))
            repeat (go_quiet (first | (go_at_call 26; (with_reducible refine (thermionkit_Mod.calls a0 1001 t101 _ A3.out).mono ?_); rintro e w' ⟨rfl, ⟨nd, rfl⟩⟩; (try first | exact ⟨rfl, _, World.drewN_drewN _ _ _⟩ | exact ⟨rfl, _, Eq.trans (World.drewN_drewN _ _ _) (congrArg (World.drewN _) (Nat.add_assoc _ _ _))⟩)) | (go_at_call 26; (with_reducible refine (thermionkit_Mod.calls a1 10000 t102 _ A4.out).mono ?_); rintro e w' ⟨rfl, ⟨nd, rfl⟩⟩; (try first | exact ⟨rfl, _, World.drewN_drewN _ _ _⟩ | exact ⟨rfl, _, Eq.trans (World.drewN_drewN _ _ _) (congrArg (World.drewN _) (Nat.add_assoc _ _ _))⟩)) | (go_at_call 77; (with_reducible refine (thermionlaw02_alone.calls t101 t103 t104 _ A5.out).mono ?_); rintro e w16 ⟨rfl, hb⟩; have n0_ := Aside0.mk (below_step (by repeat (first | (with_reducible first | exact HB.out | apply qA | apply qN | apply qD) | exact HB.out)) hb); clear HB; have HB := n0_; clear n0_; (try clear hb); (try clear hb2); (try clear hk); (try clear hi)) | (go_at_call 77; (with_reducible refine (thermionlaw02_alone.calls 1000 t105 t106 _ A6.out).mono ?_); rintro e w17 ⟨rfl, hb⟩; have n0_ := Aside0.mk (below_step (by repeat (first | (with_reducible first | exact HB.out | apply qA | apply qN | apply qD) | exact HB.out)) hb); clear HB; have HB := n0_; clear n0_; (try clear hb); (try clear hb2); (try clear hk); (try clear hi)) | (go_at_call 77; (with_reducible refine (thermionlaw02_alone.calls 0 t107 t108 _ A7.out).mono ?_); rintro e w18 ⟨rfl, hb⟩; have n0_ := Aside0.mk (below_step (by repeat (first | (with_reducible first | exact HB.out | apply qA | apply qN | apply qD) | exact HB.out)) hb); clear HB; have HB := n0_; clear n0_; (try clear hb); (try clear hb2); (try clear hk); (try clear hi)) | (go_at_call 77; (with_reducible refine (thermionlaw02_alone.calls 1000000 t109 t110 _ A8.out).mono ?_); rintro e w19 ⟨rfl, hb⟩; have n0_ := Aside0.mk (below_step (by repeat (first | (with_reducible first | exact HB.out | apply qA | apply qN | apply qD) | exact HB.out)) hb); clear HB; have HB := n0_; clear n0_; (try clear hb); (try clear hb2); (try clear hk); (try clear hi)) | (go_at_call 77; (with_reducible refine (thermionlaw02_alone.calls 1000000 t109 t110 _ A9.out).mono ?_); rintro e w20 ⟨rfl, hb⟩; have n0_ := Aside0.mk (below_step (by repeat (first | (with_reducible first | exact HB.out | apply qA | apply qN | apply qD) | exact HB.out)) hb); clear HB; have HB := n0_; clear n0_; (try clear hb); (try clear hb2); (try clear hk); (try clear hi)) | ((with_reducible refine gate_dst (N := 5) rfl ?_); refine box_event ?hg (N := 5) ?hd (cs := #[.int .i64 0, .int .i64 0, .int .i64 0, .int .i64 0, .int .i64 0, .int .i64 0, .int .i64 0, .int .i64 0, .int .i64 0, .int .i64 0]) (t := 42) ?hr ?_; (case hd => rfl); (case hg => rfl); (case hr => first | (go_simp; done) | (go_simp; rfl)); intro gb113 hg w21 hbox hb; have n0_ := Aside0.mk (below_step (by repeat (first | (with_reducible first | exact HB.out | apply qA | apply qN | apply qD) | exact HB.out)) hb); have n1_ := Aside0.mk (hbox); have n2_ := Aside0.mk ((by rw [hg]; exact (below_size (by repeat (first | (with_reducible first | exact HB.out | apply qA | apply qN | apply qD) | exact HB.out))) : w.heap.size ≤ gb113)); have n3_ := Aside0.mk ((by rw [hg]; exact (below_size (by repeat (first | (with_reducible first | exact HB.out | apply qA | apply qN | apply qD) | exact HB.out))) : w.heap.size ≤ gb113)); clear HB; have HB := n0_; have BK113 := n1_; have GW113 := n2_; have GE113 := n3_; clear n0_ n1_ n2_ n3_; clear hb hbox hg; have hcz22_0 : w21.cell? ⟨gb113, 0, none⟩ = some (.int .i64 0) := (blk_cell BK113.out 0).trans rfl; have hcz22_1 : w21.cell? ⟨gb113, 1, none⟩ = some (.int .i64 0) := (blk_cell BK113.out 1).trans rfl; have hcz22_2 : w21.cell? ⟨gb113, 2, none⟩ = some (.int .i64 0) := (blk_cell BK113.out 2).trans rfl; have hcz22_3 : w21.cell? ⟨gb113, 3, none⟩ = some (.int .i64 0) := (blk_cell BK113.out 3).trans rfl; have hcz22_4 : w21.cell? ⟨gb113, 4, none⟩ = some (.int .i64 0) := (blk_cell BK113.out 4).trans rfl; have hcz22_5 : w21.cell? ⟨gb113, 5, none⟩ = some (.int .i64 0) := (blk_cell BK113.out 5).trans rfl; have hcz22_6 : w21.cell? ⟨gb113, 6, none⟩ = some (.int .i64 0) := (blk_cell BK113.out 6).trans rfl; have hcz22_7 : w21.cell? ⟨gb113, 7, none⟩ = some (.int .i64 0) := (blk_cell BK113.out 7).trans rfl; have hcz22_8 : w21.cell? ⟨gb113, 8, none⟩ = some (.int .i64 0) := (blk_cell BK113.out 8).trans rfl; have hcz22_9 : w21.cell? ⟨gb113, 9, none⟩ = some (.int .i64 0) := (blk_cell BK113.out 9).trans rfl; have hfz22_0 := blk_frozen BK113.out 0; have hfz22_1 := blk_frozen BK113.out 1; have hfz22_2 := blk_frozen BK113.out 2; have hfz22_3 := blk_frozen BK113.out 3; have hfz22_4 := blk_frozen BK113.out 4; have hfz22_5 := blk_frozen BK113.out 5; have hfz22_6 := blk_frozen BK113.out 6; have hfz22_7 := blk_frozen BK113.out 7; have hfz22_8 := blk_frozen BK113.out 8; have hfz22_9 := blk_frozen BK113.out 9) | (go_at_call 27; (with_reducible refine (curve_Current.calls k t103 t104 t105 t106 t107 t108 t109 t110 t109 t110 (wrap64 (1 + t102)) 0 t114 t115 t116 _ A10.out).mono ?_); rintro e w23 ⟨rfl, hb⟩; have n0_ := Aside0.mk (blk_below (g := gb113) (o := .cells #[.int .i64 t103, .int .i64 t104, .int .i64 t105, .int .i64 t106, .int .i64 t107, .int .i64 t108, .int .i64 t109, .int .i64 t110, .int .i64 t109, .int .i64 t110] 42 (0, 0)) (by (with_reducible repeat (first | refine qn ?_ _ | refine qd ?_ | refine qa ?_ _)); refine blk_put (cs := #[.int .i64 t103, .int .i64 t104, .int .i64 t105, .int .i64 t106, .int .i64 t107, .int .i64 t108, .int .i64 t109, .int .i64 t110, .int .i64 t109, .int .i64 0]) ?_ 9 _ rfl; (with_reducible repeat (first | refine qn ?_ _ | refine qd ?_ | refine qa ?_ _)); refine blk_put (cs := #[.int .i64 t103, .int .i64 t104, .int .i64 t105, .int .i64 t106, .int .i64 t107, .int .i64 t108, .int .i64 t109, .int .i64 t110, .int .i64 0, .int .i64 0]) ?_ 8 _ rfl; (with_reducible repeat (first | refine qn ?_ _ | refine qd ?_ | refine qa ?_ _)); refine blk_put (cs := #[.int .i64 t103, .int .i64 t104, .int .i64 t105, .int .i64 t106, .int .i64 t107, .int .i64 t108, .int .i64 t109, .int .i64 0, .int .i64 0, .int .i64 0]) ?_ 7 _ rfl; (with_reducible repeat (first | refine qn ?_ _ | refine qd ?_ | refine qa ?_ _)); refine blk_put (cs := #[.int .i64 t103, .int .i64 t104, .int .i64 t105, .int .i64 t106, .int .i64 t107, .int .i64 t108, .int .i64 0, .int .i64 0, .int .i64 0, .int .i64 0]) ?_ 6 _ rfl; (with_reducible repeat (first | refine qn ?_ _ | refine qd ?_ | refine qa ?_ _)); refine blk_put (cs := #[.int .i64 t103, .int .i64 t104, .int .i64 t105, .int .i64 t106, .int .i64 t107, .int .i64 0, .int .i64 0, .int .i64 0, .int .i64 0, .int .i64 0]) ?_ 5 _ rfl; (with_reducible repeat (first | refine qn ?_ _ | refine qd ?_ | refine qa ?_ _)); refine blk_put (cs := #[.int .i64 t103, .int .i64 t104, .int .i64 t105, .int .i64 t106, .int .i64 0, .int .i64 0, .int .i64 0, .int .i64 0, .int .i64 0, .int .i64 0]) ?_ 4 _ rfl; (with_reducible repeat (first | refine qn ?_ _ | refine qd ?_ | refine qa ?_ _)); refine blk_put (cs := #[.int .i64 t103, .int .i64 t104, .int .i64 t105, .int .i64 0, .int .i64 0, .int .i64 0, .int .i64 0, .int .i64 0, .int .i64 0, .int .i64 0]) ?_ 3 _ rfl; (with_reducible repeat (first | refine qn ?_ _ | refine qd ?_ | refine qa ?_ _)); refine blk_put (cs := #[.int .i64 t103, .int .i64 t104, .int .i64 0, .int .i64 0, .int .i64 0, .int .i64 0, .int .i64 0, .int .i64 0, .int .i64 0, .int .i64 0]) ?_ 2 _ rfl; (with_reducible repeat (first | refine qn ?_ _ | refine qd ?_ | refine qa ?_ _)); refine blk_put (cs := #[.int .i64 t103, .int .i64 0, .int .i64 0, .int .i64 0, .int .i64 0, .int .i64 0, .int .i64 0, .int .i64 0, .int .i64 0, .int .i64 0]) ?_ 1 _ rfl; (with_reducible repeat (first | refine qn ?_ _ | refine qd ?_ | refine qa ?_ _)); refine blk_put (cs := #[.int .i64 0, .int .i64 0, .int .i64 0, .int .i64 0, .int .i64 0, .int .i64 0, .int .i64 0, .int .i64 0, .int .i64 0, .int .i64 0]) ?_ 0 _ rfl; (with_reducible repeat (first | refine qn ?_ _ | refine qd ?_ | refine qa ?_ _)); exact BK113.out) hb); have n1_ := Aside0.mk (below_step (by repeat (first | (with_reducible first | exact HB.out | apply qA | apply qN | apply qD | refine below_set ?_ GE113.out) | exact HB.out)) hb); clear BK113; clear HB; have BK113 := n0_; have HB := n1_; clear n0_ n1_; (try clear hb); (try clear hb2); (try clear hk); (try clear hi)) | ((with_reducible refine gate_dst (N := 6) rfl ?_); refine box_event ?hg (N := 6) ?hd (cs := #[.int .i64 0, .int .i64 0]) (t := 35) ?hr ?_; (case hd => rfl); (case hg => rfl); (case hr => first | (go_simp; done) | (go_simp; rfl)); intro gb117 hg w24 hbox hb; have n0_ := Aside0.mk (blk_below (by (with_reducible repeat (first | refine qn ?_ _ | refine qd ?_ | refine qa ?_ _)); exact BK113.out) hb); have n1_ := Aside0.mk (below_step (by repeat (first | (with_reducible first | exact HB.out | apply qA | apply qN | apply qD | refine below_set ?_ GE113.out) | exact HB.out)) hb); have n2_ := Aside0.mk (hbox); have n3_ := Aside0.mk ((by rw [hg]; exact (below_size (by repeat (first | (with_reducible first | exact HB.out | apply qA | apply qN | apply qD | refine below_set ?_ GE113.out) | exact HB.out))) : w.heap.size ≤ gb117)); have n4_ := Aside0.mk ((by rw [hg]; exact (below_size (by repeat (first | (with_reducible first | exact HB.out | apply qA | apply qN | apply qD | refine below_set ?_ GE113.out) | exact HB.out))) : w.heap.size ≤ gb117)); have n5_ := Aside0.mk ((by rw [hg]; exact Nat.ne_of_lt (blk_lt (by (with_reducible repeat (first | refine qn ?_ _ | refine qd ?_ | refine qa ?_ _)); exact BK113.out)) : gb113 ≠ gb117)); have n6_ := Aside0.mk ((by rw [hg]; exact Nat.ne_of_gt (blk_lt (by (with_reducible repeat (first | refine qn ?_ _ | refine qd ?_ | refine qa ?_ _)); exact BK113.out)) : gb117 ≠ gb113)); clear BK113; clear HB; have BK113 := n0_; have HB := n1_; have BK117 := n2_; have GW117 := n3_; have GE117 := n4_; have NB113_117 := n5_; have NB117_113 := n6_; clear n0_ n1_ n2_ n3_ n4_ n5_ n6_; clear hb hbox hg; have hnb25 := NB117_113.out; have hnc25 := NB113_117.out; have hcz26_0 : w24.cell? ⟨gb117, 0, none⟩ = some (.int .i64 0) := (blk_cell BK117.out 0).trans rfl; have hcz26_1 : w24.cell? ⟨gb117, 1, none⟩ = some (.int .i64 0) := (blk_cell BK117.out 1).trans rfl; have hfz26_0 := blk_frozen BK117.out 0; have hfz26_1 := blk_frozen BK117.out 1)); try go_wp2_with (first | (go_at_call 26; (with_reducible refine (thermionkit_Mod.calls a0 1001 t101 _ A3.out).mono ?_); rintro e w' ⟨rfl, ⟨nd, rfl⟩⟩; (try first | exact ⟨rfl, _, World.drewN_drewN _ _ _⟩ | exact ⟨rfl, _, Eq.trans (World.drewN_drewN _ _ _) (congrArg (World.drewN _) (Nat.add_assoc _ _ _))⟩)) | (go_at_call 26; (with_reducible refine (thermionkit_Mod.calls a1 10000 t102 _ A4.out).mono ?_); rintro e w' ⟨rfl, ⟨nd, rfl⟩⟩; (try first | exact ⟨rfl, _, World.drewN_drewN _ _ _⟩ | exact ⟨rfl, _, Eq.trans (World.drewN_drewN _ _ _) (congrArg (World.drewN _) (Nat.add_assoc _ _ _))⟩)) | (go_at_call 77; (with_reducible refine (thermionlaw02_alone.calls t101 t103 t104 _ A5.out).mono ?_); rintro e w16 ⟨rfl, hb⟩; have n0_ := Aside0.mk (below_step (by repeat (first | (with_reducible first | exact HB.out | apply qA | apply qN | apply qD) | exact HB.out)) hb); clear HB; have HB := n0_; clear n0_; (try clear hb); (try clear hb2); (try clear hk); (try clear hi)) | (go_at_call 77; (with_reducible refine (thermionlaw02_alone.calls 1000 t105 t106 _ A6.out).mono ?_); rintro e w17 ⟨rfl, hb⟩; have n0_ := Aside0.mk (below_step (by repeat (first | (with_reducible first | exact HB.out | apply qA | apply qN | apply qD) | exact HB.out)) hb); clear HB; have HB := n0_; clear n0_; (try clear hb); (try clear hb2); (try clear hk); (try clear hi)) | (go_at_call 77; (with_reducible refine (thermionlaw02_alone.calls 0 t107 t108 _ A7.out).mono ?_); rintro e w18 ⟨rfl, hb⟩; have n0_ := Aside0.mk (below_step (by repeat (first | (with_reducible first | exact HB.out | apply qA | apply qN | apply qD) | exact HB.out)) hb); clear HB; have HB := n0_; clear n0_; (try clear hb); (try clear hb2); (try clear hk); (try clear hi)) | (go_at_call 77; (with_reducible refine (thermionlaw02_alone.calls 1000000 t109 t110 _ A8.out).mono ?_); rintro e w19 ⟨rfl, hb⟩; have n0_ := Aside0.mk (below_step (by repeat (first | (with_reducible first | exact HB.out | apply qA | apply qN | apply qD) | exact HB.out)) hb); clear HB; have HB := n0_; clear n0_; (try clear hb); (try clear hb2); (try clear hk); (try clear hi)) | (go_at_call 77; (with_reducible refine (thermionlaw02_alone.calls 1000000 t109 t110 _ A9.out).mono ?_); rintro e w20 ⟨rfl, hb⟩; have n0_ := Aside0.mk (below_step (by repeat (first | (with_reducible first | exact HB.out | apply qA | apply qN | apply qD) | exact HB.out)) hb); clear HB; have HB := n0_; clear n0_; (try clear hb); (try clear hb2); (try clear hk); (try clear hi)) | ((with_reducible refine gate_dst (N := 5) rfl ?_); refine box_event ?hg (N := 5) ?hd (cs := #[.int .i64 0, .int .i64 0, .int .i64 0, .int .i64 0, .int .i64 0, .int .i64 0, .int .i64 0, .int .i64 0, .int .i64 0, .int .i64 0]) (t := 42) ?hr ?_; (case hd => rfl); (case hg => rfl); (case hr => first | (go_simp; done) | (go_simp; rfl)); intro gb113 hg w21 hbox hb; have n0_ := Aside0.mk (below_step (by repeat (first | (with_reducible first | exact HB.out | apply qA | apply qN | apply qD) | exact HB.out)) hb); have n1_ := Aside0.mk (hbox); have n2_ := Aside0.mk ((by rw [hg]; exact (below_size (by repeat (first | (with_reducible first | exact HB.out | apply qA | apply qN | apply qD) | exact HB.out))) : w.heap.size ≤ gb113)); have n3_ := Aside0.mk ((by rw [hg]; exact (below_size (by repeat (first | (with_reducible first | exact HB.out | apply qA | apply qN | apply qD) | exact HB.out))) : w.heap.size ≤ gb113)); clear HB; have HB := n0_; have BK113 := n1_; have GW113 := n2_; have GE113 := n3_; clear n0_ n1_ n2_ n3_; clear hb hbox hg; have hcz22_0 : w21.cell? ⟨gb113, 0, none⟩ = some (.int .i64 0) := (blk_cell BK113.out 0).trans rfl; have hcz22_1 : w21.cell? ⟨gb113, 1, none⟩ = some (.int .i64 0) := (blk_cell BK113.out 1).trans rfl; have hcz22_2 : w21.cell? ⟨gb113, 2, none⟩ = some (.int .i64 0) := (blk_cell BK113.out 2).trans rfl; have hcz22_3 : w21.cell? ⟨gb113, 3, none⟩ = some (.int .i64 0) := (blk_cell BK113.out 3).trans rfl; have hcz22_4 : w21.cell? ⟨gb113, 4, none⟩ = some (.int .i64 0) := (blk_cell BK113.out 4).trans rfl; have hcz22_5 : w21.cell? ⟨gb113, 5, none⟩ = some (.int .i64 0) := (blk_cell BK113.out 5).trans rfl; have hcz22_6 : w21.cell? ⟨gb113, 6, none⟩ = some (.int .i64 0) := (blk_cell BK113.out 6).trans rfl; have hcz22_7 : w21.cell? ⟨gb113, 7, none⟩ = some (.int .i64 0) := (blk_cell BK113.out 7).trans rfl; have hcz22_8 : w21.cell? ⟨gb113, 8, none⟩ = some (.int .i64 0) := (blk_cell BK113.out 8).trans rfl; have hcz22_9 : w21.cell? ⟨gb113, 9, none⟩ = some (.int .i64 0) := (blk_cell BK113.out 9).trans rfl; have hfz22_0 := blk_frozen BK113.out 0; have hfz22_1 := blk_frozen BK113.out 1; have hfz22_2 := blk_frozen BK113.out 2; have hfz22_3 := blk_frozen BK113.out 3; have hfz22_4 := blk_frozen BK113.out 4; have hfz22_5 := blk_frozen BK113.out 5; have hfz22_6 := blk_frozen BK113.out 6; have hfz22_7 := blk_frozen BK113.out 7; have hfz22_8 := blk_frozen BK113.out 8; have hfz22_9 := blk_frozen BK113.out 9) | (go_at_call 27; (with_reducible refine (curve_Current.calls k t103 t104 t105 t106 t107 t108 t109 t110 t109 t110 (wrap64 (1 + t102)) 0 t114 t115 t116 _ A10.out).mono ?_); rintro e w23 ⟨rfl, hb⟩; have n0_ := Aside0.mk (blk_below (g := gb113) (o := .cells #[.int .i64 t103, .int .i64 t104, .int .i64 t105, .int .i64 t106, .int .i64 t107, .int .i64 t108, .int .i64 t109, .int .i64 t110, .int .i64 t109, .int .i64 t110] 42 (0, 0)) (by (with_reducible repeat (first | refine qn ?_ _ | refine qd ?_ | refine qa ?_ _)); refine blk_put (cs := #[.int .i64 t103, .int .i64 t104, .int .i64 t105, .int .i64 t106, .int .i64 t107, .int .i64 t108, .int .i64 t109, .int .i64 t110, .int .i64 t109, .int .i64 0]) ?_ 9 _ rfl; (with_reducible repeat (first | refine qn ?_ _ | refine qd ?_ | refine qa ?_ _)); refine blk_put (cs := #[.int .i64 t103, .int .i64 t104, .int .i64 t105, .int .i64 t106, .int .i64 t107, .int .i64 t108, .int .i64 t109, .int .i64 t110, .int .i64 0, .int .i64 0]) ?_ 8 _ rfl; (with_reducible repeat (first | refine qn ?_ _ | refine qd ?_ | refine qa ?_ _)); refine blk_put (cs := #[.int .i64 t103, .int .i64 t104, .int .i64 t105, .int .i64 t106, .int .i64 t107, .int .i64 t108, .int .i64 t109, .int .i64 0, .int .i64 0, .int .i64 0]) ?_ 7 _ rfl; (with_reducible repeat (first | refine qn ?_ _ | refine qd ?_ | refine qa ?_ _)); refine blk_put (cs := #[.int .i64 t103, .int .i64 t104, .int .i64 t105, .int .i64 t106, .int .i64 t107, .int .i64 t108, .int .i64 0, .int .i64 0, .int .i64 0, .int .i64 0]) ?_ 6 _ rfl; (with_reducible repeat (first | refine qn ?_ _ | refine qd ?_ | refine qa ?_ _)); refine blk_put (cs := #[.int .i64 t103, .int .i64 t104, .int .i64 t105, .int .i64 t106, .int .i64 t107, .int .i64 0, .int .i64 0, .int .i64 0, .int .i64 0, .int .i64 0]) ?_ 5 _ rfl; (with_reducible repeat (first | refine qn ?_ _ | refine qd ?_ | refine qa ?_ _)); refine blk_put (cs := #[.int .i64 t103, .int .i64 t104, .int .i64 t105, .int .i64 t106, .int .i64 0, .int .i64 0, .int .i64 0, .int .i64 0, .int .i64 0, .int .i64 0]) ?_ 4 _ rfl; (with_reducible repeat (first | refine qn ?_ _ | refine qd ?_ | refine qa ?_ _)); refine blk_put (cs := #[.int .i64 t103, .int .i64 t104, .int .i64 t105, .int .i64 0, .int .i64 0, .int .i64 0, .int .i64 0, .int .i64 0, .int .i64 0, .int .i64 0]) ?_ 3 _ rfl; (with_reducible repeat (first | refine qn ?_ _ | refine qd ?_ | refine qa ?_ _)); refine blk_put (cs := #[.int .i64 t103, .int .i64 t104, .int .i64 0, .int .i64 0, .int .i64 0, .int .i64 0, .int .i64 0, .int .i64 0, .int .i64 0, .int .i64 0]) ?_ 2 _ rfl; (with_reducible repeat (first | refine qn ?_ _ | refine qd ?_ | refine qa ?_ _)); refine blk_put (cs := #[.int .i64 t103, .int .i64 0, .int .i64 0, .int .i64 0, .int .i64 0, .int .i64 0, .int .i64 0, .int .i64 0, .int .i64 0, .int .i64 0]) ?_ 1 _ rfl; (with_reducible repeat (first | refine qn ?_ _ | refine qd ?_ | refine qa ?_ _)); refine blk_put (cs := #[.int .i64 0, .int .i64 0, .int .i64 0, .int .i64 0, .int .i64 0, .int .i64 0, .int .i64 0, .int .i64 0, .int .i64 0, .int .i64 0]) ?_ 0 _ rfl; (with_reducible repeat (first | refine qn ?_ _ | refine qd ?_ | refine qa ?_ _)); exact BK113.out) hb); have n1_ := Aside0.mk (below_step (by repeat (first | (with_reducible first | exact HB.out | apply qA | apply qN | apply qD | refine below_set ?_ GE113.out) | exact HB.out)) hb); clear BK113; clear HB; have BK113 := n0_; have HB := n1_; clear n0_ n1_; (try clear hb); (try clear hb2); (try clear hk); (try clear hi)) | ((with_reducible refine gate_dst (N := 6) rfl ?_); refine box_event ?hg (N := 6) ?hd (cs := #[.int .i64 0, .int .i64 0]) (t := 35) ?hr ?_; (case hd => rfl); (case hg => rfl); (case hr => first | (go_simp; done) | (go_simp; rfl)); intro gb117 hg w24 hbox hb; have n0_ := Aside0.mk (blk_below (by (with_reducible repeat (first | refine qn ?_ _ | refine qd ?_ | refine qa ?_ _)); exact BK113.out) hb); have n1_ := Aside0.mk (below_step (by repeat (first | (with_reducible first | exact HB.out | apply qA | apply qN | apply qD | refine below_set ?_ GE113.out) | exact HB.out)) hb); have n2_ := Aside0.mk (hbox); have n3_ := Aside0.mk ((by rw [hg]; exact (below_size (by repeat (first | (with_reducible first | exact HB.out | apply qA | apply qN | apply qD | refine below_set ?_ GE113.out) | exact HB.out))) : w.heap.size ≤ gb117)); have n4_ := Aside0.mk ((by rw [hg]; exact (below_size (by repeat (first | (with_reducible first | exact HB.out | apply qA | apply qN | apply qD | refine below_set ?_ GE113.out) | exact HB.out))) : w.heap.size ≤ gb117)); have n5_ := Aside0.mk ((by rw [hg]; exact Nat.ne_of_lt (blk_lt (by (with_reducible repeat (first | refine qn ?_ _ | refine qd ?_ | refine qa ?_ _)); exact BK113.out)) : gb113 ≠ gb117)); have n6_ := Aside0.mk ((by rw [hg]; exact Nat.ne_of_gt (blk_lt (by (with_reducible repeat (first | refine qn ?_ _ | refine qd ?_ | refine qa ?_ _)); exact BK113.out)) : gb117 ≠ gb113)); clear BK113; clear HB; have BK113 := n0_; have HB := n1_; have BK117 := n2_; have GW117 := n3_; have GE117 := n4_; have NB113_117 := n5_; have NB117_113 := n6_; clear n0_ n1_ n2_ n3_ n4_ n5_ n6_; clear hb hbox hg; have hnb25 := NB117_113.out; have hnc25 := NB113_117.out; have hcz26_0 : w24.cell? ⟨gb117, 0, none⟩ = some (.int .i64 0) := (blk_cell BK117.out 0).trans rfl; have hcz26_1 : w24.cell? ⟨gb117, 1, none⟩ = some (.int .i64 0) := (blk_cell BK117.out 1).trans rfl; have hfz26_0 := blk_frozen BK117.out 0; have hfz26_1 := blk_frozen BK117.out 1)))
            go_ret
            exact ⟨by first | rfl | (simp [errW_none, errW_some] <;> rfl) | (simp [*, errW_none, errW_some] <;> rfl), by repeat (first | (with_reducible first | exact HB.out | apply qA | apply qN | apply qD | refine below_set ?_ GE113.out | refine below_set ?_ GE117.out) | exact HB.out)⟩
          · rw [if_neg c15] at H
            exact absurd H (by simp)
        · rw [if_neg c14] at H
          exact absurd H (by simp)
      · rw [if_neg c13] at H
        exact absurd H (by simp)
    · rw [if_neg c12] at H
      exact absurd H (by simp)
  · rw [if_neg c11] at H
    exact absurd H (by simp)

end Go.Proofs.Ytbomgfbfnkfamaa.PAll
end
section
namespace Go.Proofs.Ytbomgfbfnkfamaa.PAll
open Go.RowKit Go.Proofs.YtbomgfbfnkfamaaW.PrintWords Go.Proofs.YtbomgfbfnkfamaaW.PrintLast Go.Proofs.YtbomgfbfnkfamaaW.PrintMore
attribute [local go_sem] max2_int min2_int max_two min_two max_three min_three max_four min_four   -- for this text's walks alone
set_option linter.unusedVariables false
set_option linter.unusedSimpArgs false

/-! ### thermionlaw02_CurveRises: function 4 -/
def thermionlaw02_CurveRises.f (k : Nat) (l0 : List Int) (a1 : Int) (a2 : Int) (a3 : Int) : Option (Bool) := (thermionlaw02_roots.f k a2 a1).bind fun t101 => (if t101 = true then ((thermionkit_NewDice.f l0).bind fun t102 => ((thermionkit_LawOf.f k t102).bind fun bt104 => ((thermionkit_Mod.f a1 20000).bind fun t116 => ((thermionkit_Mod.f a2 400000).bind fun t117 => ((thermionkit_Mod.f a3 3000).bind fun t118 => ((curve_Current.f k bt104.1 bt104.2.1 bt104.2.2.1 bt104.2.2.2.1 bt104.2.2.2.2.1 bt104.2.2.2.2.2.1 bt104.2.2.2.2.2.2.1 bt104.2.2.2.2.2.2.2.1 bt104.2.2.2.2.2.2.2.2.1 bt104.2.2.2.2.2.2.2.2.2.1 (wrap64 (t116 - 10000)) t117).bind fun bt119 => ((curve_Current.f k bt104.1 bt104.2.1 bt104.2.2.1 bt104.2.2.2.1 bt104.2.2.2.2.1 bt104.2.2.2.2.2.1 bt104.2.2.2.2.2.2.1 bt104.2.2.2.2.2.2.2.1 bt104.2.2.2.2.2.2.2.2.1 bt104.2.2.2.2.2.2.2.2.2.1 (wrap64 ((wrap64 (t116 - 10000)) + t118)) t117).bind fun bt123 => ((curve_Current.f k bt104.1 bt104.2.1 bt104.2.2.1 bt104.2.2.2.1 bt104.2.2.2.2.1 bt104.2.2.2.2.2.1 bt104.2.2.2.2.2.2.1 bt104.2.2.2.2.2.2.2.1 bt104.2.2.2.2.2.2.2.2.1 bt104.2.2.2.2.2.2.2.2.2.1 (wrap64 (t116 - 10000)) (wrap64 (t117 + t118))).bind fun bt127 => (if bt119.2.2 = 0 then (if bt123.2.2 = 0 then (if bt127.2.2 = 0 then (if bt119.1 ≤ bt119.2.1 then (if bt123.1 ≥ bt119.1 then (if bt123.2.1 ≥ bt119.2.1 then (if bt127.1 ≥ bt119.1 then (if bt127.2.1 ≥ bt119.2.1 then ((thermionlaw02_awake.f k).bind fun t131 => (some t131)) else (none)) else (none)) else (none)) else (none)) else (none)) else (none)) else (none)) else (none)))))))))) else (none))
theorem thermionlaw02_CurveRises.mono : ∀ a0 a1 a2 a3 k, LeO (thermionlaw02_CurveRises.f k a0 a1 a2 a3) (thermionlaw02_CurveRises.f (k + 1) a0 a1 a2 a3) := by
  intro a0 a1 a2 a3 k
  unfold thermionlaw02_CurveRises.f
  repeat' first
      | (with_reducible exact curve_Current.mono _ _ _ _ _ _ _ _ _ _ _ _ _)
      | (with_reducible exact thermionkit_LawOf.mono _ _)
      | (with_reducible exact thermionlaw02_awake.mono _)
      | (with_reducible exact thermionlaw02_roots.mono _ _ _)
      | (with_reducible exact LeO.refl _)
      | (with_reducible exact LeO.none _)
      | (with_reducible refine LeO.ite ?_ ?_)
      | (with_reducible refine LeO.bind ?_ (fun _ => ?_))
      | exact curve_Current.mono _ _ _ _ _ _ _ _ _ _ _ _ _
      | exact thermionkit_LawOf.mono _ _
      | exact thermionlaw02_awake.mono _
      | exact thermionlaw02_roots.mono _ _ _
      | exact LeO.none _
      | refine LeO.ite ?_ ?_
      | refine LeO.bind ?_ (fun _ => ?_)
set_option maxHeartbeats 8000000 in
set_option maxRecDepth 100000 in
theorem thermionlaw02_CurveRises.calls (k : Nat) (A0 : Option Addr) (c0 : Nat) (l0 : List Int) (a1 : Int) (a2 : Int) (a3 : Int) (r : Bool) (w : World) (hr0 : Kd.C (Kd.int .i64) w A0 l0.length l0) (hc0 : l0.length ≤ c0) (h : thermionlaw02_CurveRises.f k l0 a1 a2 a3 = some r) :
    Calls Try.prog 4 #[.slice A0 l0.length c0, .int .i64 a1, .int .i64 a2, .int .i64 a3] w fun e w' => e = .returned (.bool r) ∧ Below w.heap.size w w' := by
  have hu42 := Try.underlying42
  have hu35 := Try.underlying35
  have HR0 := Aside0.mk hr0
  have HC0 := Aside0.mk hc0
  clear hr0 hc0
  have HB := Aside0.mk (Below.refl w.heap.size w)
  have H : ((thermionlaw02_roots.f k a2 a1).bind fun t101 => (if t101 = true then ((thermionkit_NewDice.f l0).bind fun t102 => ((thermionkit_LawOf.f k t102).bind fun bt104 => ((thermionkit_Mod.f a1 20000).bind fun t116 => ((thermionkit_Mod.f a2 400000).bind fun t117 => ((thermionkit_Mod.f a3 3000).bind fun t118 => ((curve_Current.f k bt104.1 bt104.2.1 bt104.2.2.1 bt104.2.2.2.1 bt104.2.2.2.2.1 bt104.2.2.2.2.2.1 bt104.2.2.2.2.2.2.1 bt104.2.2.2.2.2.2.2.1 bt104.2.2.2.2.2.2.2.2.1 bt104.2.2.2.2.2.2.2.2.2.1 (wrap64 (t116 - 10000)) t117).bind fun bt119 => ((curve_Current.f k bt104.1 bt104.2.1 bt104.2.2.1 bt104.2.2.2.1 bt104.2.2.2.2.1 bt104.2.2.2.2.2.1 bt104.2.2.2.2.2.2.1 bt104.2.2.2.2.2.2.2.1 bt104.2.2.2.2.2.2.2.2.1 bt104.2.2.2.2.2.2.2.2.2.1 (wrap64 ((wrap64 (t116 - 10000)) + t118)) t117).bind fun bt123 => ((curve_Current.f k bt104.1 bt104.2.1 bt104.2.2.1 bt104.2.2.2.1 bt104.2.2.2.2.1 bt104.2.2.2.2.2.1 bt104.2.2.2.2.2.2.1 bt104.2.2.2.2.2.2.2.1 bt104.2.2.2.2.2.2.2.2.1 bt104.2.2.2.2.2.2.2.2.2.1 (wrap64 (t116 - 10000)) (wrap64 (t117 + t118))).bind fun bt127 => (if bt119.2.2 = 0 then (if bt123.2.2 = 0 then (if bt127.2.2 = 0 then (if bt119.1 ≤ bt119.2.1 then (if bt123.1 ≥ bt119.1 then (if bt123.2.1 ≥ bt119.2.1 then (if bt127.1 ≥ bt119.1 then (if bt127.2.1 ≥ bt119.2.1 then ((thermionlaw02_awake.f k).bind fun t131 => (some t131)) else (none)) else (none)) else (none)) else (none)) else (none)) else (none)) else (none)) else (none)))))))))) else (none))) = some r := h
  clear h
  replace H := Option.bind_eq_some_iff.mp H
  obtain ⟨t101, A50, H⟩ := H
  replace H : (if t101 = true then ((thermionkit_NewDice.f l0).bind fun t102 => ((thermionkit_LawOf.f k t102).bind fun bt104 => ((thermionkit_Mod.f a1 20000).bind fun t116 => ((thermionkit_Mod.f a2 400000).bind fun t117 => ((thermionkit_Mod.f a3 3000).bind fun t118 => ((curve_Current.f k bt104.1 bt104.2.1 bt104.2.2.1 bt104.2.2.2.1 bt104.2.2.2.2.1 bt104.2.2.2.2.2.1 bt104.2.2.2.2.2.2.1 bt104.2.2.2.2.2.2.2.1 bt104.2.2.2.2.2.2.2.2.1 bt104.2.2.2.2.2.2.2.2.2.1 (wrap64 (t116 - 10000)) t117).bind fun bt119 => ((curve_Current.f k bt104.1 bt104.2.1 bt104.2.2.1 bt104.2.2.2.1 bt104.2.2.2.2.1 bt104.2.2.2.2.2.1 bt104.2.2.2.2.2.2.1 bt104.2.2.2.2.2.2.2.1 bt104.2.2.2.2.2.2.2.2.1 bt104.2.2.2.2.2.2.2.2.2.1 (wrap64 ((wrap64 (t116 - 10000)) + t118)) t117).bind fun bt123 => ((curve_Current.f k bt104.1 bt104.2.1 bt104.2.2.1 bt104.2.2.2.1 bt104.2.2.2.2.1 bt104.2.2.2.2.2.1 bt104.2.2.2.2.2.2.1 bt104.2.2.2.2.2.2.2.1 bt104.2.2.2.2.2.2.2.2.1 bt104.2.2.2.2.2.2.2.2.2.1 (wrap64 (t116 - 10000)) (wrap64 (t117 + t118))).bind fun bt127 => (if bt119.2.2 = 0 then (if bt123.2.2 = 0 then (if bt127.2.2 = 0 then (if bt119.1 ≤ bt119.2.1 then (if bt123.1 ≥ bt119.1 then (if bt123.2.1 ≥ bt119.2.1 then (if bt127.1 ≥ bt119.1 then (if bt127.2.1 ≥ bt119.2.1 then ((thermionlaw02_awake.f k).bind fun t131 => (some t131)) else (none)) else (none)) else (none)) else (none)) else (none)) else (none)) else (none)) else (none)))))))))) else (none)) = some r := H
  have A5 := Aside0.mk A50
  clear A50
  by_cases c6 : t101 = true
  · subst c6
    have H1 : ((thermionkit_NewDice.f l0).bind fun t102 => ((thermionkit_LawOf.f k t102).bind fun bt104 => ((thermionkit_Mod.f a1 20000).bind fun t116 => ((thermionkit_Mod.f a2 400000).bind fun t117 => ((thermionkit_Mod.f a3 3000).bind fun t118 => ((curve_Current.f k bt104.1 bt104.2.1 bt104.2.2.1 bt104.2.2.2.1 bt104.2.2.2.2.1 bt104.2.2.2.2.2.1 bt104.2.2.2.2.2.2.1 bt104.2.2.2.2.2.2.2.1 bt104.2.2.2.2.2.2.2.2.1 bt104.2.2.2.2.2.2.2.2.2.1 (wrap64 (t116 - 10000)) t117).bind fun bt119 => ((curve_Current.f k bt104.1 bt104.2.1 bt104.2.2.1 bt104.2.2.2.1 bt104.2.2.2.2.1 bt104.2.2.2.2.2.1 bt104.2.2.2.2.2.2.1 bt104.2.2.2.2.2.2.2.1 bt104.2.2.2.2.2.2.2.2.1 bt104.2.2.2.2.2.2.2.2.2.1 (wrap64 ((wrap64 (t116 - 10000)) + t118)) t117).bind fun bt123 => ((curve_Current.f k bt104.1 bt104.2.1 bt104.2.2.1 bt104.2.2.2.1 bt104.2.2.2.2.1 bt104.2.2.2.2.2.1 bt104.2.2.2.2.2.2.1 bt104.2.2.2.2.2.2.2.1 bt104.2.2.2.2.2.2.2.2.1 bt104.2.2.2.2.2.2.2.2.2.1 (wrap64 (t116 - 10000)) (wrap64 (t117 + t118))).bind fun bt127 => (if bt119.2.2 = 0 then (if bt123.2.2 = 0 then (if bt127.2.2 = 0 then (if bt119.1 ≤ bt119.2.1 then (if bt123.1 ≥ bt119.1 then (if bt123.2.1 ≥ bt119.2.1 then (if bt127.1 ≥ bt119.1 then (if bt127.2.1 ≥ bt119.2.1 then ((thermionlaw02_awake.f k).bind fun t131 => (some t131)) else (none)) else (none)) else (none)) else (none)) else (none)) else (none)) else (none)) else (none)))))))))) = some r := by rw [if_pos rfl] at H; exact H
    clear H
    have H := H1
    clear H1
    replace H := Option.bind_eq_some_iff.mp H
    obtain ⟨t102, A70, H⟩ := H
    replace H : ((thermionkit_LawOf.f k t102).bind fun bt104 => ((thermionkit_Mod.f a1 20000).bind fun t116 => ((thermionkit_Mod.f a2 400000).bind fun t117 => ((thermionkit_Mod.f a3 3000).bind fun t118 => ((curve_Current.f k bt104.1 bt104.2.1 bt104.2.2.1 bt104.2.2.2.1 bt104.2.2.2.2.1 bt104.2.2.2.2.2.1 bt104.2.2.2.2.2.2.1 bt104.2.2.2.2.2.2.2.1 bt104.2.2.2.2.2.2.2.2.1 bt104.2.2.2.2.2.2.2.2.2.1 (wrap64 (t116 - 10000)) t117).bind fun bt119 => ((curve_Current.f k bt104.1 bt104.2.1 bt104.2.2.1 bt104.2.2.2.1 bt104.2.2.2.2.1 bt104.2.2.2.2.2.1 bt104.2.2.2.2.2.2.1 bt104.2.2.2.2.2.2.2.1 bt104.2.2.2.2.2.2.2.2.1 bt104.2.2.2.2.2.2.2.2.2.1 (wrap64 ((wrap64 (t116 - 10000)) + t118)) t117).bind fun bt123 => ((curve_Current.f k bt104.1 bt104.2.1 bt104.2.2.1 bt104.2.2.2.1 bt104.2.2.2.2.1 bt104.2.2.2.2.2.1 bt104.2.2.2.2.2.2.1 bt104.2.2.2.2.2.2.2.1 bt104.2.2.2.2.2.2.2.2.1 bt104.2.2.2.2.2.2.2.2.2.1 (wrap64 (t116 - 10000)) (wrap64 (t117 + t118))).bind fun bt127 => (if bt119.2.2 = 0 then (if bt123.2.2 = 0 then (if bt127.2.2 = 0 then (if bt119.1 ≤ bt119.2.1 then (if bt123.1 ≥ bt119.1 then (if bt123.2.1 ≥ bt119.2.1 then (if bt127.1 ≥ bt119.1 then (if bt127.2.1 ≥ bt119.2.1 then ((thermionlaw02_awake.f k).bind fun t131 => (some t131)) else (none)) else (none)) else (none)) else (none)) else (none)) else (none)) else (none)) else (none))))))))) = some r := H
    have A7 := Aside0.mk A70
    clear A70
    replace H := Option.bind_eq_some_iff.mp H
    obtain ⟨⟨t104, t105, t106, t107, t108, t109, t110, t111, t112, t113, t114⟩, A80, H⟩ := H
    replace H : ((thermionkit_Mod.f a1 20000).bind fun t116 => ((thermionkit_Mod.f a2 400000).bind fun t117 => ((thermionkit_Mod.f a3 3000).bind fun t118 => ((curve_Current.f k t104 t105 t106 t107 t108 t109 t110 t111 t112 t113 (wrap64 (t116 - 10000)) t117).bind fun bt119 => ((curve_Current.f k t104 t105 t106 t107 t108 t109 t110 t111 t112 t113 (wrap64 ((wrap64 (t116 - 10000)) + t118)) t117).bind fun bt123 => ((curve_Current.f k t104 t105 t106 t107 t108 t109 t110 t111 t112 t113 (wrap64 (t116 - 10000)) (wrap64 (t117 + t118))).bind fun bt127 => (if bt119.2.2 = 0 then (if bt123.2.2 = 0 then (if bt127.2.2 = 0 then (if bt119.1 ≤ bt119.2.1 then (if bt123.1 ≥ bt119.1 then (if bt123.2.1 ≥ bt119.2.1 then (if bt127.1 ≥ bt119.1 then (if bt127.2.1 ≥ bt119.2.1 then ((thermionlaw02_awake.f k).bind fun t131 => (some t131)) else (none)) else (none)) else (none)) else (none)) else (none)) else (none)) else (none)) else (none)))))))) = some r := H
    have A8 := Aside0.mk A80
    clear A80
    replace H := Option.bind_eq_some_iff.mp H
    obtain ⟨t116, A90, H⟩ := H
    replace H : ((thermionkit_Mod.f a2 400000).bind fun t117 => ((thermionkit_Mod.f a3 3000).bind fun t118 => ((curve_Current.f k t104 t105 t106 t107 t108 t109 t110 t111 t112 t113 (wrap64 (t116 - 10000)) t117).bind fun bt119 => ((curve_Current.f k t104 t105 t106 t107 t108 t109 t110 t111 t112 t113 (wrap64 ((wrap64 (t116 - 10000)) + t118)) t117).bind fun bt123 => ((curve_Current.f k t104 t105 t106 t107 t108 t109 t110 t111 t112 t113 (wrap64 (t116 - 10000)) (wrap64 (t117 + t118))).bind fun bt127 => (if bt119.2.2 = 0 then (if bt123.2.2 = 0 then (if bt127.2.2 = 0 then (if bt119.1 ≤ bt119.2.1 then (if bt123.1 ≥ bt119.1 then (if bt123.2.1 ≥ bt119.2.1 then (if bt127.1 ≥ bt119.1 then (if bt127.2.1 ≥ bt119.2.1 then ((thermionlaw02_awake.f k).bind fun t131 => (some t131)) else (none)) else (none)) else (none)) else (none)) else (none)) else (none)) else (none)) else (none))))))) = some r := H
    have A9 := Aside0.mk A90
    clear A90
    replace H := Option.bind_eq_some_iff.mp H
    obtain ⟨t117, A100, H⟩ := H
    replace H : ((thermionkit_Mod.f a3 3000).bind fun t118 => ((curve_Current.f k t104 t105 t106 t107 t108 t109 t110 t111 t112 t113 (wrap64 (t116 - 10000)) t117).bind fun bt119 => ((curve_Current.f k t104 t105 t106 t107 t108 t109 t110 t111 t112 t113 (wrap64 ((wrap64 (t116 - 10000)) + t118)) t117).bind fun bt123 => ((curve_Current.f k t104 t105 t106 t107 t108 t109 t110 t111 t112 t113 (wrap64 (t116 - 10000)) (wrap64 (t117 + t118))).bind fun bt127 => (if bt119.2.2 = 0 then (if bt123.2.2 = 0 then (if bt127.2.2 = 0 then (if bt119.1 ≤ bt119.2.1 then (if bt123.1 ≥ bt119.1 then (if bt123.2.1 ≥ bt119.2.1 then (if bt127.1 ≥ bt119.1 then (if bt127.2.1 ≥ bt119.2.1 then ((thermionlaw02_awake.f k).bind fun t131 => (some t131)) else (none)) else (none)) else (none)) else (none)) else (none)) else (none)) else (none)) else (none)))))) = some r := H
    have A10 := Aside0.mk A100
    clear A100
    replace H := Option.bind_eq_some_iff.mp H
    obtain ⟨t118, A110, H⟩ := H
    replace H : ((curve_Current.f k t104 t105 t106 t107 t108 t109 t110 t111 t112 t113 (wrap64 (t116 - 10000)) t117).bind fun bt119 => ((curve_Current.f k t104 t105 t106 t107 t108 t109 t110 t111 t112 t113 (wrap64 ((wrap64 (t116 - 10000)) + t118)) t117).bind fun bt123 => ((curve_Current.f k t104 t105 t106 t107 t108 t109 t110 t111 t112 t113 (wrap64 (t116 - 10000)) (wrap64 (t117 + t118))).bind fun bt127 => (if bt119.2.2 = 0 then (if bt123.2.2 = 0 then (if bt127.2.2 = 0 then (if bt119.1 ≤ bt119.2.1 then (if bt123.1 ≥ bt119.1 then (if bt123.2.1 ≥ bt119.2.1 then (if bt127.1 ≥ bt119.1 then (if bt127.2.1 ≥ bt119.2.1 then ((thermionlaw02_awake.f k).bind fun t131 => (some t131)) else (none)) else (none)) else (none)) else (none)) else (none)) else (none)) else (none)) else (none))))) = some r := H
    have A11 := Aside0.mk A110
    clear A110
    replace H := Option.bind_eq_some_iff.mp H
    obtain ⟨⟨t119, t120, t121⟩, A120, H⟩ := H
    replace H : ((curve_Current.f k t104 t105 t106 t107 t108 t109 t110 t111 t112 t113 (wrap64 ((wrap64 (t116 - 10000)) + t118)) t117).bind fun bt123 => ((curve_Current.f k t104 t105 t106 t107 t108 t109 t110 t111 t112 t113 (wrap64 (t116 - 10000)) (wrap64 (t117 + t118))).bind fun bt127 => (if t121 = 0 then (if bt123.2.2 = 0 then (if bt127.2.2 = 0 then (if t119 ≤ t120 then (if bt123.1 ≥ t119 then (if bt123.2.1 ≥ t120 then (if bt127.1 ≥ t119 then (if bt127.2.1 ≥ t120 then ((thermionlaw02_awake.f k).bind fun t131 => (some t131)) else (none)) else (none)) else (none)) else (none)) else (none)) else (none)) else (none)) else (none)))) = some r := H
    have A12 := Aside0.mk A120
    clear A120
    replace H := Option.bind_eq_some_iff.mp H
    obtain ⟨⟨t123, t124, t125⟩, A130, H⟩ := H
    replace H : ((curve_Current.f k t104 t105 t106 t107 t108 t109 t110 t111 t112 t113 (wrap64 (t116 - 10000)) (wrap64 (t117 + t118))).bind fun bt127 => (if t121 = 0 then (if t125 = 0 then (if bt127.2.2 = 0 then (if t119 ≤ t120 then (if t123 ≥ t119 then (if t124 ≥ t120 then (if bt127.1 ≥ t119 then (if bt127.2.1 ≥ t120 then ((thermionlaw02_awake.f k).bind fun t131 => (some t131)) else (none)) else (none)) else (none)) else (none)) else (none)) else (none)) else (none)) else (none))) = some r := H
    have A13 := Aside0.mk A130
    clear A130
    replace H := Option.bind_eq_some_iff.mp H
    obtain ⟨⟨t127, t128, t129⟩, A140, H⟩ := H
    replace H : (if t121 = 0 then (if t125 = 0 then (if t129 = 0 then (if t119 ≤ t120 then (if t123 ≥ t119 then (if t124 ≥ t120 then (if t127 ≥ t119 then (if t128 ≥ t120 then ((thermionlaw02_awake.f k).bind fun t131 => (some t131)) else (none)) else (none)) else (none)) else (none)) else (none)) else (none)) else (none)) else (none)) = some r := H
    have A14 := Aside0.mk A140
    clear A140
    by_cases c15 : t121 = 0
    · rw [if_pos c15] at H
      have c15b0 : (t121 == 0) = true := beq_iff_eq.mpr c15
      have c15b1 : (t121 != 0) = false := bne_eq_false_iff_eq.mpr c15
      clear c15
      by_cases c16 : t125 = 0
      · rw [if_pos c16] at H
        have c16b0 : (t125 == 0) = true := beq_iff_eq.mpr c16
        have c16b1 : (t125 != 0) = false := bne_eq_false_iff_eq.mpr c16
        clear c16
        by_cases c17 : t129 = 0
        · rw [if_pos c17] at H
          have c17b0 : (t129 == 0) = true := beq_iff_eq.mpr c17
          have c17b1 : (t129 != 0) = false := bne_eq_false_iff_eq.mpr c17
          clear c17
          by_cases c18 : t119 ≤ t120
          · rw [if_pos c18] at H
            have c18b0 : decide (t119 ≤ t120) = true := decide_eq_true c18
            clear c18
            by_cases c19 : t123 ≥ t119
            · rw [if_pos c19] at H
              have c19b0 : decide (t119 ≤ t123) = true := decide_eq_true c19
              clear c19
              by_cases c20 : t124 ≥ t120
              · rw [if_pos c20] at H
                have c20b0 : decide (t120 ≤ t124) = true := decide_eq_true c20
                clear c20
                by_cases c21 : t127 ≥ t119
                · rw [if_pos c21] at H
                  have c21b0 : decide (t119 ≤ t127) = true := decide_eq_true c21
                  clear c21
                  by_cases c22 : t128 ≥ t120
                  · rw [if_pos c22] at H
                    have c22b0 : decide (t120 ≤ t128) = true := decide_eq_true c22
                    clear c22
                    replace H := Option.bind_eq_some_iff.mp H
                    obtain ⟨t131, A230, H⟩ := H
                    replace H : (some t131) = some r := H
                    have A23 := Aside0.mk A230
                    clear A230
                    obtain rfl := Option.some.inj H
                    go_enter Try.func4, Try.ntmps4
                    go_wp2_with (first | ((with_reducible refine gate_callee (f := 24) rfl ?_); refine goesL_ (some 18) rfl rfl Try.func24 (by kernel_rfl) rfl #[.int .i64 a2, .int .i64 a1] rfl (by (try simp only [List.map_toArray, List.map_cons, List.map_nil]); first | done | rfl | (simp only [List.length_drop, List.length_take]; rfl)) ?_; (with_reducible refine (thermionlaw02_roots.calls k a2 a1 true _ A5.out).mono ?_); rintro e w24 ⟨rfl, hb⟩; refine ⟨_, rfl, ?_⟩; have n0_ := Aside0.mk (below_step (by repeat (first | (with_reducible first | exact HB.out | apply qA | apply qN | apply qD) | exact HB.out)) hb); clear HB; have HB := n0_; clear n0_; (try clear hb); (try clear hb2); (try clear hk); (try clear hi)) | ((with_reducible refine gate_callee (f := 18) rfl ?_); refine goesL_ (some 21) rfl rfl Try.func18 (by kernel_rfl) rfl #[.slice A0 l0.length c0] rfl (by (try simp only [List.map_toArray, List.map_cons, List.map_nil]); first | done | rfl | (simp only [List.length_drop, List.length_take]; rfl)) ?_; (with_reducible refine (thermionkit_NewDice.calls _ _ l0 t102 w _ ?side1 ?side2 ?side3 A7.out).mono ?_); (case side1 => repeat (first | (with_reducible first | exact HB.out | apply qA | apply qN | apply qD) | exact HB.out)); (case side2 => exact HR0.out); (case side3 => exact HC0.out); rintro e w25 ⟨g103, rfl, hi, hb, hb2⟩; refine ⟨_, rfl, ?_⟩; have n0_ := Aside0.mk (hb); have n1_ := Aside0.mk (hi); clear HB; have HB := n0_; have HI103 := n1_; clear n0_ n1_; (try clear hb); (try clear hb2); (try clear hk); (try clear hi)) | ((with_reducible refine gate_callee (f := 25) rfl ?_); refine goesL_ (some 22) rfl rfl Try.func25 (by kernel_rfl) rfl #[.pointer (some ⟨g103, 0, none⟩)] rfl (by (try simp only [List.map_toArray, List.map_cons, List.map_nil]); first | done | rfl | (simp only [List.length_drop, List.length_take]; rfl)) ?_; (with_reducible refine (thermionkit_LawOf.calls k g103 t102 t104 t105 t106 t107 t108 t109 t110 t111 t112 t113 t114 w _ ?side1 ?side2 A8.out).mono ?_); (case side1 => repeat (first | (with_reducible first | exact HI103.out | apply IsS83.alloc | apply IsS83.drewN | apply IsS83.drew | apply IsS83.set_0) | exact HI103.out)); (case side2 => repeat (first | (with_reducible first | exact HB.out | apply qA | apply qN | apply qD | refine below_set ?_ (IsS83.ge HI103.out)) | exact HB.out)); rintro e w26 ⟨rfl, hi, hb, hk⟩; refine ⟨_, rfl, ?_⟩; have n0_ := Aside0.mk (hb); have n1_ := Aside0.mk (hi); clear HB; clear HI103; have HB := n0_; have HI103 := n1_; clear n0_ n1_; (try clear hb); (try clear hb2); (try clear hk); (try clear hi)) | ((with_reducible refine gate_dst (N := 9) rfl ?_); refine box_event ?hg (N := 9) ?hd (cs := #[.int .i64 0, .int .i64 0, .int .i64 0, .int .i64 0, .int .i64 0, .int .i64 0, .int .i64 0, .int .i64 0, .int .i64 0, .int .i64 0]) (t := 42) ?hr ?_; (case hd => rfl); (case hg => rfl); (case hr => first | (go_simp; done) | (go_simp; rfl)); intro gb115 hg w27 hbox hb; have n0_ := Aside0.mk (IsS83.below (by repeat (first | (with_reducible first | exact HI103.out | apply IsS83.alloc | apply IsS83.drewN | apply IsS83.drew | apply IsS83.set_0) | exact HI103.out)) hb); have n1_ := Aside0.mk (below_step (by repeat (first | (with_reducible first | exact HB.out | apply qA | apply qN | apply qD | refine below_set ?_ (IsS83.ge HI103.out)) | exact HB.out)) hb); have n2_ := Aside0.mk (hbox); have n3_ := Aside0.mk ((by rw [hg]; exact (below_size (by repeat (first | (with_reducible first | exact HB.out | apply qA | apply qN | apply qD | refine below_set ?_ (IsS83.ge HI103.out)) | exact HB.out))) : w.heap.size ≤ gb115)); have n4_ := Aside0.mk ((by rw [hg]; exact (below_size (by repeat (first | (with_reducible first | exact HB.out | apply qA | apply qN | apply qD | refine below_set ?_ (IsS83.ge HI103.out)) | exact HB.out))) : w.heap.size ≤ gb115)); have n5_ := Aside0.mk ((by rw [hg]; exact Nat.ne_of_lt (IsS83.lt (show IsS83 w _ g103 t114 from by repeat (first | (with_reducible first | exact HI103.out | apply IsS83.alloc | apply IsS83.drewN | apply IsS83.drew | apply IsS83.set_0) | exact HI103.out))) : g103 ≠ gb115)); have n6_ := Aside0.mk ((by rw [hg]; exact Nat.ne_of_gt (IsS83.lt (show IsS83 w _ g103 t114 from by repeat (first | (with_reducible first | exact HI103.out | apply IsS83.alloc | apply IsS83.drewN | apply IsS83.drew | apply IsS83.set_0) | exact HI103.out))) : gb115 ≠ g103)); clear HI103; clear HB; have HI103 := n0_; have HB := n1_; have BK115 := n2_; have GW115 := n3_; have GE115 := n4_; have NB103_115 := n5_; have NB115_103 := n6_; clear n0_ n1_ n2_ n3_ n4_ n5_ n6_; clear hb hbox hg; have hnb28 := NB115_103.out; have hnc28 := NB103_115.out; have hcz29_0 : w27.cell? ⟨gb115, 0, none⟩ = some (.int .i64 0) := (blk_cell BK115.out 0).trans rfl; have hcz29_1 : w27.cell? ⟨gb115, 1, none⟩ = some (.int .i64 0) := (blk_cell BK115.out 1).trans rfl; have hcz29_2 : w27.cell? ⟨gb115, 2, none⟩ = some (.int .i64 0) := (blk_cell BK115.out 2).trans rfl; have hcz29_3 : w27.cell? ⟨gb115, 3, none⟩ = some (.int .i64 0) := (blk_cell BK115.out 3).trans rfl; have hcz29_4 : w27.cell? ⟨gb115, 4, none⟩ = some (.int .i64 0) := (blk_cell BK115.out 4).trans rfl; have hcz29_5 : w27.cell? ⟨gb115, 5, none⟩ = some (.int .i64 0) := (blk_cell BK115.out 5).trans rfl; have hcz29_6 : w27.cell? ⟨gb115, 6, none⟩ = some (.int .i64 0) := (blk_cell BK115.out 6).trans rfl; have hcz29_7 : w27.cell? ⟨gb115, 7, none⟩ = some (.int .i64 0) := (blk_cell BK115.out 7).trans rfl; have hcz29_8 : w27.cell? ⟨gb115, 8, none⟩ = some (.int .i64 0) := (blk_cell BK115.out 8).trans rfl; have hcz29_9 : w27.cell? ⟨gb115, 9, none⟩ = some (.int .i64 0) := (blk_cell BK115.out 9).trans rfl; have hfz29_0 := blk_frozen BK115.out 0; have hfz29_1 := blk_frozen BK115.out 1; have hfz29_2 := blk_frozen BK115.out 2; have hfz29_3 := blk_frozen BK115.out 3; have hfz29_4 := blk_frozen BK115.out 4; have hfz29_5 := blk_frozen BK115.out 5; have hfz29_6 := blk_frozen BK115.out 6; have hfz29_7 := blk_frozen BK115.out 7; have hfz29_8 := blk_frozen BK115.out 8; have hfz29_9 := blk_frozen BK115.out 9) | ((with_reducible refine gate_callee (f := 26) rfl ?_); refine goesL_ (some 24) rfl rfl Try.func26 (by kernel_rfl) rfl #[.int .i64 a1, .int .i64 20000] rfl (by (try simp only [List.map_toArray, List.map_cons, List.map_nil]); first | done | rfl | (simp only [List.length_drop, List.length_take]; rfl)) ?_; (with_reducible refine (thermionkit_Mod.calls a1 20000 t116 _ A9.out).mono ?_); rintro e w' ⟨rfl, ⟨nd, rfl⟩⟩; refine ⟨_, rfl, ?_⟩) | ((with_reducible refine gate_callee (f := 26) rfl ?_); refine goesL_ (some 27) rfl rfl Try.func26 (by kernel_rfl) rfl #[.int .i64 a2, .int .i64 400000] rfl (by (try simp only [List.map_toArray, List.map_cons, List.map_nil]); first | done | rfl | (simp only [List.length_drop, List.length_take]; rfl)) ?_; (with_reducible refine (thermionkit_Mod.calls a2 400000 t117 _ A10.out).mono ?_); rintro e w' ⟨rfl, ⟨nd, rfl⟩⟩; refine ⟨_, rfl, ?_⟩) | ((with_reducible refine gate_callee (f := 26) rfl ?_); refine goesL_ (some 29) rfl rfl Try.func26 (by kernel_rfl) rfl #[.int .i64 a3, .int .i64 3000] rfl (by (try simp only [List.map_toArray, List.map_cons, List.map_nil]); first | done | rfl | (simp only [List.length_drop, List.length_take]; rfl)) ?_; (with_reducible refine (thermionkit_Mod.calls a3 3000 t118 _ A11.out).mono ?_); rintro e w' ⟨rfl, ⟨nd, rfl⟩⟩; refine ⟨_, rfl, ?_⟩) | ((with_reducible refine gate_callee (f := 27) rfl ?_); refine goesL_ (some 34) rfl rfl Try.func27 (by kernel_rfl) rfl #[.agg #[.int .i64 t104, .int .i64 t105, .int .i64 t106, .int .i64 t107, .int .i64 t108, .int .i64 t109, .int .i64 t110, .int .i64 t111, .int .i64 t112, .int .i64 t113], .int .i64 (wrap64 (t116 - 10000)), .int .i64 t117] rfl (by (try simp only [List.map_toArray, List.map_cons, List.map_nil]); first | done | rfl | (simp only [List.length_drop, List.length_take]; rfl)) ?_; (with_reducible refine (curve_Current.calls k t104 t105 t106 t107 t108 t109 t110 t111 t112 t113 (wrap64 (t116 - 10000)) t117 t119 t120 t121 _ A12.out).mono ?_); rintro e w30 ⟨rfl, hb⟩; refine ⟨_, rfl, ?_⟩; have n0_ := Aside0.mk (IsS83.below (show IsS83 w _ g103 t114 from by repeat (first | (with_reducible first | exact HI103.out | apply IsS83.alloc | apply IsS83.drewN | apply IsS83.drew | apply IsS83.set_0 | refine IsS83.far ?_ NB103_115.out _) | exact HI103.out)) hb); have n1_ := Aside0.mk (blk_below (g := gb115) (o := .cells #[.int .i64 t104, .int .i64 t105, .int .i64 t106, .int .i64 t107, .int .i64 t108, .int .i64 t109, .int .i64 t110, .int .i64 t111, .int .i64 t112, .int .i64 t113] 42 (0, 0)) (by (with_reducible repeat (first | refine qn ?_ _ | refine qd ?_ | refine qa ?_ _)); refine blk_put (cs := #[.int .i64 t104, .int .i64 t105, .int .i64 t106, .int .i64 t107, .int .i64 t108, .int .i64 t109, .int .i64 t110, .int .i64 t111, .int .i64 t112, .int .i64 0]) ?_ 9 _ rfl; (with_reducible repeat (first | refine qn ?_ _ | refine qd ?_ | refine qa ?_ _)); refine blk_put (cs := #[.int .i64 t104, .int .i64 t105, .int .i64 t106, .int .i64 t107, .int .i64 t108, .int .i64 t109, .int .i64 t110, .int .i64 t111, .int .i64 0, .int .i64 0]) ?_ 8 _ rfl; (with_reducible repeat (first | refine qn ?_ _ | refine qd ?_ | refine qa ?_ _)); refine blk_put (cs := #[.int .i64 t104, .int .i64 t105, .int .i64 t106, .int .i64 t107, .int .i64 t108, .int .i64 t109, .int .i64 t110, .int .i64 0, .int .i64 0, .int .i64 0]) ?_ 7 _ rfl; (with_reducible repeat (first | refine qn ?_ _ | refine qd ?_ | refine qa ?_ _)); refine blk_put (cs := #[.int .i64 t104, .int .i64 t105, .int .i64 t106, .int .i64 t107, .int .i64 t108, .int .i64 t109, .int .i64 0, .int .i64 0, .int .i64 0, .int .i64 0]) ?_ 6 _ rfl; (with_reducible repeat (first | refine qn ?_ _ | refine qd ?_ | refine qa ?_ _)); refine blk_put (cs := #[.int .i64 t104, .int .i64 t105, .int .i64 t106, .int .i64 t107, .int .i64 t108, .int .i64 0, .int .i64 0, .int .i64 0, .int .i64 0, .int .i64 0]) ?_ 5 _ rfl; (with_reducible repeat (first | refine qn ?_ _ | refine qd ?_ | refine qa ?_ _)); refine blk_put (cs := #[.int .i64 t104, .int .i64 t105, .int .i64 t106, .int .i64 t107, .int .i64 0, .int .i64 0, .int .i64 0, .int .i64 0, .int .i64 0, .int .i64 0]) ?_ 4 _ rfl; (with_reducible repeat (first | refine qn ?_ _ | refine qd ?_ | refine qa ?_ _)); refine blk_put (cs := #[.int .i64 t104, .int .i64 t105, .int .i64 t106, .int .i64 0, .int .i64 0, .int .i64 0, .int .i64 0, .int .i64 0, .int .i64 0, .int .i64 0]) ?_ 3 _ rfl; (with_reducible repeat (first | refine qn ?_ _ | refine qd ?_ | refine qa ?_ _)); refine blk_put (cs := #[.int .i64 t104, .int .i64 t105, .int .i64 0, .int .i64 0, .int .i64 0, .int .i64 0, .int .i64 0, .int .i64 0, .int .i64 0, .int .i64 0]) ?_ 2 _ rfl; (with_reducible repeat (first | refine qn ?_ _ | refine qd ?_ | refine qa ?_ _)); refine blk_put (cs := #[.int .i64 t104, .int .i64 0, .int .i64 0, .int .i64 0, .int .i64 0, .int .i64 0, .int .i64 0, .int .i64 0, .int .i64 0, .int .i64 0]) ?_ 1 _ rfl; (with_reducible repeat (first | refine qn ?_ _ | refine qd ?_ | refine qa ?_ _)); refine blk_put (cs := #[.int .i64 0, .int .i64 0, .int .i64 0, .int .i64 0, .int .i64 0, .int .i64 0, .int .i64 0, .int .i64 0, .int .i64 0, .int .i64 0]) ?_ 0 _ rfl; (with_reducible repeat (first | refine qn ?_ _ | refine qd ?_ | refine qa ?_ _)); exact BK115.out) hb); have n2_ := Aside0.mk (below_step (by repeat (first | (with_reducible first | exact HB.out | apply qA | apply qN | apply qD | refine below_set ?_ (IsS83.ge HI103.out) | refine below_set ?_ GE115.out) | exact HB.out)) hb); clear HI103; clear BK115; clear HB; have HI103 := n0_; have BK115 := n1_; have HB := n2_; clear n0_ n1_ n2_; (try clear hb); (try clear hb2); (try clear hk); (try clear hi)) | ((with_reducible refine gate_dst (N := 10) rfl ?_); refine box_event ?hg (N := 10) ?hd (cs := #[.int .i64 0, .int .i64 0]) (t := 35) ?hr ?_; (case hd => rfl); (case hg => rfl); (case hr => first | (go_simp; done) | (go_simp; rfl)); intro gb122 hg w31 hbox hb; have n0_ := Aside0.mk (IsS83.below (by repeat (first | (with_reducible first | exact HI103.out | apply IsS83.alloc | apply IsS83.drewN | apply IsS83.drew | apply IsS83.set_0 | refine IsS83.far ?_ NB103_115.out _) | exact HI103.out)) hb); have n1_ := Aside0.mk (blk_below (by (with_reducible repeat (first | refine qn ?_ _ | refine qd ?_ | refine qa ?_ _)); exact BK115.out) hb); have n2_ := Aside0.mk (below_step (by repeat (first | (with_reducible first | exact HB.out | apply qA | apply qN | apply qD | refine below_set ?_ (IsS83.ge HI103.out) | refine below_set ?_ GE115.out) | exact HB.out)) hb); have n3_ := Aside0.mk (hbox); have n4_ := Aside0.mk ((by rw [hg]; exact (below_size (by repeat (first | (with_reducible first | exact HB.out | apply qA | apply qN | apply qD | refine below_set ?_ (IsS83.ge HI103.out) | refine below_set ?_ GE115.out) | exact HB.out))) : w.heap.size ≤ gb122)); have n5_ := Aside0.mk ((by rw [hg]; exact (below_size (by repeat (first | (with_reducible first | exact HB.out | apply qA | apply qN | apply qD | refine below_set ?_ (IsS83.ge HI103.out) | refine below_set ?_ GE115.out) | exact HB.out))) : w.heap.size ≤ gb122)); have n6_ := Aside0.mk ((by rw [hg]; exact Nat.ne_of_lt (blk_lt (by (with_reducible repeat (first | refine qn ?_ _ | refine qd ?_ | refine qa ?_ _)); exact BK115.out)) : gb115 ≠ gb122)); have n7_ := Aside0.mk ((by rw [hg]; exact Nat.ne_of_gt (blk_lt (by (with_reducible repeat (first | refine qn ?_ _ | refine qd ?_ | refine qa ?_ _)); exact BK115.out)) : gb122 ≠ gb115)); have n8_ := Aside0.mk ((by rw [hg]; exact Nat.ne_of_lt (IsS83.lt (show IsS83 w _ g103 t114 from by repeat (first | (with_reducible first | exact HI103.out | apply IsS83.alloc | apply IsS83.drewN | apply IsS83.drew | apply IsS83.set_0 | refine IsS83.far ?_ NB103_115.out _) | exact HI103.out))) : g103 ≠ gb122)); have n9_ := Aside0.mk ((by rw [hg]; exact Nat.ne_of_gt (IsS83.lt (show IsS83 w _ g103 t114 from by repeat (first | (with_reducible first | exact HI103.out | apply IsS83.alloc | apply IsS83.drewN | apply IsS83.drew | apply IsS83.set_0 | refine IsS83.far ?_ NB103_115.out _) | exact HI103.out))) : gb122 ≠ g103)); clear HI103; clear BK115; clear HB; have HI103 := n0_; have BK115 := n1_; have HB := n2_; have BK122 := n3_; have GW122 := n4_; have GE122 := n5_; have NB115_122 := n6_; have NB122_115 := n7_; have NB103_122 := n8_; have NB122_103 := n9_; clear n0_ n1_ n2_ n3_ n4_ n5_ n6_ n7_ n8_ n9_; clear hb hbox hg; have hnb32 := NB122_115.out; have hnc32 := NB115_122.out; have hnb33 := NB122_103.out; have hnc33 := NB103_122.out; have hcz34_0 : w31.cell? ⟨gb122, 0, none⟩ = some (.int .i64 0) := (blk_cell BK122.out 0).trans rfl; have hcz34_1 : w31.cell? ⟨gb122, 1, none⟩ = some (.int .i64 0) := (blk_cell BK122.out 1).trans rfl; have hfz34_0 := blk_frozen BK122.out 0; have hfz34_1 := blk_frozen BK122.out 1; have hcz35_0 : w31.cell? ⟨gb115, 0, none⟩ = some (.int .i64 t104) := (blk_cell BK115.out 0).trans rfl; have hcz35_1 : w31.cell? ⟨gb115, 1, none⟩ = some (.int .i64 t105) := (blk_cell BK115.out 1).trans rfl; have hcz35_2 : w31.cell? ⟨gb115, 2, none⟩ = some (.int .i64 t106) := (blk_cell BK115.out 2).trans rfl; have hcz35_3 : w31.cell? ⟨gb115, 3, none⟩ = some (.int .i64 t107) := (blk_cell BK115.out 3).trans rfl; have hcz35_4 : w31.cell? ⟨gb115, 4, none⟩ = some (.int .i64 t108) := (blk_cell BK115.out 4).trans rfl; have hcz35_5 : w31.cell? ⟨gb115, 5, none⟩ = some (.int .i64 t109) := (blk_cell BK115.out 5).trans rfl; have hcz35_6 : w31.cell? ⟨gb115, 6, none⟩ = some (.int .i64 t110) := (blk_cell BK115.out 6).trans rfl; have hcz35_7 : w31.cell? ⟨gb115, 7, none⟩ = some (.int .i64 t111) := (blk_cell BK115.out 7).trans rfl; have hcz35_8 : w31.cell? ⟨gb115, 8, none⟩ = some (.int .i64 t112) := (blk_cell BK115.out 8).trans rfl; have hcz35_9 : w31.cell? ⟨gb115, 9, none⟩ = some (.int .i64 t113) := (blk_cell BK115.out 9).trans rfl; have hfz35_0 := blk_frozen BK115.out 0; have hfz35_1 := blk_frozen BK115.out 1; have hfz35_2 := blk_frozen BK115.out 2; have hfz35_3 := blk_frozen BK115.out 3; have hfz35_4 := blk_frozen BK115.out 4; have hfz35_5 := blk_frozen BK115.out 5; have hfz35_6 := blk_frozen BK115.out 6; have hfz35_7 := blk_frozen BK115.out 7; have hfz35_8 := blk_frozen BK115.out 8; have hfz35_9 := blk_frozen BK115.out 9) | ((with_reducible refine gate_callee (f := 27) rfl ?_); refine goesL_ (some 43) rfl rfl Try.func27 (by kernel_rfl) rfl #[.agg #[.int .i64 t104, .int .i64 t105, .int .i64 t106, .int .i64 t107, .int .i64 t108, .int .i64 t109, .int .i64 t110, .int .i64 t111, .int .i64 t112, .int .i64 t113], .int .i64 (wrap64 ((wrap64 (t116 - 10000)) + t118)), .int .i64 t117] rfl (by (try simp only [List.map_toArray, List.map_cons, List.map_nil]); first | done | rfl | (simp only [List.length_drop, List.length_take]; rfl)) ?_; (with_reducible refine (curve_Current.calls k t104 t105 t106 t107 t108 t109 t110 t111 t112 t113 (wrap64 ((wrap64 (t116 - 10000)) + t118)) t117 t123 t124 t125 _ A13.out).mono ?_); rintro e w36 ⟨rfl, hb⟩; refine ⟨_, rfl, ?_⟩; have n0_ := Aside0.mk (IsS83.below (show IsS83 w _ g103 t114 from by repeat (first | (with_reducible first | exact HI103.out | apply IsS83.alloc | apply IsS83.drewN | apply IsS83.drew | apply IsS83.set_0 | refine IsS83.far ?_ NB103_115.out _ | refine IsS83.far ?_ NB103_122.out _) | exact HI103.out)) hb); have n1_ := Aside0.mk (blk_below (g := gb115) (o := .cells #[.int .i64 t104, .int .i64 t105, .int .i64 t106, .int .i64 t107, .int .i64 t108, .int .i64 t109, .int .i64 t110, .int .i64 t111, .int .i64 t112, .int .i64 t113] 42 (0, 0)) (by (with_reducible repeat (first | refine qn ?_ _ | refine qd ?_ | refine qa ?_ _)); refine blk_far ?_ NB115_122.out _; (with_reducible repeat (first | refine qn ?_ _ | refine qd ?_ | refine qa ?_ _)); refine blk_far ?_ NB115_122.out _; (with_reducible repeat (first | refine qn ?_ _ | refine qd ?_ | refine qa ?_ _)); exact BK115.out) hb); have n2_ := Aside0.mk (blk_below (g := gb122) (o := .cells #[.int .i64 t119, .int .i64 t120] 35 (0, 0)) (by (with_reducible repeat (first | refine qn ?_ _ | refine qd ?_ | refine qa ?_ _)); refine blk_put (cs := #[.int .i64 t119, .int .i64 0]) ?_ 1 _ rfl; (with_reducible repeat (first | refine qn ?_ _ | refine qd ?_ | refine qa ?_ _)); refine blk_put (cs := #[.int .i64 0, .int .i64 0]) ?_ 0 _ rfl; (with_reducible repeat (first | refine qn ?_ _ | refine qd ?_ | refine qa ?_ _)); exact BK122.out) hb); have n3_ := Aside0.mk (below_step (by repeat (first | (with_reducible first | exact HB.out | apply qA | apply qN | apply qD | refine below_set ?_ (IsS83.ge HI103.out) | refine below_set ?_ GE115.out | refine below_set ?_ GE122.out) | exact HB.out)) hb); clear HI103; clear BK115; clear BK122; clear HB; have HI103 := n0_; have BK115 := n1_; have BK122 := n2_; have HB := n3_; clear n0_ n1_ n2_ n3_; (try clear hb); (try clear hb2); (try clear hk); (try clear hi)) | ((with_reducible refine gate_dst (N := 12) rfl ?_); refine box_event ?hg (N := 12) ?hd (cs := #[.int .i64 0, .int .i64 0]) (t := 35) ?hr ?_; (case hd => rfl); (case hg => rfl); (case hr => first | (go_simp; done) | (go_simp; rfl)); intro gb126 hg w37 hbox hb; have n0_ := Aside0.mk (IsS83.below (by repeat (first | (with_reducible first | exact HI103.out | apply IsS83.alloc | apply IsS83.drewN | apply IsS83.drew | apply IsS83.set_0 | refine IsS83.far ?_ NB103_115.out _ | refine IsS83.far ?_ NB103_122.out _) | exact HI103.out)) hb); have n1_ := Aside0.mk (blk_below (by (with_reducible repeat (first | refine qn ?_ _ | refine qd ?_ | refine qa ?_ _)); exact BK115.out) hb); have n2_ := Aside0.mk (blk_below (by (with_reducible repeat (first | refine qn ?_ _ | refine qd ?_ | refine qa ?_ _)); exact BK122.out) hb); have n3_ := Aside0.mk (below_step (by repeat (first | (with_reducible first | exact HB.out | apply qA | apply qN | apply qD | refine below_set ?_ (IsS83.ge HI103.out) | refine below_set ?_ GE115.out | refine below_set ?_ GE122.out) | exact HB.out)) hb); have n4_ := Aside0.mk (hbox); have n5_ := Aside0.mk ((by rw [hg]; exact (below_size (by repeat (first | (with_reducible first | exact HB.out | apply qA | apply qN | apply qD | refine below_set ?_ (IsS83.ge HI103.out) | refine below_set ?_ GE115.out | refine below_set ?_ GE122.out) | exact HB.out))) : w.heap.size ≤ gb126)); have n6_ := Aside0.mk ((by rw [hg]; exact (below_size (by repeat (first | (with_reducible first | exact HB.out | apply qA | apply qN | apply qD | refine below_set ?_ (IsS83.ge HI103.out) | refine below_set ?_ GE115.out | refine below_set ?_ GE122.out) | exact HB.out))) : w.heap.size ≤ gb126)); have n7_ := Aside0.mk ((by rw [hg]; exact Nat.ne_of_lt (blk_lt (by (with_reducible repeat (first | refine qn ?_ _ | refine qd ?_ | refine qa ?_ _)); exact BK115.out)) : gb115 ≠ gb126)); have n8_ := Aside0.mk ((by rw [hg]; exact Nat.ne_of_gt (blk_lt (by (with_reducible repeat (first | refine qn ?_ _ | refine qd ?_ | refine qa ?_ _)); exact BK115.out)) : gb126 ≠ gb115)); have n9_ := Aside0.mk ((by rw [hg]; exact Nat.ne_of_lt (blk_lt (by (with_reducible repeat (first | refine qn ?_ _ | refine qd ?_ | refine qa ?_ _)); exact BK122.out)) : gb122 ≠ gb126)); have n10_ := Aside0.mk ((by rw [hg]; exact Nat.ne_of_gt (blk_lt (by (with_reducible repeat (first | refine qn ?_ _ | refine qd ?_ | refine qa ?_ _)); exact BK122.out)) : gb126 ≠ gb122)); have n11_ := Aside0.mk ((by rw [hg]; exact Nat.ne_of_lt (IsS83.lt (show IsS83 w _ g103 t114 from by repeat (first | (with_reducible first | exact HI103.out | apply IsS83.alloc | apply IsS83.drewN | apply IsS83.drew | apply IsS83.set_0 | refine IsS83.far ?_ NB103_115.out _ | refine IsS83.far ?_ NB103_122.out _) | exact HI103.out))) : g103 ≠ gb126)); have n12_ := Aside0.mk ((by rw [hg]; exact Nat.ne_of_gt (IsS83.lt (show IsS83 w _ g103 t114 from by repeat (first | (with_reducible first | exact HI103.out | apply IsS83.alloc | apply IsS83.drewN | apply IsS83.drew | apply IsS83.set_0 | refine IsS83.far ?_ NB103_115.out _ | refine IsS83.far ?_ NB103_122.out _) | exact HI103.out))) : gb126 ≠ g103)); clear HI103; clear BK115; clear BK122; clear HB; have HI103 := n0_; have BK115 := n1_; have BK122 := n2_; have HB := n3_; have BK126 := n4_; have GW126 := n5_; have GE126 := n6_; have NB115_126 := n7_; have NB126_115 := n8_; have NB122_126 := n9_; have NB126_122 := n10_; have NB103_126 := n11_; have NB126_103 := n12_; clear n0_ n1_ n2_ n3_ n4_ n5_ n6_ n7_ n8_ n9_ n10_ n11_ n12_; clear hb hbox hg; have hnb38 := NB126_115.out; have hnc38 := NB115_126.out; have hnb39 := NB126_122.out; have hnc39 := NB122_126.out; have hnb40 := NB126_103.out; have hnc40 := NB103_126.out; have hcz41_0 : w37.cell? ⟨gb126, 0, none⟩ = some (.int .i64 0) := (blk_cell BK126.out 0).trans rfl; have hcz41_1 : w37.cell? ⟨gb126, 1, none⟩ = some (.int .i64 0) := (blk_cell BK126.out 1).trans rfl; have hfz41_0 := blk_frozen BK126.out 0; have hfz41_1 := blk_frozen BK126.out 1; have hcz42_0 : w37.cell? ⟨gb115, 0, none⟩ = some (.int .i64 t104) := (blk_cell BK115.out 0).trans rfl; have hcz42_1 : w37.cell? ⟨gb115, 1, none⟩ = some (.int .i64 t105) := (blk_cell BK115.out 1).trans rfl; have hcz42_2 : w37.cell? ⟨gb115, 2, none⟩ = some (.int .i64 t106) := (blk_cell BK115.out 2).trans rfl; have hcz42_3 : w37.cell? ⟨gb115, 3, none⟩ = some (.int .i64 t107) := (blk_cell BK115.out 3).trans rfl; have hcz42_4 : w37.cell? ⟨gb115, 4, none⟩ = some (.int .i64 t108) := (blk_cell BK115.out 4).trans rfl; have hcz42_5 : w37.cell? ⟨gb115, 5, none⟩ = some (.int .i64 t109) := (blk_cell BK115.out 5).trans rfl; have hcz42_6 : w37.cell? ⟨gb115, 6, none⟩ = some (.int .i64 t110) := (blk_cell BK115.out 6).trans rfl; have hcz42_7 : w37.cell? ⟨gb115, 7, none⟩ = some (.int .i64 t111) := (blk_cell BK115.out 7).trans rfl; have hcz42_8 : w37.cell? ⟨gb115, 8, none⟩ = some (.int .i64 t112) := (blk_cell BK115.out 8).trans rfl; have hcz42_9 : w37.cell? ⟨gb115, 9, none⟩ = some (.int .i64 t113) := (blk_cell BK115.out 9).trans rfl; have hfz42_0 := blk_frozen BK115.out 0; have hfz42_1 := blk_frozen BK115.out 1; have hfz42_2 := blk_frozen BK115.out 2; have hfz42_3 := blk_frozen BK115.out 3; have hfz42_4 := blk_frozen BK115.out 4; have hfz42_5 := blk_frozen BK115.out 5; have hfz42_6 := blk_frozen BK115.out 6; have hfz42_7 := blk_frozen BK115.out 7; have hfz42_8 := blk_frozen BK115.out 8; have hfz42_9 := blk_frozen BK115.out 9) | ((with_reducible refine gate_callee (f := 27) rfl ?_); refine goesL_ (some 52) rfl rfl Try.func27 (by kernel_rfl) rfl #[.agg #[.int .i64 t104, .int .i64 t105, .int .i64 t106, .int .i64 t107, .int .i64 t108, .int .i64 t109, .int .i64 t110, .int .i64 t111, .int .i64 t112, .int .i64 t113], .int .i64 (wrap64 (t116 - 10000)), .int .i64 (wrap64 (t117 + t118))] rfl (by (try simp only [List.map_toArray, List.map_cons, List.map_nil]); first | done | rfl | (simp only [List.length_drop, List.length_take]; rfl)) ?_; (with_reducible refine (curve_Current.calls k t104 t105 t106 t107 t108 t109 t110 t111 t112 t113 (wrap64 (t116 - 10000)) (wrap64 (t117 + t118)) t127 t128 t129 _ A14.out).mono ?_); rintro e w43 ⟨rfl, hb⟩; refine ⟨_, rfl, ?_⟩; have n0_ := Aside0.mk (IsS83.below (show IsS83 w _ g103 t114 from by repeat (first | (with_reducible first | exact HI103.out | apply IsS83.alloc | apply IsS83.drewN | apply IsS83.drew | apply IsS83.set_0 | refine IsS83.far ?_ NB103_115.out _ | refine IsS83.far ?_ NB103_122.out _ | refine IsS83.far ?_ NB103_126.out _) | exact HI103.out)) hb); have n1_ := Aside0.mk (blk_below (g := gb115) (o := .cells #[.int .i64 t104, .int .i64 t105, .int .i64 t106, .int .i64 t107, .int .i64 t108, .int .i64 t109, .int .i64 t110, .int .i64 t111, .int .i64 t112, .int .i64 t113] 42 (0, 0)) (by (with_reducible repeat (first | refine qn ?_ _ | refine qd ?_ | refine qa ?_ _)); refine blk_far ?_ NB115_126.out _; (with_reducible repeat (first | refine qn ?_ _ | refine qd ?_ | refine qa ?_ _)); refine blk_far ?_ NB115_126.out _; (with_reducible repeat (first | refine qn ?_ _ | refine qd ?_ | refine qa ?_ _)); exact BK115.out) hb); have n2_ := Aside0.mk (blk_below (g := gb122) (o := .cells #[.int .i64 t119, .int .i64 t120] 35 (0, 0)) (by (with_reducible repeat (first | refine qn ?_ _ | refine qd ?_ | refine qa ?_ _)); refine blk_far ?_ NB122_126.out _; (with_reducible repeat (first | refine qn ?_ _ | refine qd ?_ | refine qa ?_ _)); refine blk_far ?_ NB122_126.out _; (with_reducible repeat (first | refine qn ?_ _ | refine qd ?_ | refine qa ?_ _)); exact BK122.out) hb); have n3_ := Aside0.mk (blk_below (g := gb126) (o := .cells #[.int .i64 t123, .int .i64 t124] 35 (0, 0)) (by (with_reducible repeat (first | refine qn ?_ _ | refine qd ?_ | refine qa ?_ _)); refine blk_put (cs := #[.int .i64 t123, .int .i64 0]) ?_ 1 _ rfl; (with_reducible repeat (first | refine qn ?_ _ | refine qd ?_ | refine qa ?_ _)); refine blk_put (cs := #[.int .i64 0, .int .i64 0]) ?_ 0 _ rfl; (with_reducible repeat (first | refine qn ?_ _ | refine qd ?_ | refine qa ?_ _)); exact BK126.out) hb); have n4_ := Aside0.mk (below_step (by repeat (first | (with_reducible first | exact HB.out | apply qA | apply qN | apply qD | refine below_set ?_ (IsS83.ge HI103.out) | refine below_set ?_ GE115.out | refine below_set ?_ GE122.out | refine below_set ?_ GE126.out) | exact HB.out)) hb); clear HI103; clear BK115; clear BK122; clear BK126; clear HB; have HI103 := n0_; have BK115 := n1_; have BK122 := n2_; have BK126 := n3_; have HB := n4_; clear n0_ n1_ n2_ n3_ n4_; (try clear hb); (try clear hb2); (try clear hk); (try clear hi)) | ((with_reducible refine gate_dst (N := 14) rfl ?_); refine box_event ?hg (N := 14) ?hd (cs := #[.int .i64 0, .int .i64 0]) (t := 35) ?hr ?_; (case hd => rfl); (case hg => rfl); (case hr => first | (go_simp; done) | (go_simp; rfl)); intro gb130 hg w44 hbox hb; have n0_ := Aside0.mk (IsS83.below (by repeat (first | (with_reducible first | exact HI103.out | apply IsS83.alloc | apply IsS83.drewN | apply IsS83.drew | apply IsS83.set_0 | refine IsS83.far ?_ NB103_115.out _ | refine IsS83.far ?_ NB103_122.out _ | refine IsS83.far ?_ NB103_126.out _) | exact HI103.out)) hb); have n1_ := Aside0.mk (blk_below (by (with_reducible repeat (first | refine qn ?_ _ | refine qd ?_ | refine qa ?_ _)); exact BK115.out) hb); have n2_ := Aside0.mk (blk_below (by (with_reducible repeat (first | refine qn ?_ _ | refine qd ?_ | refine qa ?_ _)); exact BK122.out) hb); have n3_ := Aside0.mk (blk_below (by (with_reducible repeat (first | refine qn ?_ _ | refine qd ?_ | refine qa ?_ _)); exact BK126.out) hb); have n4_ := Aside0.mk (below_step (by repeat (first | (with_reducible first | exact HB.out | apply qA | apply qN | apply qD | refine below_set ?_ (IsS83.ge HI103.out) | refine below_set ?_ GE115.out | refine below_set ?_ GE122.out | refine below_set ?_ GE126.out) | exact HB.out)) hb); have n5_ := Aside0.mk (hbox); have n6_ := Aside0.mk ((by rw [hg]; exact (below_size (by repeat (first | (with_reducible first | exact HB.out | apply qA | apply qN | apply qD | refine below_set ?_ (IsS83.ge HI103.out) | refine below_set ?_ GE115.out | refine below_set ?_ GE122.out | refine below_set ?_ GE126.out) | exact HB.out))) : w.heap.size ≤ gb130)); have n7_ := Aside0.mk ((by rw [hg]; exact (below_size (by repeat (first | (with_reducible first | exact HB.out | apply qA | apply qN | apply qD | refine below_set ?_ (IsS83.ge HI103.out) | refine below_set ?_ GE115.out | refine below_set ?_ GE122.out | refine below_set ?_ GE126.out) | exact HB.out))) : w.heap.size ≤ gb130)); have n8_ := Aside0.mk ((by rw [hg]; exact Nat.ne_of_lt (blk_lt (by (with_reducible repeat (first | refine qn ?_ _ | refine qd ?_ | refine qa ?_ _)); exact BK115.out)) : gb115 ≠ gb130)); have n9_ := Aside0.mk ((by rw [hg]; exact Nat.ne_of_gt (blk_lt (by (with_reducible repeat (first | refine qn ?_ _ | refine qd ?_ | refine qa ?_ _)); exact BK115.out)) : gb130 ≠ gb115)); have n10_ := Aside0.mk ((by rw [hg]; exact Nat.ne_of_lt (blk_lt (by (with_reducible repeat (first | refine qn ?_ _ | refine qd ?_ | refine qa ?_ _)); exact BK122.out)) : gb122 ≠ gb130)); have n11_ := Aside0.mk ((by rw [hg]; exact Nat.ne_of_gt (blk_lt (by (with_reducible repeat (first | refine qn ?_ _ | refine qd ?_ | refine qa ?_ _)); exact BK122.out)) : gb130 ≠ gb122)); have n12_ := Aside0.mk ((by rw [hg]; exact Nat.ne_of_lt (blk_lt (by (with_reducible repeat (first | refine qn ?_ _ | refine qd ?_ | refine qa ?_ _)); exact BK126.out)) : gb126 ≠ gb130)); have n13_ := Aside0.mk ((by rw [hg]; exact Nat.ne_of_gt (blk_lt (by (with_reducible repeat (first | refine qn ?_ _ | refine qd ?_ | refine qa ?_ _)); exact BK126.out)) : gb130 ≠ gb126)); have n14_ := Aside0.mk ((by rw [hg]; exact Nat.ne_of_lt (IsS83.lt (show IsS83 w _ g103 t114 from by repeat (first | (with_reducible first | exact HI103.out | apply IsS83.alloc | apply IsS83.drewN | apply IsS83.drew | apply IsS83.set_0 | refine IsS83.far ?_ NB103_115.out _ | refine IsS83.far ?_ NB103_122.out _ | refine IsS83.far ?_ NB103_126.out _) | exact HI103.out))) : g103 ≠ gb130)); have n15_ := Aside0.mk ((by rw [hg]; exact Nat.ne_of_gt (IsS83.lt (show IsS83 w _ g103 t114 from by repeat (first | (with_reducible first | exact HI103.out | apply IsS83.alloc | apply IsS83.drewN | apply IsS83.drew | apply IsS83.set_0 | refine IsS83.far ?_ NB103_115.out _ | refine IsS83.far ?_ NB103_122.out _ | refine IsS83.far ?_ NB103_126.out _) | exact HI103.out))) : gb130 ≠ g103)); clear HI103; clear BK115; clear BK122; clear BK126; clear HB; have HI103 := n0_; have BK115 := n1_; have BK122 := n2_; have BK126 := n3_; have HB := n4_; have BK130 := n5_; have GW130 := n6_; have GE130 := n7_; have NB115_130 := n8_; have NB130_115 := n9_; have NB122_130 := n10_; have NB130_122 := n11_; have NB126_130 := n12_; have NB130_126 := n13_; have NB103_130 := n14_; have NB130_103 := n15_; clear n0_ n1_ n2_ n3_ n4_ n5_ n6_ n7_ n8_ n9_ n10_ n11_ n12_ n13_ n14_ n15_; clear hb hbox hg; have hnb45 := NB130_115.out; have hnc45 := NB115_130.out; have hnb46 := NB130_122.out; have hnc46 := NB122_130.out; have hnb47 := NB130_126.out; have hnc47 := NB126_130.out; have hnb48 := NB130_103.out; have hnc48 := NB103_130.out; have hcz49_0 : w44.cell? ⟨gb130, 0, none⟩ = some (.int .i64 0) := (blk_cell BK130.out 0).trans rfl; have hcz49_1 : w44.cell? ⟨gb130, 1, none⟩ = some (.int .i64 0) := (blk_cell BK130.out 1).trans rfl; have hfz49_0 := blk_frozen BK130.out 0; have hfz49_1 := blk_frozen BK130.out 1; have hcz50_0 : w44.cell? ⟨gb122, 0, none⟩ = some (.int .i64 t119) := (blk_cell BK122.out 0).trans rfl; have hcz50_1 : w44.cell? ⟨gb122, 1, none⟩ = some (.int .i64 t120) := (blk_cell BK122.out 1).trans rfl; have hfz50_0 := blk_frozen BK122.out 0; have hfz50_1 := blk_frozen BK122.out 1; have hcz51_0 : w44.cell? ⟨gb126, 0, none⟩ = some (.int .i64 t123) := (blk_cell BK126.out 0).trans rfl; have hcz51_1 : w44.cell? ⟨gb126, 1, none⟩ = some (.int .i64 t124) := (blk_cell BK126.out 1).trans rfl; have hfz51_0 := blk_frozen BK126.out 0; have hfz51_1 := blk_frozen BK126.out 1) | (go_at_call 17; (with_reducible refine (thermionlaw02_awake.calls k  t131 _ A23.out).mono ?_); rintro e w52 ⟨rfl, hb⟩; have n0_ := Aside0.mk (IsS83.below (show IsS83 w _ g103 t114 from by repeat (first | (with_reducible first | exact HI103.out | apply IsS83.alloc | apply IsS83.drewN | apply IsS83.drew | apply IsS83.set_0 | refine IsS83.far ?_ NB103_115.out _ | refine IsS83.far ?_ NB103_122.out _ | refine IsS83.far ?_ NB103_126.out _ | refine IsS83.far ?_ NB103_130.out _) | exact HI103.out)) hb); have n1_ := Aside0.mk (blk_below (g := gb115) (o := .cells #[.int .i64 t104, .int .i64 t105, .int .i64 t106, .int .i64 t107, .int .i64 t108, .int .i64 t109, .int .i64 t110, .int .i64 t111, .int .i64 t112, .int .i64 t113] 42 (0, 0)) (by (with_reducible repeat (first | refine qn ?_ _ | refine qd ?_ | refine qa ?_ _)); refine blk_far ?_ NB115_130.out _; (with_reducible repeat (first | refine qn ?_ _ | refine qd ?_ | refine qa ?_ _)); refine blk_far ?_ NB115_130.out _; (with_reducible repeat (first | refine qn ?_ _ | refine qd ?_ | refine qa ?_ _)); exact BK115.out) hb); have n2_ := Aside0.mk (blk_below (g := gb122) (o := .cells #[.int .i64 t119, .int .i64 t120] 35 (0, 0)) (by (with_reducible repeat (first | refine qn ?_ _ | refine qd ?_ | refine qa ?_ _)); refine blk_far ?_ NB122_130.out _; (with_reducible repeat (first | refine qn ?_ _ | refine qd ?_ | refine qa ?_ _)); refine blk_far ?_ NB122_130.out _; (with_reducible repeat (first | refine qn ?_ _ | refine qd ?_ | refine qa ?_ _)); exact BK122.out) hb); have n3_ := Aside0.mk (blk_below (g := gb126) (o := .cells #[.int .i64 t123, .int .i64 t124] 35 (0, 0)) (by (with_reducible repeat (first | refine qn ?_ _ | refine qd ?_ | refine qa ?_ _)); refine blk_far ?_ NB126_130.out _; (with_reducible repeat (first | refine qn ?_ _ | refine qd ?_ | refine qa ?_ _)); refine blk_far ?_ NB126_130.out _; (with_reducible repeat (first | refine qn ?_ _ | refine qd ?_ | refine qa ?_ _)); exact BK126.out) hb); have n4_ := Aside0.mk (blk_below (g := gb130) (o := .cells #[.int .i64 t127, .int .i64 t128] 35 (0, 0)) (by (with_reducible repeat (first | refine qn ?_ _ | refine qd ?_ | refine qa ?_ _)); refine blk_put (cs := #[.int .i64 t127, .int .i64 0]) ?_ 1 _ rfl; (with_reducible repeat (first | refine qn ?_ _ | refine qd ?_ | refine qa ?_ _)); refine blk_put (cs := #[.int .i64 0, .int .i64 0]) ?_ 0 _ rfl; (with_reducible repeat (first | refine qn ?_ _ | refine qd ?_ | refine qa ?_ _)); exact BK130.out) hb); have n5_ := Aside0.mk (below_step (by repeat (first | (with_reducible first | exact HB.out | apply qA | apply qN | apply qD | refine below_set ?_ (IsS83.ge HI103.out) | refine below_set ?_ GE115.out | refine below_set ?_ GE122.out | refine below_set ?_ GE126.out | refine below_set ?_ GE130.out) | exact HB.out)) hb); clear HI103; clear BK115; clear BK122; clear BK126; clear BK130; clear HB; have HI103 := n0_; have BK115 := n1_; have BK122 := n2_; have BK126 := n3_; have BK130 := n4_; have HB := n5_; clear n0_ n1_ n2_ n3_ n4_ n5_; (try clear hb); (try clear hb2); (try clear hk); (try clear hi)))
                    go_ret
                    exact ⟨by first | rfl | (simp [errW_none, errW_some] <;> rfl) | (simp [*, errW_none, errW_some] <;> rfl), by repeat (first | (with_reducible first | exact HB.out | apply qA | apply qN | apply qD | refine below_set ?_ (IsS83.ge HI103.out) | refine below_set ?_ GE115.out | refine below_set ?_ GE122.out | refine below_set ?_ GE126.out | refine below_set ?_ GE130.out) | exact HB.out)⟩
                  · rw [if_neg c22] at H
                    exact absurd H (by simp)
                · rw [if_neg c21] at H
                  exact absurd H (by simp)
              · rw [if_neg c20] at H
                exact absurd H (by simp)
            · rw [if_neg c19] at H
              exact absurd H (by simp)
          · rw [if_neg c18] at H
            exact absurd H (by simp)
        · rw [if_neg c17] at H
          exact absurd H (by simp)
      · rw [if_neg c16] at H
        exact absurd H (by simp)
    · rw [if_neg c15] at H
      exact absurd H (by simp)
  · replace c6 := Bool.eq_false_iff.mpr c6
    subst c6
    have H1 : (none) = some r := by rw [if_neg (show ¬ (false = true) by decide)] at H; exact H
    clear H
    have H := H1
    clear H1
    exact absurd H (by simp)

/-- THE ONE PURE STATEMENT of thermionlaw02_CurveRises: yours. -/
def thermionlaw02_CurveRises.Pure : Prop := ∀ (l0 : List Int) (a1 : Int) (a2 : Int) (a3 : Int), l0.length ≤ maxLen → l0.length * 8 ≤ 140737488351232 → (∀ x ∈ l0, (Lit.int .i64 x).wf = true) → (Lit.int .i64 a1).wf = true → (Lit.int .i64 a2).wf = true → (Lit.int .i64 a3).wf = true → ∃ k, thermionlaw02_CurveRises.f k l0 a1 a2 a3 = some true
theorem thermionlaw02_CurveRises.walk (P : thermionlaw02_CurveRises.Pure) (a0 : Option Addr) (len0 cap0 : Nat) (z0 : List Int) (a1 : Int) (a2 : Int) (a3 : Int) (w : World) (w0 : (a0 = none ∧ len0 = 0 ∧ cap0 = 0 ∧ z0 = []) ∨ ∃ x, a0 = some x ∧ len0 ≤ cap0 ∧ cap0 ≤ maxLen ∧ z0.length = cap0 ∧ (∀ i, i < z0.length → w.cell? (x.add i) = some (.int .i64 (z0.getD i 0))) ∧ ∀ n ∈ z0, (Lit.int .i64 n).wf = true) (y0 : len0 * 8 ≤ 140737488351232) (w1 : (Lit.int .i64 a1).wf = true) (w2 : (Lit.int .i64 a2).wf = true) (w3 : (Lit.int .i64 a3).wf = true) :
    Calls Try.prog 4 #[.slice a0 len0 cap0, .int .i64 a1, .int .i64 a2, .int .i64 a3] w fun e w' => e = .returned (.bool true) ∧ Below w.heap.size w w' := by
  obtain ⟨l0, rfl, hr0, hm0, hw0, hc0⟩ := ReadsInt.ofRowC w0
  obtain ⟨k, h⟩ := P l0 a1 a2 a3 hm0 y0 hw0 w1 w2 w3
  refine (thermionlaw02_CurveRises.calls k _ _ l0 a1 a2 a3 true w (Kd.C_of_reads (d := (0 : Int)) (h1 := fun _ => rfl) hr0) hc0 h).mono ?_
  rintro e w' ⟨rfl, hd⟩
  exact ⟨rfl, hd⟩

end Go.Proofs.Ytbomgfbfnkfamaa.PAll
end
section
set_option linter.unusedVariables false
namespace Go.Proofs.Ytbomgfbfnkfamaa.Mp
open Go.RowKit Go.Proofs.YtbomgfbfnkfamaaW.PrintWords

theorem wrap64_id {x : Int} (h0 : -9223372036854775808 ≤ x) (h1 : x ≤ 9223372036854775807) : wrap64 x = x := by
  unfold wrap64; omega

/-- r is the root of x, rounded down. -/
def IsRoot (r x : Int) : Prop := 0 ≤ r ∧ r * r ≤ x ∧ x < (r + 1) * (r + 1)

theorem sq_lt {a b : Int} (h0 : 0 ≤ a) (h : a < b) : a * a < b * b := by
  have h1 : a * a ≤ a * b := Int.mul_le_mul_of_nonneg_left (by omega) h0
  have h2 : a * b < b * b := Int.mul_lt_mul_of_pos_right h (by omega)
  omega
theorem sq_le {a b : Int} (h0 : 0 ≤ a) (h : a ≤ b) : a * a ≤ b * b := by
  have h1 : a * a ≤ a * b := Int.mul_le_mul_of_nonneg_left h h0
  have h2 : a * b ≤ b * b := Int.mul_le_mul_of_nonneg_right h (by omega)
  omega
theorem lt_of_sq {a b : Int} (h0 : 0 ≤ b) (h : a * a < b * b) : a < b := by
  by_cases h1 : a < b
  · exact h1
  · have := sq_le h0 (Int.not_lt.1 h1); omega
theorem root_unique {r s x : Int} (hr : IsRoot r x) (hs : IsRoot s x) : r = s := by
  obtain ⟨r0, r1, r2⟩ := hr
  obtain ⟨s0, s1, s2⟩ := hs
  have a : r < s + 1 := lt_of_sq (by omega) (by omega)
  have b : s < r + 1 := lt_of_sq (by omega) (by omega)
  omega
theorem root_mono {r s x y : Int} (hr : IsRoot r x) (hs : IsRoot s y) (h : x ≤ y) : r ≤ s := by
  obtain ⟨r0, r1, r2⟩ := hr
  obtain ⟨s0, s1, s2⟩ := hs
  have a : r < s + 1 := lt_of_sq (by omega) (by omega)
  omega

/-- A step of Newton's from above. -/
theorem newton_above {x r : Int} (hr : 0 < r) (hx : 0 ≤ x) : x < ((r + x / r) / 2 + 1) * ((r + x / r) / 2 + 1) := by
  have hq : x < (x / r + 1) * r := Int.lt_ediv_add_one_mul_self x hr
  generalize x / r = q at *
  have hn : r + q ≤ 2 * ((r + q) / 2) + 1 := by omega
  generalize (r + q) / 2 = n at *
  have h1 : (q + 1) * r ≤ (2 * n + 2 - r) * r := Int.mul_le_mul_of_nonneg_right (by omega) (by omega)
  have h2 : 0 ≤ (n + 1 - r) * (n + 1 - r) := by
    rcases Int.le_total 0 (n + 1 - r) with h | h
    · exact Int.mul_nonneg h h
    · exact Int.mul_nonneg_of_nonpos_of_nonpos h h
  have h3 : (n + 1) * (n + 1) - (2 * n + 2 - r) * r = (n + 1 - r) * (n + 1 - r) := by grind
  omega
theorem newton_ends {x r : Int} (hr : 0 < r) (h : r ≤ (r + x / r) / 2) : r * r ≤ x := by
  have h1 : r ≤ x / r := by omega
  have h2 : r * r ≤ (x / r) * r := Int.mul_le_mul_of_nonneg_right h1 (by omega)
  have h3 : (x / r) * r ≤ x := Int.ediv_mul_le x (by omega)
  omega
/-- Rounded up. -/
def up (n d : Int) : Int := -((-n) / d)
theorem up_ge (n : Int) {d : Int} (hd : 0 < d) : n ≤ up n d * d := by
  have := Int.ediv_mul_le (-n) (Int.ne_of_gt hd)
  unfold up
  rw [Int.neg_mul]; omega
theorem up_lt (n : Int) {d : Int} (hd : 0 < d) : (up n d - 1) * d < n := by
  have := Int.lt_ediv_add_one_mul_self (-n) hd
  unfold up
  have h : (-((-n) / d) - 1) * d = -(((-n) / d + 1) * d) := by rw [← Int.neg_mul]; congr 1; omega
  rw [h]; omega
theorem down_le_up (n : Int) {d : Int} (hd : 0 < d) : n / d ≤ up n d := by
  have h1 := Int.ediv_mul_le n (Int.ne_of_gt hd)
  have h2 := up_ge n hd
  exact Int.le_of_mul_le_mul_right (by omega) hd
theorem le_down {a n d : Int} (hd : 0 < d) : a ≤ n / d ↔ a * d ≤ n := Int.le_ediv_iff_mul_le hd
theorem up_le {a n d : Int} (hd : 0 < d) : up n d ≤ a ↔ n ≤ a * d := by
  unfold up
  have : -a ≤ (-n) / d ↔ (-a) * d ≤ -n := Int.le_ediv_iff_mul_le hd
  rw [Int.neg_mul] at this
  omega
theorem down_mono {a b d : Int} (hd : 0 < d) (h : a ≤ b) : a / d ≤ b / d := Int.ediv_le_ediv hd h
theorem up_mono {a b d : Int} (hd : 0 < d) (h : a ≤ b) : up a d ≤ up b d := by
  unfold up
  have := Int.ediv_le_ediv hd (show -b ≤ -a by omega)
  omega
theorem down_frac {a b c d : Int} (hb : 0 < b) (hd : 0 < d) (h : a * d ≤ c * b) : a / b ≤ c / d := by
  rw [le_down hd]
  have h1 := Int.ediv_mul_le a (Int.ne_of_gt hb)
  have h2 : (a / b * d) * b ≤ c * b := by
    have h3 : (a / b * b) * d ≤ a * d := Int.mul_le_mul_of_nonneg_right h1 (by omega)
    have h4 : (a / b * d) * b = (a / b * b) * d := by rw [Int.mul_assoc, Int.mul_comm d b, ← Int.mul_assoc]
    omega
  exact Int.le_of_mul_le_mul_right h2 hb
theorem up_frac {a b c d : Int} (hb : 0 < b) (hd : 0 < d) (h : a * d ≤ c * b) : up a b ≤ up c d := by
  have := down_frac (a := -c) (b := d) (c := -a) (d := b) hd hb (by rw [Int.neg_mul, Int.neg_mul]; omega)
  unfold up
  omega
/-- Go's division of a number by one above 0, put right downwards. -/
theorem tdiv_floor {n d : Int} (hd : 0 < d) : n / d = if (n.tdiv d) * d > n then n.tdiv d - 1 else n.tdiv d := by
  have h1 := Int.mul_tdiv_add_tmod n d
  have h2 := Int.tmod_lt_of_pos n hd
  have h3 : -d < n.tmod d := by
    have := Int.tmod_lt_of_pos (-n) hd
    rw [Int.neg_tmod] at this; omega
  generalize n.tdiv d = q at *
  generalize n.tmod d = r at *
  rw [Int.mul_comm] at h1
  have key : ∀ p, p * d ≤ n → n < (p + 1) * d → n / d = p := fun p ha hb => by
    have c1 : p ≤ n / d := (le_down hd).2 ha
    have c2 : n / d < p + 1 := Int.ediv_lt_of_lt_mul hd hb
    omega
  split
  · apply key
    · rw [Int.sub_mul]; omega
    · rw [Int.sub_add_cancel]; omega
  · apply key
    · omega
    · rw [Int.add_mul]; omega
theorem tdiv_bounds {n d : Int} (hd : 0 < d) {m : Int} (h0 : -m ≤ n) (h1 : n ≤ m) : -m ≤ n.tdiv d ∧ n.tdiv d ≤ m := by
  by_cases h : 0 ≤ n
  · rw [Int.tdiv_eq_ediv_of_nonneg h]
    have a := Int.ediv_nonneg h (Int.le_of_lt hd)
    have b := Int.ediv_le_self d h
    omega
  · have e : n.tdiv d = -((-n).tdiv d) := by rw [Int.neg_tdiv]; omega
    rw [e, Int.tdiv_eq_ediv_of_nonneg (by omega)]
    have a := Int.ediv_nonneg (show 0 ≤ -n by omega) (Int.le_of_lt hd)
    have b := Int.ediv_le_self (a := -n) d (by omega)
    omega
theorem tdiv_mul_bounds {n d : Int} (hd : 0 < d) {m : Int} (h0 : -m ≤ n) (h1 : n ≤ m) : -m ≤ n.tdiv d * d ∧ n.tdiv d * d ≤ m := by
  by_cases h : 0 ≤ n
  · rw [Int.tdiv_eq_ediv_of_nonneg h]
    have a := Int.mul_nonneg (Int.ediv_nonneg h (Int.le_of_lt hd)) (Int.le_of_lt hd)
    have b := Int.ediv_mul_le n (Int.ne_of_gt hd)
    omega
  · have e : n.tdiv d = -((-n).tdiv d) := by rw [Int.neg_tdiv]; omega
    rw [e, Int.tdiv_eq_ediv_of_nonneg (by omega), Int.neg_mul]
    have a := Int.mul_nonneg (Int.ediv_nonneg (show 0 ≤ -n by omega) (Int.le_of_lt hd)) (Int.le_of_lt hd)
    have b := Int.ediv_mul_le (-n) (Int.ne_of_gt hd)
    omega
end Go.Proofs.Ytbomgfbfnkfamaa.Mp
end
section
set_option linter.unusedVariables false
namespace Go.Proofs.Ytbomgfbfnkfamaa.Mp
open Go.RowKit Go.Proofs.YtbomgfbfnkfamaaW.PrintWords Go.Proofs.YtbomgfbfnkfamaaW.PrintMore Go.Proofs.Ytbomgfbfnkfamaa.PAll

theorem floor_f {n d : Int} (hd : 0 < d) (h0 : -9000000000000000000 ≤ n) (h1 : n ≤ 9000000000000000000) : curve_floor.f n d = some (n / d) := by
  have a := tdiv_bounds hd h0 h1
  have b := tdiv_mul_bounds hd h0 h1
  unfold curve_floor.f
  rw [if_neg (by omega), wrap64_id (x := Int.tdiv n d) (by omega) (by omega), wrap64_id (x := Int.tdiv n d * d) (by omega) (by omega), tdiv_floor hd, wrap64_id (by omega) (by omega)]
  split <;> rfl
theorem ceil_f {n d : Int} (hd : 0 < d) (h0 : -9000000000000000000 ≤ n) (h1 : n ≤ 9000000000000000000) : curve_ceil.f n d = some (up n d) := by
  have a := tdiv_bounds hd h0 h1
  have b := tdiv_mul_bounds hd h0 h1
  have e := tdiv_floor (n := -n) hd
  rw [Int.neg_tdiv, Int.neg_mul] at e
  unfold curve_ceil.f up
  rw [if_neg (by omega), wrap64_id (x := Int.tdiv n d) (by omega) (by omega), wrap64_id (x := Int.tdiv n d * d) (by omega) (by omega), e, wrap64_id (by omega) (by omega)]
  by_cases h : Int.tdiv n d * d < n
  · rw [if_pos h, if_pos (by omega)]; congr 1; omega
  · rw [if_neg h, if_neg (by omega)]; congr 1; omega
/-- A drive within its bounds. -/
def clamp (n : Int) : Int := if n < 0 then 0 else if 1000000 < n then 1000000 else n
theorem clamp_bounds (n : Int) : 0 ≤ clamp n ∧ clamp n ≤ 1000000 := by unfold clamp; split <;> (try split) <;> omega
theorem clamp_mono {a b : Int} (h : a ≤ b) : clamp a ≤ clamp b := by unfold clamp; split <;> split <;> (try split) <;> (try split) <;> omega
theorem brought_f (n : Int) : curve_brought.f n = some (clamp n) := by
  unfold curve_brought.f mx mn clamp; congr 1
  split <;> split <;> (try split) <;> (try split) <;> omega

/-- A law of right numbers. -/
structure LawOk (p0 p1 g0 g1 s0 s1 f0 f1 q0 q1 : Int) : Prop where
  p : 0 ≤ p0 ∧ p0 ≤ p1 ∧ p1 ≤ 1000000
  g : 1 ≤ g0 ∧ g0 ≤ g1 ∧ g1 ≤ 1000000
  s : -1000000 ≤ s0 ∧ s0 ≤ s1 ∧ s1 ≤ 1000000
  f : 0 ≤ f0 ∧ f0 ≤ f1 ∧ f1 ≤ 1000000
  q : 0 ≤ q0 ∧ q0 ≤ q1 ∧ q1 ≤ 1000000
def Volts (grid plate : Int) : Prop := -1000000 ≤ grid ∧ grid ≤ 1000000 ∧ 0 ≤ plate ∧ plate ≤ 1000000
def dLo (g1 s0 grid plate : Int) : Int := clamp (grid + s0 + 1000 * plate / g1)
def dHi (g0 s1 grid plate : Int) : Int := clamp (grid + s1 + up (1000 * plate) g0)
theorem quot_bounds {plate g : Int} (hg : 1 ≤ g) (h0 : 0 ≤ plate) (h1 : plate ≤ 1000000) : 0 ≤ 1000 * plate / g ∧ 1000 * plate / g ≤ 1000000000 ∧ 0 ≤ up (1000 * plate) g ∧ up (1000 * plate) g ≤ 1000000000 := by
  have a := Int.ediv_nonneg (show 0 ≤ 1000 * plate by omega) (show 0 ≤ g by omega)
  have b := Int.ediv_le_self (a := 1000 * plate) g (by omega)
  have c := down_le_up (1000 * plate) (show 0 < g by omega)
  have d : up (1000 * plate) g ≤ 1000 * plate := (up_le (show 0 < g by omega)).2 (by
    have := Int.mul_le_mul_of_nonneg_left hg (show 0 ≤ 1000 * plate by omega); omega)
  omega
theorem drive_f {p0 p1 g0 g1 s0 s1 f0 f1 q0 q1 grid plate : Int} (h : LawOk p0 p1 g0 g1 s0 s1 f0 f1 q0 q1) (hv : Volts grid plate) :
    curve_drive.f p0 p1 g0 g1 s0 s1 f0 f1 q0 q1 grid plate = some (dLo g1 s0 grid plate, dHi g0 s1 grid plate) := by
  obtain ⟨h1, h2, h3, h4⟩ := hv
  obtain ⟨_, hg, hs, _, _⟩ := h
  have b1 := quot_bounds (g := g1) (by omega) h3 h4
  have b0 := quot_bounds (g := g0) (by omega) h3 h4
  unfold curve_drive.f
  rw [wrap64_id (x := 1000 * plate) (by omega) (by omega), floor_f (by omega) (by omega) (by omega), ceil_f (by omega) (by omega) (by omega)]
  simp only [Option.bind_some, brought_f]
  rw [wrap64_id (x := grid + s0) (by omega) (by omega), wrap64_id (x := grid + s1) (by omega) (by omega), wrap64_id (by omega) (by omega), wrap64_id (by omega) (by omega)]
  rfl

/-! ### roots -/
theorem cube_bounds {n : Int} (h0 : 0 ≤ n) (h1 : n ≤ 1000000) : 0 ≤ n * n ∧ n * n ≤ 1000000000000 ∧ 0 ≤ n * n * n ∧ n * n * n ≤ 1000000000000000000 := by
  have a := Int.mul_nonneg h0 h0
  have b : n * n ≤ 1000000 * 1000000 := Int.mul_le_mul h1 h1 h0 (by omega)
  have c := Int.mul_nonneg a h0
  have d : n * n * n ≤ 1000000000000 * 1000000 := Int.mul_le_mul (by omega) h1 h0 (by omega)
  omega
theorem cube_mono {a b : Int} (h0 : 0 ≤ a) (h : a ≤ b) : a * a * a ≤ b * b * b :=
  Int.mul_le_mul (sq_le h0 h) h h0 (Int.mul_nonneg (by omega) (by omega))
theorem newton_loop (x : Int) (hx : 0 < x) (hx1 : x ≤ 1000000000000000000) (d : Nat) : ∀ (r : Int), 0 < r → r ≤ 4294967296 → r.toNat ≤ d → x < (r + 1) * (r + 1) →
    ∃ s, IsRoot s x ∧ ∀ k, d < k → curve_cubed.l0 k x r = some (s, decide (s * s = x)) := by
  induction d with
  | zero => intro r h0 _ h; omega
  | succ d ih =>
    intro r h0 h1 hd hr
    have hq := Int.ediv_nonneg (show 0 ≤ x by omega) (show 0 ≤ r by omega)
    have hq1 := Int.ediv_le_self (a := x) r (by omega)
    have e1 : Int.tdiv x r = x / r := Int.tdiv_eq_ediv_of_nonneg (by omega)
    have e2 : wrap64 (x / r) = x / r := wrap64_id (by omega) (by omega)
    have e3 : wrap64 (r + x / r) = r + x / r := wrap64_id (by omega) (by omega)
    have e4 : Int.tdiv (r + x / r) 2 = (r + x / r) / 2 := Int.tdiv_eq_ediv_of_nonneg (by omega)
    have e5 : wrap64 ((r + x / r) / 2) = (r + x / r) / 2 := wrap64_id (by omega) (by omega)
    have hn := newton_above h0 (show 0 ≤ x by omega)
    by_cases hge : r ≤ (r + x / r) / 2
    · have hrr := newton_ends h0 hge
      refine ⟨r, ⟨by omega, hrr, hr⟩, fun k hk => ?_⟩
      obtain ⟨k, rfl⟩ : ∃ m, k = m + 1 := ⟨k - 1, by omega⟩
      simp only [curve_cubed.l0]
      rw [if_neg (by omega), e1, e2, e3, e4, e5, if_pos hge, wrap64_id (x := r * r) (by have := Int.mul_nonneg (show 0 ≤ r by omega) (show 0 ≤ r by omega); omega) (by omega)]
      congr 2
    · have hpos : 0 < (r + x / r) / 2 := by
        by_cases hz : 0 < (r + x / r) / 2
        · exact hz
        · have hz' : (r + x / r) / 2 = 0 := by omega
          rw [hz'] at hn; omega
      obtain ⟨s, hs, hk⟩ := ih ((r + x / r) / 2) hpos (by omega) (by omega) hn
      refine ⟨s, hs, fun k hk' => ?_⟩
      obtain ⟨k, rfl⟩ : ∃ m, k = m + 1 := ⟨k - 1, by omega⟩
      simp only [curve_cubed.l0]
      rw [if_neg (by omega), e1, e2, e3, e4, e5, if_neg (by omega)]
      exact hk k (by omega)

/-! ### how many binary digits a number has -/
theorem pow_shift (a : Nat) (t : Int) (h : 0 ≤ t) : (2 : Int) ^ (t + (a : Int)).toNat = 2 ^ a * 2 ^ t.toNat := by
  rw [show (t + (a : Int)).toNat = a + t.toNat by omega, Int.pow_add]
theorem len32_ok {x n : Int} (h0 : 0 ≤ x) (h1 : x < 4294967296) : ∃ r, len32 x n = n + r ∧ 0 ≤ r ∧ r ≤ 32 ∧ x < 2 ^ r.toNat := by
  unfold len32
  by_cases c1 : 65536 ≤ x
  · rw [if_pos c1]
    by_cases c2 : 256 ≤ x / 65536
    · obtain ⟨b1, b2, b3⟩ := lt8_at (v := x / 65536 / 256) (by omega) (by omega)
      rw [if_pos c2]
      generalize lt8 (x / 65536 / 256) = t at *
      refine ⟨t + 24, by omega, by omega, by omega, ?_⟩
      rw [show t + 24 = t + ((24 : Nat) : Int) by omega, pow_shift 24 t b2]
      generalize (2 : Int) ^ t.toNat = P at *; omega
    · obtain ⟨b1, b2, b3⟩ := lt8_at (v := x / 65536) (by omega) (by omega)
      rw [if_neg c2]
      generalize lt8 (x / 65536) = t at *
      refine ⟨t + 16, by omega, by omega, by omega, ?_⟩
      rw [show t + 16 = t + ((16 : Nat) : Int) by omega, pow_shift 16 t b2]
      generalize (2 : Int) ^ t.toNat = P at *; omega
  · rw [if_neg c1]
    by_cases c2 : 256 ≤ x
    · obtain ⟨b1, b2, b3⟩ := lt8_at (v := x / 256) (by omega) (by omega)
      rw [if_pos c2]
      generalize lt8 (x / 256) = t at *
      refine ⟨t + 8, by omega, by omega, by omega, ?_⟩
      rw [show t + 8 = t + ((8 : Nat) : Int) by omega, pow_shift 8 t b2]
      generalize (2 : Int) ^ t.toNat = P at *; omega
    · obtain ⟨b1, b2, b3⟩ := lt8_at (v := x) (by omega) (by omega)
      rw [if_neg c2]
      exact ⟨lt8 x, rfl, by omega, by omega, b3⟩
theorem len_f {x : Int} (h0 : 0 ≤ x) (h1 : x < 18446744073709551616) : ∃ r, bits_Len.f x = some r ∧ 0 ≤ r ∧ r ≤ 64 ∧ x < 2 ^ r.toNat := by
  unfold bits_Len.f bits_Len64.f
  rw [if_pos ⟨h0, h1⟩]
  by_cases c : 4294967296 ≤ x
  · obtain ⟨r, e, b0, b1, b2⟩ := len32_ok (x := x / 4294967296) (n := 32) (by omega) (by omega)
    rw [if_pos c, e]
    refine ⟨32 + r, rfl, by omega, by omega, ?_⟩
    rw [show 32 + r = r + ((32 : Nat) : Int) by omega, pow_shift 32 r b0]
    generalize (2 : Int) ^ r.toNat = P at *; omega
  · obtain ⟨r, e, b0, b1, b2⟩ := len32_ok (x := x) (n := 0) h0 (by omega)
    rw [if_neg c, e]
    exact ⟨0 + r, rfl, by omega, by omega, by rw [Int.zero_add]; exact b2⟩
/-- The root of a cube, rounded down, and whether it is exact. -/
theorem cubed_f {n : Int} (h0 : 0 ≤ n) (h1 : n ≤ 1000000) : ∃ r, IsRoot r (n * n * n) ∧ ∃ K, ∀ k, K ≤ k → curve_cubed.f k n = some (r, decide (r * r = n * n * n)) := by
  obtain ⟨b1, b2, b3, b4⟩ := cube_bounds h0 h1
  have e1 : wrap64 (n * n) = n * n := wrap64_id (by omega) (by omega)
  have e2 : wrap64 (n * n * n) = n * n * n := wrap64_id (by omega) (by omega)
  by_cases hz : n * n * n = 0
  · exact ⟨0, ⟨by omega, by omega, by omega⟩, 0, fun k _ => by unfold curve_cubed.f; rw [e1, e2, if_pos hz, hz]; rfl⟩
  · have hu : IntKind.u64.wrap (n * n * n) = n * n * n := by rw [IntKind.wrap_u64]; omega
    obtain ⟨t, ht, t0, t1, t2⟩ := len_f (x := n * n * n) b3 (by omega)
    have m1 : wrap64 (Int.tdiv (wrap64 (t + 1)) 2) = (t + 1) / 2 := by
      rw [wrap64_id (x := t + 1) (by omega) (by omega), Int.tdiv_eq_ediv_of_nonneg (by omega), wrap64_id (by omega) (by omega)]
    obtain ⟨m, hm⟩ : ∃ m : Nat, ((m : Nat) : Int) = (t + 1) / 2 := ⟨((t + 1) / 2).toNat, by omega⟩
    have hm32 : m ≤ 32 := by omega
    have hP : (2 : Int) ^ m ≤ 4294967296 := by
      have := Nat.pow_le_pow_right (show 0 < 2 by omega) hm32
      have h2 : ((2 ^ m : Nat) : Int) ≤ ((2 ^ 32 : Nat) : Int) := Int.ofNat_le.2 this
      simpa using h2
    have hP0 : 0 < (2 : Int) ^ m := Int.pow_pos (by omega)
    have hs : shl .i64 1 ((t + 1) / 2) = 2 ^ m := by
      unfold shl
      rw [← hm, Int.one_mul, show min (((m : Nat) : Int)).toNat (IntKind.i64).bits = m by simp [IntKind.bits]; omega, IntKind.wrap_i64]
      omega
    have hx : n * n * n < ((2 : Int) ^ m + 1) * (2 ^ m + 1) := by
      have h1 : (2 : Int) ^ t.toNat ≤ 2 ^ (m + m) := by
        have := Nat.pow_le_pow_right (show 0 < 2 by omega) (show t.toNat ≤ m + m by omega)
        have h2 : ((2 ^ t.toNat : Nat) : Int) ≤ ((2 ^ (m + m) : Nat) : Int) := Int.ofNat_le.2 this
        simpa using h2
      rw [Int.pow_add] at h1
      generalize (2 : Int) ^ m = P at *
      have h3 : (P + 1) * (P + 1) = P * P + 2 * P + 1 := by grind
      omega
    obtain ⟨s, hs1, hs2⟩ := newton_loop (n * n * n) (by omega) b4 (2 ^ m : Int).toNat (2 ^ m) hP0 hP (Nat.le_refl _) hx
    refine ⟨s, hs1, (2 ^ m : Int).toNat + 1, fun k hk => ?_⟩
    obtain ⟨k, rfl⟩ : ∃ j, k = j + 1 := ⟨k - 1, by omega⟩
    unfold curve_cubed.f
    rw [e1, e2, if_neg hz, hu, ht]
    simp only [Option.bind_some]
    rw [m1, if_pos (by omega), hs]
    exact hs2 (k + 1) (by omega)

open Classical in
/-- The root, rounded down (of a number that has one). -/
noncomputable def rt (x : Int) : Int := if h : ∃ r, IsRoot r x then Classical.choose h else 0
theorem rt_eq {r x : Int} (h : IsRoot r x) : rt x = r := by
  have hx : ∃ r, IsRoot r x := ⟨r, h⟩
  unfold rt
  rw [dif_pos hx]
  exact root_unique (Classical.choose_spec hx) h
theorem rt_is {n : Int} (h0 : 0 ≤ n) (h1 : n ≤ 1000000) : IsRoot (rt (n * n * n)) (n * n * n) := by
  obtain ⟨r, hr, _⟩ := cubed_f h0 h1
  rw [rt_eq hr]; exact hr
/-- .. rounded up. -/
noncomputable def rtUp (x : Int) : Int := if rt x * rt x = x then rt x else rt x + 1
theorem rt_le {n : Int} (h0 : 0 ≤ n) (h1 : n ≤ 1000000) : 0 ≤ rt (n * n * n) ∧ rt (n * n * n) ≤ 1000000000 := by
  obtain ⟨a, b, c⟩ := rt_is h0 h1
  have hc := (cube_bounds h0 h1).2.2.2
  refine ⟨a, ?_⟩
  have := lt_of_sq (a := rt (n * n * n)) (b := 1000000001) (by omega) (by omega)
  omega
theorem rtUp_bounds {n : Int} (h0 : 0 ≤ n) (h1 : n ≤ 1000000) : rt (n * n * n) ≤ rtUp (n * n * n) ∧ rtUp (n * n * n) ≤ rt (n * n * n) + 1 ∧ n * n * n ≤ rtUp (n * n * n) * rtUp (n * n * n) ∧ rtUp (n * n * n) ≤ 1000000000 := by
  obtain ⟨a, b, c⟩ := rt_is h0 h1
  have hl := rt_le h0 h1
  have hc := (cube_bounds h0 h1).2.2.2
  unfold rtUp
  split
  · rename_i h; exact ⟨by omega, by omega, by omega, hl.2⟩
  · rename_i h
    refine ⟨by omega, by omega, by omega, ?_⟩
    generalize rt (n * n * n) = r at *
    have : r * r < 1000000000 * 1000000000 := by omega
    have := lt_of_sq (a := r) (b := 1000000000) (by omega) this
    omega
theorem rt_mono {a b : Int} (h0 : 0 ≤ a) (h : a ≤ b) (h1 : b ≤ 1000000) : rt (a * a * a) ≤ rt (b * b * b) :=
  root_mono (rt_is h0 (by omega)) (rt_is (by omega) h1) (cube_mono h0 h)
theorem rtUp_mono {a b : Int} (h0 : 0 ≤ a) (h : a ≤ b) (h1 : b ≤ 1000000) : rtUp (a * a * a) ≤ rtUp (b * b * b) := by
  have hm := rt_mono h0 h h1
  have hc := cube_mono h0 h
  obtain ⟨a1, a2, a3⟩ := rt_is h0 (show a ≤ 1000000 by omega)
  obtain ⟨b1, b2, b3⟩ := rt_is (show 0 ≤ b by omega) h1
  unfold rtUp
  generalize rt (a * a * a) = r at *
  generalize rt (b * b * b) = s at *
  split
  · split <;> omega
  · rename_i hne
    split
    · rename_i he
      by_cases hrs : r = s
      · subst hrs; omega
      · omega
    · omega
theorem cubedUp_f {n : Int} (h0 : 0 ≤ n) (h1 : n ≤ 1000000) : ∃ K, ∀ k, K ≤ k → curve_cubed.f k n = some (rt (n * n * n), decide (rt (n * n * n) * rt (n * n * n) = n * n * n)) := by
  obtain ⟨r, hr, hk⟩ := cubed_f h0 h1
  rw [rt_eq hr]; exact hk
/-- The ends of a current, of the roots. -/
def endLo (p f q r : Int) : Int := q * mn (p * r / 1000000) f / 1000000
def endHi (p f q s : Int) : Int := up (q * mn (up (p * s) 1000000) f) 1000000
noncomputable def cLo (p0 g1 s0 f0 q0 grid plate : Int) : Int := endLo p0 f0 q0 (rt (dLo g1 s0 grid plate * dLo g1 s0 grid plate * dLo g1 s0 grid plate))
noncomputable def cHi (p1 g0 s1 f1 q1 grid plate : Int) : Int := endHi p1 f1 q1 (rtUp (dHi g0 s1 grid plate * dHi g0 s1 grid plate * dHi g0 s1 grid plate))
theorem mul_bounds {a b m n : Int} (ha0 : 0 ≤ a) (ha : a ≤ m) (hb0 : 0 ≤ b) (hb : b ≤ n) : 0 ≤ a * b ∧ a * b ≤ m * n :=
  ⟨Int.mul_nonneg ha0 hb0, Int.mul_le_mul ha hb hb0 (by omega)⟩
theorem mn_bounds {a b n : Int} (ha : 0 ≤ a) (hb : 0 ≤ b) (hn : b ≤ n) : 0 ≤ mn a b ∧ mn a b ≤ n := by unfold mn; split <;> omega
theorem mn_mono {a b c d : Int} (h : a ≤ c) (k : b ≤ d) : mn a b ≤ mn c d := by unfold mn; split <;> split <;> omega
theorem endLo_bounds {p f q r : Int} (hp0 : 0 ≤ p) (hp : p ≤ 1000000) (hf0 : 0 ≤ f) (hf : f ≤ 1000000) (hq0 : 0 ≤ q) (hq : q ≤ 1000000) (hr0 : 0 ≤ r) (hr : r ≤ 1000000000) :
    0 ≤ p * r ∧ p * r ≤ 1000000000000000 ∧ 0 ≤ mn (p * r / 1000000) f ∧ mn (p * r / 1000000) f ≤ 1000000 ∧ 0 ≤ q * mn (p * r / 1000000) f ∧ q * mn (p * r / 1000000) f ≤ 1000000000000 ∧ 0 ≤ endLo p f q r ∧ endLo p f q r ≤ 1000000 := by
  have a := mul_bounds hp0 hp hr0 hr
  have b := mn_bounds (a := p * r / 1000000) (b := f) (n := 1000000) (Int.ediv_nonneg a.1 (by omega)) hf0 hf
  have c := mul_bounds hq0 hq b.1 b.2
  unfold endLo
  refine ⟨a.1, by omega, b.1, b.2, c.1, by omega, by omega, by omega⟩
theorem endHi_bounds {p f q r : Int} (hp0 : 0 ≤ p) (hp : p ≤ 1000000) (hf0 : 0 ≤ f) (hf : f ≤ 1000000) (hq0 : 0 ≤ q) (hq : q ≤ 1000000) (hr0 : 0 ≤ r) (hr : r ≤ 1000000000) :
    0 ≤ p * r ∧ p * r ≤ 1000000000000000 ∧ 0 ≤ mn (up (p * r) 1000000) f ∧ mn (up (p * r) 1000000) f ≤ 1000000 ∧ 0 ≤ q * mn (up (p * r) 1000000) f ∧ q * mn (up (p * r) 1000000) f ≤ 1000000000000 ∧ 0 ≤ endHi p f q r ∧ endHi p f q r ≤ 1000000 := by
  have a := mul_bounds hp0 hp hr0 hr
  have hu := down_le_up (p * r) (show (0 : Int) < 1000000 by omega)
  have b := mn_bounds (a := up (p * r) 1000000) (b := f) (n := 1000000) (by omega) hf0 hf
  have c := mul_bounds hq0 hq b.1 b.2
  have d := down_le_up (q * mn (up (p * r) 1000000) f) (show (0 : Int) < 1000000 by omega)
  have e := (up_le (a := 1000000) (n := q * mn (up (p * r) 1000000) f) (show (0 : Int) < 1000000 by omega)).2 (by omega)
  unfold endHi
  refine ⟨a.1, by omega, b.1, b.2, c.1, by omega, by omega, by omega⟩
theorem current_f {p0 p1 g0 g1 s0 s1 f0 f1 q0 q1 grid plate : Int} (h : LawOk p0 p1 g0 g1 s0 s1 f0 f1 q0 q1) (hv : Volts grid plate) :
    ∃ K, ∀ k, K ≤ k → curve_current.f k p0 p1 g0 g1 s0 s1 f0 f1 q0 q1 grid plate = some (cLo p0 g1 s0 f0 q0 grid plate, cHi p1 g0 s1 f1 q1 grid plate) := by
  obtain ⟨hp, hg, hs, hf, hq⟩ := h
  have bl := clamp_bounds (grid + s0 + 1000 * plate / g1)
  have bh := clamp_bounds (grid + s1 + up (1000 * plate) g0)
  obtain ⟨K1, hK1⟩ := cubedUp_f bl.1 bl.2
  obtain ⟨K2, hK2⟩ := cubedUp_f bh.1 bh.2
  have r1 := rt_le bl.1 bl.2
  have r2 := rtUp_bounds bh.1 bh.2
  have r3 := rt_le bh.1 bh.2
  refine ⟨K1 + K2 + 1, fun k hk => ?_⟩
  obtain ⟨k, rfl⟩ : ∃ j, k = j + 1 := ⟨k - 1, by omega⟩
  unfold curve_current.f
  rw [drive_f ⟨hp, hg, hs, hf, hq⟩ hv]
  simp only [Option.bind_some]
  unfold dLo dHi
  rw [hK1 (k + 1) (by omega), hK2 (k + 1) (by omega)]
  simp only [Option.bind_some]
  unfold cLo cHi dLo dHi
  generalize clamp (grid + s0 + 1000 * plate / g1) = a at *
  generalize clamp (grid + s1 + up (1000 * plate) g0) = b at *
  have L := endLo_bounds (p := p0) (f := f0) (q := q0) (by omega) (by omega) (by omega) (by omega) (by omega) (by omega) r1.1 r1.2
  have H := endHi_bounds (p := p1) (f := f1) (q := q1) (r := rtUp (b * b * b)) (by omega) (by omega) (by omega) (by omega) (by omega) (by omega) (by omega) (by omega)
  have key : ∀ s, s = rtUp (b * b * b) → curve_current.j0 (k + 1) (rt (a * a * a)) s p0 p1 g0 g1 s0 s1 f0 f1 q0 q1 = some (endLo p0 f0 q0 (rt (a * a * a)), endHi p1 f1 q1 (rtUp (b * b * b))) := by
    rintro s rfl
    simp only [curve_current.j0]
    rw [wrap64_id (x := p0 * rt (a * a * a)) (by omega) (by omega), wrap64_id (x := p1 * rtUp (b * b * b)) (by omega) (by omega), floor_f (by omega) (by omega) (by omega), ceil_f (by omega) (by omega) (by omega)]
    simp only [Option.bind_some]
    rw [wrap64_id (x := q0 * mn (p0 * rt (a * a * a) / 1000000) f0) (by omega) (by omega), wrap64_id (x := q1 * mn (up (p1 * rtUp (b * b * b)) 1000000) f1) (by omega) (by omega), floor_f (by omega) (by omega) (by omega), ceil_f (by omega) (by omega) (by omega)]
    rfl
  by_cases he : rt (b * b * b) * rt (b * b * b) = b * b * b
  · rw [if_pos (by simp [he])]
    exact key _ (by unfold rtUp; rw [if_pos he])
  · rw [if_neg (by simp [he])]
    exact key _ (by unfold rtUp; rw [if_neg he, wrap64_id (by omega) (by omega)])
end Go.Proofs.Ytbomgfbfnkfamaa.Mp
end
section
set_option linter.unusedVariables false
namespace Go.Proofs.Ytbomgfbfnkfamaa.Mp
open Go.RowKit Go.Proofs.YtbomgfbfnkfamaaW.PrintWords Go.Proofs.YtbomgfbfnkfamaaW.PrintMore Go.Proofs.Ytbomgfbfnkfamaa.PAll

theorem next_f (s : Int) : ∃ v s', thermionkit_Dice_next.f s = some (v, s') ∧ 0 ≤ v ∧ v ≤ 18446744073709551615 := by
  unfold thermionkit_Dice_next.f
  exact ⟨_, _, rfl, bounds_u64 (wf_bits _ _ _ _)⟩
theorem upto_f (s : Int) {n : Int} (h0 : 1 ≤ n) (h1 : n ≤ 9223372036854775807) : ∃ v s', thermionkit_Dice_Upto.f s n = some (v, s') ∧ 0 ≤ v ∧ v < n := by
  obtain ⟨v, s', e, a, b⟩ := next_f s
  unfold thermionkit_Dice_Upto.f
  rw [e]
  simp only [Option.bind_some]
  have hu : IntKind.u64.wrap n = n := by rw [IntKind.wrap_u64]; omega
  rw [if_neg (by omega), hu, if_neg (by omega)]
  have c := Int.tmod_lt_of_pos v (show 0 < n by omega)
  have d := Int.tmod_nonneg n a
  exact ⟨_, _, rfl, by rw [wrap64_id (by omega) (by omega)]; exact ⟨d, c⟩⟩
theorem between_f (s : Int) {lo hi : Int} (h : lo ≤ hi) (h0 : -4000000000000000000 ≤ lo) (h1 : hi ≤ 4000000000000000000) : ∃ v s', thermionkit_Dice_Between.f s lo hi = some (v, s') ∧ lo ≤ v ∧ v ≤ hi := by
  unfold thermionkit_Dice_Between.f
  rw [wrap64_id (x := hi - lo) (by omega) (by omega), wrap64_id (x := hi - lo + 1) (by omega) (by omega)]
  obtain ⟨v, s', e, a, b⟩ := upto_f s (n := hi - lo + 1) (by omega) (by omega)
  rw [e]
  exact ⟨_, _, rfl, by simp only []; rw [wrap64_id (by omega) (by omega)]; omega⟩
theorem one_f (s : Int) {n : Int} (h0 : 1 ≤ n) (h1 : n ≤ 9223372036854775807) : ∃ b s', thermionkit_Dice_One.f s n = some (b, s') := by
  obtain ⟨v, s', e, _⟩ := upto_f s h0 h1
  unfold thermionkit_Dice_One.f
  rw [e]
  exact ⟨_, _, rfl⟩
theorem range_f (s : Int) {lo hi : Int} (h : lo ≤ hi) (h0 : -4000000000000000000 ≤ lo) (h1 : hi ≤ 4000000000000000000) : ∃ a b s', thermionkit_Dice_Range.f s lo hi = some (a, b, s') ∧ lo ≤ a ∧ a ≤ b ∧ b ≤ hi := by
  obtain ⟨a, s1, e1, a1, a2⟩ := between_f s h h0 h1
  obtain ⟨b, s2, e2, b1, b2⟩ := between_f s1 h h0 h1
  unfold thermionkit_Dice_Range.f
  rw [e1]
  simp only [Option.bind_some]
  rw [e2]
  refine ⟨_, _, _, rfl, ?_, ?_, ?_⟩ <;> simp only [mn, mx] <;> (try split) <;> (try split) <;> omega
theorem newDice_f (l : List Int) : ∃ s, thermionkit_NewDice.f l = some s := by
  have key : ∀ (l : List Int) (s : Int), ∃ r, diceFold l s = some r := by
    intro l
    induction l with
    | nil => exact fun s => ⟨s, rfl⟩
    | cons x t ih =>
      intro s
      obtain ⟨v, s', e, _⟩ := next_f (Go.bits .xor .u64 s (IntKind.u64.wrap x))
      obtain ⟨r, hr⟩ := ih s'
      exact ⟨r, by rw [diceFold, e]; exact hr⟩
  exact key l _
end Go.Proofs.Ytbomgfbfnkfamaa.Mp
end
