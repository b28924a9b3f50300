/- Narrower stuffs, as the statements make them. -/
import Derived.Test.YtpbadgghhiommaaGmono
set_option linter.unusedVariables false
set_option maxHeartbeats 16000000
set_option linter.unusedSimpArgs false
namespace Go.Proofs.Ytpbadgghhiommaa.I
open Go.Ideal

structure Nz (z y : Zone) : Prop where
  fr : y.fr = z.fr
  gl : z.gl ≤ y.gl
  gm : y.gl ≤ y.gh
  gh : y.gh ≤ z.gh
  rl : z.rl ≤ y.rl
  rm : y.rl ≤ y.rh
  rh : y.rh ≤ z.rh
structure NarN (zs ys : List Zone) (n : Nat) : Prop where
  len : ys.length = zs.length
  at_ : ∀ j, j < n → Nz (zn zs j) (zn ys j)
theorem NarN.next {zs ys : List Zone} {n : Nat} (h : NarN zs ys n) (hn : n < zs.length) {y : Zone} (hy : Nz (zn zs n) y) : NarN zs (ys.set n y) (n + 1) := by
  refine ⟨by rw [List.length_set]; exact h.len, fun j hj => ?_⟩
  by_cases c : j = n
  · subst c
    have : zn (ys.set j y) j = y := by
      unfold zn
      rw [List.getD_eq_getElem?_getD, List.getElem?_set_self (by rw [h.len]; exact hn)]; rfl
    rw [this]; exact hy
  · have e : zn (ys.set n y) j = zn ys j := by
      unfold zn
      simp only [List.getD_eq_getElem?_getD]; rw [List.getElem?_set_ne (Ne.symm c)]
    rw [e]; exact h.at_ j (by omega)
theorem NarN.ok {zs ys : List Zone} (h : NarN zs ys zs.length) (hz : ZOk zs) : ZOk ys := by
  have hp := hz.pos
  have e := h.len
  have a := h.at_
  refine ⟨by omega, by have := hz.len; omega, by rw [(a 0 (by omega)).fr]; exact hz.first, fun i hi => by rw [(a i (by omega)).fr, (a (i + 1) (by omega)).fr]; exact hz.asc i (by omega), fun i hi => by rw [(a i (by omega)).fr]; exact hz.fr i (by omega),
    fun i hi => by have := a i (by omega); have q := hz.gr i (by omega); exact ⟨by have := this.gl; omega, this.gm, by have := this.gh; omega⟩, fun i hi => by have := a i (by omega); have q := hz.re i (by omega); exact ⟨by have := this.rl; omega, this.rm, by have := this.rh; omega⟩⟩
theorem NarN.zone {zs ys : List Zone} (h : NarN zs ys zs.length) (hp : 0 < zs.length) (t : Int) : Nz (zoneOf zs t) (zoneOf ys t) := by
  have key : ∀ n, n ≤ zs.length → Nz (zoneN zs t n) (zoneN ys t n) := by
    intro n
    induction n with
    | zero => intro _; exact h.at_ 0 hp
    | succ n ih =>
      intro hn
      have := h.at_ n (by omega)
      rw [zoneN, zoneN, this.fr]
      split
      · exact this
      · exact ih (by omega)
  have := key zs.length (Nat.le_refl _)
  unfold zoneOf
  rw [h.len]; exact this
theorem zmem {zs : List Zone} (hz : ZOk zs) {i : Nat} (hi : i < zs.length) : 0 ≤ (zn zs i).gl ∧ (zn zs i).gl ≤ (zn zs i).gh ∧ (zn zs i).gh ≤ 100000 ∧ 0 ≤ (zn zs i).rl ∧ (zn zs i).rl ≤ (zn zs i).rh ∧ (zn zs i).rh ≤ 1000000 := by
  have a := hz.gr i hi
  have b := hz.re i hi
  omega

theorem narrower_any (s b : Int) (zs : List Zone) (hz : ZOk zs) : ∃ (ys : List Zone) (s' : Int), NarN zs ys zs.length ∧ ∀ (H : Heap) (n : Nat), H n = S1 s → Ev T (.call (.func (.func 70) [] []) [.ptr n 0 0, stuffI b zs] H) (.call (stuffI b ys) (H.set n (S1 s'))) := by
  have key := run_one_some T70 (i := 0) (off := 0) (args := [stuffI b zs]) (s := S1 s) (P := fun v z => ∃ (ys : List Zone) (s' : Int), v = stuffI b ys ∧ z = S1 s' ∧ NarN zs ys zs.length)
    (nn_cons (stuffI_no _ _) nn_none) (S1_no _) (by
    have hp := hz.pos
    have hlen := hz.len
    have e1 : (zs.map zr).length = zs.length := List.length_map ..
    repeat' ((conv => whnf); first | (refine CallP.inl T27 rfl ?_) | (first | refine condP.dec (fun h => ?_) (fun h => ?_) | refine condP.eq (fun h => ?_) (fun h => ?_) | refine condP.ne (fun h => ?_) (fun h => ?_)) | (refine .i64 (by omega) (by omega) ?_) | (refine onSome.intro (idx_fs rfl rfl (by omega) (by omega) (fun _ => rfl)) ?_) | (refine onSome.intro (load_fs rfl (by omega) (by omega) rfl) ?_) | (refine And.intro rfl ?_))
    refine .full (es := []) (n := 0) rfl rfl rfl rfl (by intro q; have := congrArg List.length q; simp at this; subst this; simp at hp) (fun e he => by obtain ⟨z, _, rfl⟩ := List.mem_map.mp he; rfl) (fun e he c hc => by obtain ⟨z, _, rfl⟩ := List.mem_map.mp he; simp [zr] at hc; rcases hc with rfl | rfl | rfl | rfl | rfl <;> rfl) (r := zs.map zr) rfl (n' := zs.length) (by simp) (by omega) ?_
    conv => whnf
    refine loop_rule (X := Nat × List Zone × Int) (fun q => [(0, .ptr 0 0 0), (3, .ptr 1 0 0), (4, .ptr 2 0 0), (5, .ptr 7 0 0), (6, .int .i64 q.1)])
      (fun q => [S1 q.2.2, .live 2 [[.int .i64 b, zsl zs]], .live 2 [[.int .i64 0, .nilslice]], .live 2 [[.int .i64 b, .mslice 6 0 zs.length zs.length false]], .live 2 [[.int .i64 b, .mslice 6 0 zs.length zs.length false]], .live 5 [], .live 5 (q.2.1.map zr), .live 2 [[.int .i64 b, .mslice 6 0 zs.length zs.length false]]])
      (fun q => zs.length - q.1) (fun q => q.1 ≤ zs.length ∧ NarN zs q.2.1 q.1) (0, zs, s) ⟨Nat.zero_le _, ⟨rfl, fun j hj => by simp at hj⟩⟩ ⟨rfl, rfl, rfl, rfl, rfl, trivial⟩ rfl (fun _ _ => rfl) (fun q hq => ?_)
    obtain ⟨i, ys, s⟩ := q
    have hi := hq.1
    have hF := hq.2
    dsimp only at hi hF ⊢
    have hyl := hF.len
    rcases Nat.lt_or_ge i zs.length with hlt | hge
    · have hzi := zmem hz hlt
      have hzx : at' zs (i : Int) = zn zs i := rfl
      have hN := fun y hy => hF.next hlt (y := y) hy
      generalize zn zs i = z at *
      obtain ⟨z1, z2, z3, z4, z5, z6⟩ := hzi
      have y := Range_ok s z.gl z.gh z2 (by omega) (by omega)
      obtain ⟨a1, a2, t1, p1, p2, p3, j1⟩ := y
      have y := Range_ok t1 z.rl z.rh z5 (by omega) (by omega)
      obtain ⟨c1, c2, t2, p4, p5, p6, j2⟩ := y
      have hN := hN ⟨z.fr, a1, a2, c1, c2⟩ ⟨rfl, p1, p2, p3, p4, p5, p6⟩
      repeat' ((conv => whnf); first | (refine condP.dec (fun _ => ?_) (fun h => absurd (by omega) h)) | (refine onSome.intro (load_fs (l := zs) (enc := zr) (i := (i : Int)) (v := .agg (zr z)) rfl (by omega) (by omega) (by rw [hzx]; rfl)) ?_) | (refine CallP.one (fun H hb => j1 H _ hb) rfl ?_) | (refine CallP.one (fun H hb => j2 H _ hb) rfl ?_) | (refine onSome.intro (idx_ms rfl rfl rfl (by omega) (by omega)) ?_) | (first | refine condP.dec (fun h => ?_) (fun h => ?_) | refine condP.eq (fun h => ?_) (fun h => ?_) | refine condP.ne (fun h => ?_) (fun h => ?_)) | (refine .i64 (by omega) (by omega) ?_) | (refine onSome.intro (idx_fs rfl rfl (by omega) (by omega) (fun _ => rfl)) ?_) | (refine onSome.intro (load_fs rfl (by omega) (by omega) rfl) ?_) | (refine And.intro rfl ?_))
      conv => whnf
      refine onSome.intro (get_enc (i := i) (by omega)) ?_
      generalize ys[i]'(by omega) = y0
      conv => whnf
      refine store_enc (enc := zr) (a := ⟨z.fr, a1, a2, c1, c2⟩) (l' := ys.set i ⟨z.fr, a1, a2, c1, c2⟩) rfl rfl ?_
      (repeat ((conv => whnf); refine And.intro rfl ?_)); conv => whnf
      refine .i64 (by omega) (by omega) ?_
      conv => whnf
      exact .more (i + 1, ys.set i ⟨z.fr, a1, a2, c1, c2⟩, t2) rfl ⟨by dsimp only; omega, hN⟩ (by dsimp only; omega) ⟨rfl, rfl, rfl, rfl, rfl, trivial⟩ rfl ⟨.ptr _ _ _ (by simp), .ptr _ _ _ (by simp), .ptr _ _ _ (by simp), .ptr _ _ _ (by simp), .int _ _, trivial⟩
        ⟨row_inn (nn_cons (.int _ _) nn_none), row_inn (stuff_row _ _), row_inn (nn_cons (.int _ _) (nn_cons .nilslice nn_none)), inn_row (in_cons (.int _ _) (in_one (.mslice _ _ _ _ _ (by simp)))), inn_row (in_cons (.int _ _) (in_one (.mslice _ _ _ _ _ (by simp)))),
          fun j k hj => by simp at hj, fun j k hj hk => (noS_map (sz := 5) (enc := zr) (fun a => zr_no a) _ (List.getElem_mem hj) _ (List.getElem_mem hk)).inn _, inn_row (in_cons (.int _ _) (in_one (.mslice _ _ _ _ _ (by simp)))), trivial⟩
    · obtain rfl : i = zs.length := by omega
      conv => whnf
      refine condP.dec (fun h => absurd h (by omega)) (fun _ => ?_)
      conv => whnf
      refine .done (by simp) ?_
      conv => whnf
      exact .intro (stuffI b ys) (S1 s) ⟨ys, s, rfl, rfl, hF⟩ (stuffI_no _ _) (S1_no _) (.one (u := .agg [.int .i64 b, .mslice 6 0 zs.length zs.length false]) (.inl rfl) rfl rfl (.aggL (.cons (.refl _) (.cons (.whole (sz := 5) rfl (fun _ _ h => by cases h) (by rw [List.length_map, hyl]) (.refl _)) .nil))) (stuffI_no _ _)))
  obtain ⟨v, z, ⟨ys, s', rfl, rfl, hN⟩, _, _, hh⟩ := key
  exact ⟨ys, s', hN, fun H n hn => hh H n hn⟩
theorem Within_ok (a b c d : Int) (H : Heap) : Ev T (.call (.func (.func 71) [] []) [rgI a b, rgI c d] H) (.call (.bool (decide (c ≤ a ∧ b ≤ d))) H) := by
  refine run_pure T71 (nn_bool _) (nn_cons (rgI_no _ _) (nn_cons (rgI_no _ _) nn_none)) ?_ H
  repeat' ((conv => whnf); first | (first | refine condP.dec (fun h => ?_) (fun h => ?_) | refine condP.eq (fun h => ?_) (fun h => ?_) | refine condP.ne (fun h => ?_) (fun h => ?_)) | (refine .i64 (by omega) (by omega) ?_) | (refine onSome.intro (idx_fs rfl rfl (by omega) (by omega) (fun _ => rfl)) ?_) | (refine onSome.intro (load_fs rfl (by omega) (by omega) rfl) ?_) | (refine And.intro rfl ?_))
  all_goals conv => whnf
  all_goals first
    | exact .intro (.bool true) (.inl rfl) rfl (frz_bool (decide_eq_true (by omega)).symm)
    | exact .intro (.bool false) (.inl rfl) rfl (frz_bool (decide_eq_false (by omega)).symm)
theorem stays_ok (a b : Int) (H : Heap) : Ev T (.call (.func (.func 72) [] []) [.int .i64 a, .int .i64 b] H) (.call (.bool (decide (a = 3 ∨ a = b))) H) := by
  refine run_pure T72 (nn_bool _) (nn_cons (nn_int _ _) (nn_cons (nn_int _ _) nn_none)) ?_ H
  repeat' ((conv => whnf); first | (first | refine condP.dec (fun h => ?_) (fun h => ?_) | refine condP.eq (fun h => ?_) (fun h => ?_) | refine condP.ne (fun h => ?_) (fun h => ?_)) | (refine .i64 (by omega) (by omega) ?_) | (refine onSome.intro (idx_fs rfl rfl (by omega) (by omega) (fun _ => rfl)) ?_) | (refine onSome.intro (load_fs rfl (by omega) (by omega) rfl) ?_) | (refine And.intro rfl ?_))
  all_goals conv => whnf
  all_goals first
    | exact .intro (.bool true) (.inl rfl) rfl (frz_bool (decide_eq_true (by omega)).symm)
    | exact .intro (.bool false) (.inl rfl) rfl (frz_bool (decide_eq_false (by omega)).symm)

end Go.Proofs.Ytpbadgghhiommaa.I
