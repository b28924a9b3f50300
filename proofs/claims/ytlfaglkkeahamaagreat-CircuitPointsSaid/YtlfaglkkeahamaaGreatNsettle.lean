/- Nets that come to rest: the program. -/
import Derived.Test.YtlfaglkkeahamaaGreatNclone
set_option linter.unusedVariables false
set_option maxHeartbeats 16000000
set_option linter.unusedSimpArgs false
namespace Go.Proofs.YtlfaglkkeahamaaGreat.I
open Go.Ideal

def setI (r : List Rg × Nat × Bool) : IV := .agg [rgsI r.1, .int .i64 r.2.1, .bool r.2.2]
theorem setI_no (r : List Rg × Nat × Bool) : Noname (setI r) := nn_agg (nn_cons (rgsI_no _) (nn_cons (.int _ _) (nn_cons (.bool _) nn_none)))
theorem forceC_in {v : IV} {K : IV → Prop} (h : K v) : forceC v K := by rw [forceC_eq]; exact h
theorem force_in {v : IV} {K : IV → Prop} (h : K v) : force v K := by rw [force_eq]; exact h
/-- The start, in the making. -/
def startN (n : Net) (l : List Rg) (i : Nat) : List Rg := l ++ (n.stages.take i).map fun s => ⟨0, s.su.hi⟩
theorem startN_succ {n : Net} {l : List Rg} {i : Nat} (h : i < n.stages.length) : startN n l (i + 1) = startN n l i ++ [⟨0, (at' n.stages (i : Int)).su.hi⟩] := by
  unfold startN
  rw [at'_get h, List.append_assoc]
  congr 1
  rw [List.take_add_one, List.getElem?_eq_getElem h, List.map_append]
  rfl
theorem startN_all {n : Net} {l : List Rg} : startN n l n.stages.length = n.start l := by unfold startN Net.start; rw [List.take_length]
theorem startN_len {n : Net} {l : List Rg} {i : Nat} (h : i ≤ n.stages.length) : (startN n l i).length = l.length + i := by
  unfold startN; rw [List.length_append, List.length_map, List.length_take]; omega
theorem Net.Ok.vs {n : Net} (hn : n.Ok) {x : List Rg} (h : n.Post x) {l : List Rg} (hx : WIn x (n.start l)) (hl : RgsOk l n.ins (-1000000) 1000000) : Vs x := fun k => by
  have h1 := (hx.at_ k).lo
  have h2 := (hx.at_ k).hi
  have h3 := h.full k
  have h4 : -1000000 ≤ (at' (n.start l) (k : Int)).lo ∧ (at' (n.start l) (k : Int)).hi ≤ 1000000 := by
    unfold Net.start
    rcases Nat.lt_or_ge k l.length with q | q
    · rw [at'_left q]; exact ⟨(hl.ok k q).a, (hl.ok k q).c⟩
    · rw [show k = l.length + (k - l.length) by omega, at'_right]
      rcases Nat.lt_or_ge (k - l.length) n.stages.length with c | c
      · rw [at'_map c]
        have := (hn.st _ c).su.c
        exact ⟨by dsimp only; omega, by dsimp only; omega⟩
      · rw [at'_out (by rw [List.length_map]; exact c)]
        decide
  omega
theorem ms_inn {S : Nat → Prop} {α : Type} {enc : α → List IV} (h : ∀ a, ∀ x ∈ enc a, Noname x) (l : List α) : ∀ (j k : Nat) (hj : j < (l.map enc).length) (hk : k < ((l.map enc)[j]).length), Inn S ((l.map enc)[j][k]) := fun j k hj hk =>
  (noS_map (sz := 0) (enc := enc) h _ (List.getElem_mem hj) _ (List.getElem_mem hk)).inn _

theorem c9settle_ok {n : Net} (hn : n.Ok) {l : List Rg} (hl : RgsOk l n.ins (-1000000) 1000000) {iv : IV} (hv : Noname iv) (hC : Clones 136 2 Rg.R iv l) {sw : Nat} (hk : sw ≤ 1000) (H : Heap) :
    Ev T (.call (.func (.func 79) [] []) [n.I, iv, .int .i64 sw] H) (.call (setI (n.settle l sw)) H) := by
  refine run_pure T79 (setI_no _) (nn_cons n.I_no (nn_cons hv (nn_cons (nn_int _ _) nn_none))) ?_ H
  have e2 : (n.stages.map Stg.R).length = n.stages.length := List.length_map ..
  have i0 := hn.i0
  have i1 := hn.i1
  have s0 := hn.s0
  have s1 := hn.s1
  have hll := hl.len
  have hP0 := hn.start hl
  have hlen0 := hP0.len
  have hC' : ∀ (H : Heap) (n : Nat), H n = .free → Ev T (.call (.func (.func 136) [] []) [iv] H) (.call (omsl n l) (H.set n (lsS 2 Rg.R l))) := hC
  repeat' ((conv => whnf); first | (refine CallP.new hC' ?_) | (refine force_om ?_) | (refine forceC_om ?_) | (refine forceC_in (v := iv) ?_) | (refine force_in (v := iv) ?_) | (first | refine condP.dec (fun h => ?_) (fun h => ?_) | refine condP.eq (fun h => ?_) (fun h => ?_) | refine condP.ne (fun h => ?_) (fun h => ?_)) | (refine .i64 (by omega) (by omega) ?_) | (refine onSome.intro (idx_fs rfl rfl (by omega) (by omega) (fun _ => rfl)) ?_) | (refine onSome.intro (load_fs rfl (by omega) (by omega) rfl) ?_) | (refine And.intro rfl ?_))
  refine onSome.intro (a := .agg [omsl 2 l, .int .i64 0, .bool false]) (by cases l <;> rfl) ?_
  repeat' ((conv => whnf); first | (refine force_om ?_) | (refine forceC_om ?_) | (first | refine condP.dec (fun h => ?_) (fun h => ?_) | refine condP.eq (fun h => ?_) (fun h => ?_) | refine condP.ne (fun h => ?_) (fun h => ?_)) | (refine .i64 (by omega) (by omega) ?_) | (refine onSome.intro (idx_fs rfl rfl (by omega) (by omega) (fun _ => rfl)) ?_) | (refine onSome.intro (load_fs rfl (by omega) (by omega) rfl) ?_) | (refine And.intro rfl ?_))
  conv => whnf
  refine onTrue.intro (by cases l <;> rfl) ?_
  repeat' ((conv => whnf); first | (refine force_om ?_) | (refine forceC_om ?_) | (first | refine condP.dec (fun h => ?_) (fun h => ?_) | refine condP.eq (fun h => ?_) (fun h => ?_) | refine condP.ne (fun h => ?_) (fun h => ?_)) | (refine .i64 (by omega) (by omega) ?_) | (refine onSome.intro (idx_fs rfl rfl (by omega) (by omega) (fun _ => rfl)) ?_) | (refine onSome.intro (load_fs rfl (by omega) (by omega) rfl) ?_) | (refine And.intro rfl ?_))
  refine loop_grow (X := Nat × List Rg) (fun x => [(2, .int .i64 sw), (3, .ptr 0 0 0), (6, .ptr 1 0 0), (7, .ptr 3 0 0), (19, stgsI n.stages), (20, .int .i64 n.stages.length), (21, .int .i64 x.1)])
    (fun x => [.live 3 [n.R], .live 3 [[.nilslice, .int .i64 0, .bool false]], lsS 2 Rg.R x.2, .live 3 [[omsl 2 x.2, .int .i64 0, .bool false]]])
    (fun x => n.stages.length - x.1) (fun x => x.1 ≤ n.stages.length ∧ x.2 = startN n l x.1) (0, l) ⟨Nat.zero_le _, by unfold startN; simp⟩ ⟨rfl, rfl, rfl, rfl, rfl, by show i6 _ = i6 _; rw [e2], rfl, trivial⟩ rfl (fun x hx => ?_)
  obtain ⟨i, y⟩ := x
  obtain ⟨hi, hy⟩ := hx
  dsimp only at hi hy ⊢
  have hyl : y.length = l.length + i := by rw [hy, startN_len hi]
  rcases Nat.lt_or_ge i n.stages.length with hlt | hge
  · have hnx := startN_succ (l := l) hlt
    rw [← hy] at hnx
    generalize hf : at' n.stages (i : Int) = s at *
    repeat' ((conv => whnf); first | (refine force_om ?_) | (refine forceC_om ?_) | (refine condP.dec (fun _ => ?_) (fun h => absurd (by omega) h)) | (refine onSome.intro (load_fs (l := n.stages) (enc := Stg.R) (i := (i : Int)) (v := s.I) rfl (by omega) (by omega) (by rw [hf]; rfl)) ?_) | (first | refine condP.dec (fun h => ?_) (fun h => ?_) | refine condP.eq (fun h => ?_) (fun h => ?_) | refine condP.ne (fun h => ?_) (fun h => ?_)) | (refine .i64 (by omega) (by omega) ?_) | (refine onSome.intro (idx_fs rfl rfl (by omega) (by omega) (fun _ => rfl)) ?_) | (refine onSome.intro (load_fs rfl (by omega) (by omega) rfl) ?_) | (refine And.intro rfl ?_))
    conv => whnf
    refine .snocM (enc := Rg.R) (l := y) (b := 2) ⟨0, s.su.hi⟩ rfl rfl rfl rfl (fun c hc => by simp [Rg.R] at hc; rcases hc with rfl | rfl <;> rfl) (by omega) ?_
    repeat' ((conv => whnf); first | (refine force_om ?_) | (refine forceC_om ?_) | (first | refine condP.dec (fun h => ?_) (fun h => ?_) | refine condP.eq (fun h => ?_) (fun h => ?_) | refine condP.ne (fun h => ?_) (fun h => ?_)) | (refine .i64 (by omega) (by omega) ?_) | (refine onSome.intro (idx_fs rfl rfl (by omega) (by omega) (fun _ => rfl)) ?_) | (refine onSome.intro (load_fs rfl (by omega) (by omega) rfl) ?_) | (refine And.intro rfl ?_))
    conv => whnf
    exact .more (i + 1, y ++ [⟨0, s.su.hi⟩]) [0, 1, 6, 3] rfl ⟨by dsimp only; omega, hnx.symm⟩ (by dsimp only; omega) rfl ⟨.same (.int _ _), .pt rfl, .pt rfl, .pt rfl, .same (stgsI_no _), .same (.int _ _), .same (.int _ _), trivial⟩
      ⟨.same (noS_row (Net.R_no _)), .same (noS_row (nn_cons .nilslice (nn_cons (.int _ _) (nn_cons (.bool _) nn_none)))), .lsM (by simp) Rg.R_no, .row (.cons (.grown rfl (by simp) (by simp)) (.cons (.same (.int _ _)) (.cons (.same (.bool _)) .nil))), trivial⟩
  obtain rfl : i = n.stages.length := by omega
  rw [startN_all] at hy
  have hne : y ≠ [] := fun q => by rw [q] at hyl; simp at hyl; omega
  obtain ⟨m, hm⟩ : ∃ m, m = y.length := ⟨_, rfl⟩
  rw [omsl_ne hne, lsS_ne hne, ← hm]
  rw [← hy] at hP0 hlen0
  repeat' ((conv => whnf); first | (refine condP.dec (fun h => absurd h (by omega)) (fun _ => ?_)) | (first | refine condP.dec (fun h => ?_) (fun h => ?_) | refine condP.eq (fun h => ?_) (fun h => ?_) | refine condP.ne (fun h => ?_) (fun h => ?_)) | (refine .i64 (by omega) (by omega) ?_) | (refine onSome.intro (idx_fs rfl rfl (by omega) (by omega) (fun _ => rfl)) ?_) | (refine onSome.intro (load_fs rfl (by omega) (by omega) rfl) ?_) | (refine And.intro rfl ?_))
  refine .done (by simp) ?_
  conv => whnf
  have hYl : (y.length : Int) = n.ins + n.stages.length := by rw [hyl]; omega
  have hres : NonameS (.live 3 [[.nilslice, .int .i64 0, .bool false]]) := noS_row (nn_cons .nilslice (nn_cons (.int _ _) (nn_cons (.bool _) nn_none)))
  have hend : n.settle l sw = n.rest y sw := by unfold Net.settle; rw [hy]
  rw [hend]
  refine loop_rule (X := Nat × List Rg × Nat × Bool) (fun x => [(2, .int .i64 sw), (3, .ptr 0 0 0), (6, .ptr 1 0 0), (7, .ptr 3 0 0)])
    (fun x => [.live 3 [n.R], .live 3 [[.nilslice, .int .i64 0, .bool false]], .live 2 (x.2.1.map Rg.R), .live 3 [[.mslice 2 0 m m false, .int .i64 x.2.2.1, .bool x.2.2.2]]])
    (fun x => sw - x.1) (fun x => x.1 ≤ sw ∧ x.2 = n.rest y x.1) (0, y, 0, false) ⟨Nat.zero_le _, rfl⟩ ⟨rfl, rfl, rfl, rfl, trivial⟩ rfl (fun _ _ => rfl) (fun x hx => ?_)
  obtain ⟨k, u, c, st⟩ := x
  obtain ⟨hk1, hr⟩ := hx
  dsimp only at hk1 hr ⊢
  have hcnt := n.rest_count y k
  have hit := (hn.rest_iter y k).1
  have hstep : n.rest y (k + 1) = if (n.rest y k).2.2 then n.rest y k else (n.sweep (n.rest y k).1, (n.rest y k).2.1 + 1, n.same (n.rest y k).1 n.stages.length) := by rw [Net.rest]
  have hstl := fun h : (n.rest y k).2.2 = true => Net.rest_still h (sw - k)
  rw [← hr] at hcnt hit hstep hstl
  dsimp only at hcnt hit hstep hstl
  rw [show k + (sw - k) = sw by omega] at hstl
  have hPu : n.Post u := by rw [hit]; exact hP0.iter hn k
  have hWu : WIn u y := by
    have := hn.iter_in y 0 k
    rw [Nat.zero_add] at this
    rw [hit]
    exact this
  have hul : u.length = m := by rw [hWu.len, hm]
  by_cases hgo : c < sw ∧ st = false
  · obtain ⟨hlt, rfl⟩ := hgo
    have hck := hcnt.2 rfl
    rw [if_neg (by simp)] at hstep
    repeat' ((conv => whnf); first | (refine condP.dec (fun _ => ?_) (fun h => absurd (by omega) h)) | (first | refine condP.dec (fun h => ?_) (fun h => ?_) | refine condP.eq (fun h => ?_) (fun h => ?_) | refine condP.ne (fun h => ?_) (fun h => ?_)) | (refine .i64 (by omega) (by omega) ?_) | (refine onSome.intro (idx_fs rfl rfl (by omega) (by omega) (fun _ => rfl)) ?_) | (refine onSome.intro (load_fs rfl (by omega) (by omega) rfl) ?_) | (refine And.intro rfl ?_))
    refine loop_rule (X := Nat × List Rg × Bool) (fun x => [(2, .int .i64 sw), (3, .ptr 0 0 0), (6, .ptr 1 0 0), (7, .ptr 3 0 0), (47, stgsI n.stages), (48, .int .i64 n.stages.length), (49, .int .i64 x.1)])
      (fun x => [.live 3 [n.R], .live 3 [[.nilslice, .int .i64 0, .bool false]], .live 2 (x.2.1.map Rg.R), .live 3 [[.mslice 2 0 m m false, .int .i64 c, .bool x.2.2]]])
      (fun x => n.stages.length - x.1) (fun x => x.1 ≤ n.stages.length ∧ x.2.1 = n.part u x.1 ∧ x.2.2 = n.same u x.1) (0, u, true) ⟨Nat.zero_le _, rfl, rfl⟩ ⟨rfl, rfl, rfl, rfl, rfl, by show i6 _ = i6 _; rw [e2], rfl, trivial⟩ rfl (fun _ _ => rfl) (fun x hx => ?_)
    obtain ⟨i, z, sm⟩ := x
    obtain ⟨hi, hz, hsm⟩ := hx
    dsimp only at hi hz hsm ⊢
    have hzl : z.length = m := by rw [hz, n.part_len, hul]
    rcases Nat.lt_or_ge i n.stages.length with hlt2 | hge
    · have hPz : n.Post z := by rw [hz]; exact hPu.part hn i (by omega)
      have hWz : WIn z y := by rw [hz]; exact (hn.part_in u i).trans hWu
      have hVz : Vs z := hn.vs hPz (by rw [← hy]; exact hWz) hl
      have kg := c9grid_ok hn hlt2 hVz (by rw [hzl, hm]; exact hYl)
      have hG := (hn.st i hlt2).grid hPz.full
      have kp := c9plate_ok hn hlt2 hG
      have hst := hn.part_step u i
      have hsa : n.same u (i + 1) = (n.same u i && decide (nextR (at' (n.part u i) (n.ins + i)) (n.F i (n.part u i)) = at' (n.part u i) (n.ins + i))) := by rw [Net.same]
      rw [← hz, ← hsm] at hsa
      rw [← hz, ← hn.insN] at hst
      rw [show (at' n.stages (i : Int)).plate (at' n.tubes (at' n.stages (i : Int)).tube) ((at' n.stages (i : Int)).grid z) = n.F i z from rfl] at kp
      generalize (at' n.stages (i : Int)).grid z = G at *
      generalize n.F i z = P at *
      generalize ha : at' z (n.ins + (i : Int)) = a at *
      obtain ⟨a0, a1⟩ := a
      obtain ⟨p0, p1⟩ := P
      unfold nextR at hst hsa
      dsimp only at hst hsa
      have hbnd : 0 ≤ n.ins + (i : Int) ∧ n.ins + (i : Int) < m := by omega
      repeat' ((conv => whnf); first | (refine condP.dec (fun _ => ?_) (fun h => absurd (by omega) h)) | (refine onSome.intro (idx_ms (n := n.ins + (i : Int)) rfl rfl rfl (by omega) (by omega)) ?_) | (refine onSome.intro (load_ms (l := z) (enc := Rg.R) (i := n.ins + (i : Int)) (v := .int .i64 a0) rfl rfl (by omega) (by omega) (by rw [ha]; rfl)) ?_) | (refine onSome.intro (load_ms (l := z) (enc := Rg.R) (i := n.ins + (i : Int)) (v := .int .i64 a1) rfl rfl (by omega) (by omega) (by rw [ha]; rfl)) ?_) | (refine onSome.intro (load_ms (l := z) (enc := Rg.R) (i := n.ins + (i : Int)) (v := .agg [.int .i64 a0, .int .i64 a1]) rfl rfl (by omega) (by omega) (by rw [ha]; rfl)) ?_) | (refine And.intro (load_ms (l := z) (enc := Rg.R) (i := n.ins + (i : Int)) (v := .int .i64 a0) rfl rfl (by omega) (by omega) (by rw [ha]; rfl)) ?_) | (refine And.intro (load_ms (l := z) (enc := Rg.R) (i := n.ins + (i : Int)) (v := .int .i64 a1) rfl rfl (by omega) (by omega) (by rw [ha]; rfl)) ?_) | (refine CallP.borrow [2] rfl (.cons (.refl _) (.cons (.refl _) (.cons (.whole (sz := 2) (es := z.map Rg.R) rfl (fun _ _ h => by cases h) (by rw [List.length_map]; omega) (.refl _)) .nil))) (nn_cons n.I_no (nn_cons (nn_int _ _) (nn_cons (rgsI_no _) nn_none))) kg (.aggL (.cons (.int _ _) (.cons (.int _ _) .nil))) ?_) | (refine CallP.pure kp ?_) | (refine condP.rg (fun h => ?_) (fun h => ?_)) | (first | refine condP.dec (fun h => ?_) (fun h => ?_) | refine condP.eq (fun h => ?_) (fun h => ?_) | refine condP.ne (fun h => ?_) (fun h => ?_)) | (refine .i64 (by omega) (by omega) ?_) | (refine onSome.intro (idx_fs rfl rfl (by omega) (by omega) (fun _ => rfl)) ?_) | (refine onSome.intro (load_fs rfl (by omega) (by omega) rfl) ?_) | (refine And.intro rfl ?_))
      · conv => whnf
        have e : (⟨max a0 p0, min a1 p1⟩ : Rg) = ⟨a0, a1⟩ := by rw [Rg.mk.injEq]; exact h
        rw [e, decide_eq_true rfl, Bool.and_true] at hsa
        rw [e, ← ha, hn.insN, set_same] at hst
        exact .more (i + 1, z, sm) rfl ⟨by dsimp only; omega, hst.symm, hsa.symm⟩ (by dsimp only; omega) ⟨rfl, rfl, rfl, rfl, rfl, rfl, rfl, trivial⟩ rfl ⟨.int _ _, .ptr _ _ _ (by simp), .ptr _ _ _ (by simp), .ptr _ _ _ (by simp), (stgsI_no _).inn _, .int _ _, .int _ _, trivial⟩
          ⟨row_inn n.R_no, row_inn (nn_cons .nilslice (nn_cons (.int _ _) (nn_cons (.bool _) nn_none))), ms_inn Rg.R_no _, inn_row (in_cons (.mslice _ _ _ _ _ (by simp)) (in_cons (.int _ _) (in_one (.bool _)))), trivial⟩
      · conv => whnf
        refine onSome.intro (get_enc (i := (n.ins + (i : Int)).toNat) (by omega)) ?_
        generalize z[(n.ins + (i : Int)).toNat]'(by omega) = z0
        conv => whnf
        refine store_enc (enc := Rg.R) (a := ⟨max a0 p0, min a1 p1⟩) (l' := z.set (n.ins + (i : Int)).toNat ⟨max a0 p0, min a1 p1⟩) rfl rfl ?_
        (repeat ((conv => whnf); refine And.intro rfl ?_)); conv => whnf
        refine .i64 (by omega) (by omega) ?_
        conv => whnf
        have e : ¬ (⟨max a0 p0, min a1 p1⟩ : Rg) = ⟨a0, a1⟩ := by rw [Rg.mk.injEq]; exact h
        rw [decide_eq_false e, Bool.and_false] at hsa
        rw [show (n.ins.toNat + i) = (n.ins + (i : Int)).toNat by omega] at hst
        exact .more (i + 1, z.set (n.ins + (i : Int)).toNat ⟨max a0 p0, min a1 p1⟩, false) rfl ⟨by dsimp only; omega, hst.symm, hsa.symm⟩ (by dsimp only; omega) ⟨rfl, rfl, rfl, rfl, rfl, rfl, rfl, trivial⟩ rfl ⟨.int _ _, .ptr _ _ _ (by simp), .ptr _ _ _ (by simp), .ptr _ _ _ (by simp), (stgsI_no _).inn _, .int _ _, .int _ _, trivial⟩
          ⟨row_inn n.R_no, row_inn (nn_cons .nilslice (nn_cons (.int _ _) (nn_cons (.bool _) nn_none))), ms_inn Rg.R_no _, inn_row (in_cons (.mslice _ _ _ _ _ (by simp)) (in_cons (.int _ _) (in_one (.bool _)))), trivial⟩
    · obtain rfl : i = n.stages.length := by omega
      repeat' ((conv => whnf); first | (refine condP.dec (fun h => absurd h (by omega)) (fun _ => ?_)) | (first | refine condP.dec (fun h => ?_) (fun h => ?_) | refine condP.eq (fun h => ?_) (fun h => ?_) | refine condP.ne (fun h => ?_) (fun h => ?_)) | (refine .i64 (by omega) (by omega) ?_) | (refine onSome.intro (idx_fs rfl rfl (by omega) (by omega) (fun _ => rfl)) ?_) | (refine onSome.intro (load_fs rfl (by omega) (by omega) rfl) ?_) | (refine And.intro rfl ?_))
      refine .done (by simp) ?_
      repeat' ((conv => whnf); first | (refine .i64 (by omega) (by omega) ?_) | (first | refine condP.dec (fun h => ?_) (fun h => ?_) | refine condP.eq (fun h => ?_) (fun h => ?_) | refine condP.ne (fun h => ?_) (fun h => ?_)) | (refine .i64 (by omega) (by omega) ?_) | (refine onSome.intro (idx_fs rfl rfl (by omega) (by omega) (fun _ => rfl)) ?_) | (refine onSome.intro (load_fs rfl (by omega) (by omega) rfl) ?_) | (refine And.intro rfl ?_))
      conv => whnf
      have e : (z, c + 1, sm) = n.rest y (k + 1) := by rw [hstep, hz, hsm]; rfl
      exact .more (k + 1, z, c + 1, sm) rfl ⟨by dsimp only; omega, e⟩ (by dsimp only; omega) ⟨rfl, rfl, rfl, rfl, trivial⟩ rfl ⟨.int _ _, .ptr _ _ _ (by simp), .ptr _ _ _ (by simp), .ptr _ _ _ (by simp), trivial⟩
        ⟨row_inn n.R_no, row_inn (nn_cons .nilslice (nn_cons (.int _ _) (nn_cons (.bool _) nn_none))), ms_inn Rg.R_no _, inn_row (in_cons (.mslice _ _ _ _ _ (by simp)) (in_cons (.int _ _) (in_one (.bool _)))), trivial⟩
  · have hfin : (u, c, st) = n.rest y sw := by
      cases st with
      | true => exact (hstl rfl).symm
      | false =>
        have := hcnt.2 rfl
        obtain rfl : k = sw := by
          rcases Nat.lt_or_ge c sw with q | q
          · exact absurd ⟨q, rfl⟩ hgo
          · omega
        exact hr
    rw [← hfin]
    cases st with
    | true =>
      repeat' ((conv => whnf); first | (refine condP.dec (fun h => ?_) (fun h => ?_)) | (first | refine condP.dec (fun h => ?_) (fun h => ?_) | refine condP.eq (fun h => ?_) (fun h => ?_) | refine condP.ne (fun h => ?_) (fun h => ?_)) | (refine .i64 (by omega) (by omega) ?_) | (refine onSome.intro (idx_fs rfl rfl (by omega) (by omega) (fun _ => rfl)) ?_) | (refine onSome.intro (load_fs rfl (by omega) (by omega) rfl) ?_) | (refine And.intro rfl ?_))
      all_goals refine .done (by simp) ?_
      all_goals conv => whnf
      all_goals exact .intro (.agg [.mslice 2 0 m m false, .int .i64 c, .bool true]) (.inl rfl) rfl (.aggL (.cons (.whole (sz := 2) (es := u.map Rg.R) rfl (fun _ _ h => by cases h) (by rw [List.length_map]; omega) (.refl _)) (.cons (.refl _) (.cons (.refl _) .nil))))
    | false =>
      have hc : ¬ c < sw := fun q => hgo ⟨q, rfl⟩
      repeat' ((conv => whnf); first | (refine condP.dec (fun h => absurd h (by omega)) (fun h => ?_)) | (first | refine condP.dec (fun h => ?_) (fun h => ?_) | refine condP.eq (fun h => ?_) (fun h => ?_) | refine condP.ne (fun h => ?_) (fun h => ?_)) | (refine .i64 (by omega) (by omega) ?_) | (refine onSome.intro (idx_fs rfl rfl (by omega) (by omega) (fun _ => rfl)) ?_) | (refine onSome.intro (load_fs rfl (by omega) (by omega) rfl) ?_) | (refine And.intro rfl ?_))
      all_goals refine .done (by simp) ?_
      all_goals conv => whnf
      all_goals exact .intro (.agg [.mslice 2 0 m m false, .int .i64 c, .bool false]) (.inl rfl) rfl (.aggL (.cons (.whole (sz := 2) (es := u.map Rg.R) rfl (fun _ _ h => by cases h) (by rw [List.length_map]; omega) (.refl _)) (.cons (.refl _) (.cons (.refl _) .nil))))

end Go.Proofs.YtlfaglkkeahamaaGreat.I
