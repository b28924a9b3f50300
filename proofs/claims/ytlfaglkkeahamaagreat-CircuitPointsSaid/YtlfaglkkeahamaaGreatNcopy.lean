/- Families and nets that are copied. -/
import Derived.Test.YtlfaglkkeahamaaGreatNset2
set_option linter.unusedVariables false
set_option maxHeartbeats 16000000
set_option linter.unusedSimpArgs false
namespace Go.Proofs.YtlfaglkkeahamaaGreat.I
open Go.Ideal

theorem ei_no (a : Int) : ∀ x ∈ ei a, Noname x := nn_cons (.int _ _) nn_none
theorem el_no (a : List Int) : ∀ x ∈ el a, Noname x := nn_cons (sl_no _) nn_none
theorem cloneI_ok (l : List Int) (hne : l ≠ []) (hl : l.length ≤ 1000000) : Clones 181 1 ei (.fslice (l.map ei)) l := by
  cases l with
  | nil => exact absurd rfl hne
  | cons a l =>
    have key := run_newP T181 (args := [.fslice ((a :: l).map ei)]) (P := fun v k s => v = .mslice k 0 (l.length + 1) (l.length + 1) false ∧ s = .live 1 ((a :: l).map ei)) (nn_cons (nn_fs (fun _ _ => ei_no _)) nn_none) (by
      conv => whnf
      refine .full (es := []) (n := 0) rfl rfl rfl rfl (by simp) (fun e he => by obtain ⟨z, _, rfl⟩ := List.mem_map.mp he; rfl) (fun e he c hc => by obtain ⟨z, _, rfl⟩ := List.mem_map.mp he; simp [ei] at hc; subst hc; rfl) (r := (a :: l).map ei) rfl (n' := l.length + 1) (by simp) (by simp only [List.length_cons] at hl; omega) ?_
      conv => whnf
      exact .intro (.mslice 2 0 (l.length + 1) (l.length + 1) false) 2 (.live 1 ((a :: l).map ei)) ⟨rfl, rfl⟩ (.inl rfl) rfl rfl (noS_map fun a => ei_no a) (.mslice _ _ _ _ _ rfl))
    obtain ⟨v, k, s, ⟨rfl, rfl⟩, _, h⟩ := key
    intro H n hn
    have := h H n hn
    simpa [IV.ren, sw, omsl, lsS] using this
theorem cloneL_ok (l : List (List Int)) (hne : l ≠ []) (hl : l.length ≤ 1000000) : Clones 182 1 el (.fslice (l.map el)) l := by
  cases l with
  | nil => exact absurd rfl hne
  | cons a l =>
    have key := run_newP T182 (args := [.fslice ((a :: l).map el)]) (P := fun v k s => v = .mslice k 0 (l.length + 1) (l.length + 1) false ∧ s = .live 1 ((a :: l).map el)) (nn_cons (nn_fs (fun _ _ => el_no _)) nn_none) (by
      conv => whnf
      refine .full (es := []) (n := 0) rfl rfl rfl rfl (by simp) (fun e he => by obtain ⟨z, _, rfl⟩ := List.mem_map.mp he; rfl) (fun e he c hc => by obtain ⟨z, _, rfl⟩ := List.mem_map.mp he; simp [el] at hc; subst hc; rfl) (r := (a :: l).map el) rfl (n' := l.length + 1) (by simp) (by simp only [List.length_cons] at hl; omega) ?_
      conv => whnf
      exact .intro (.mslice 2 0 (l.length + 1) (l.length + 1) false) 2 (.live 1 ((a :: l).map el)) ⟨rfl, rfl⟩ (.inl rfl) rfl rfl (noS_map fun a => el_no a) (.mslice _ _ _ _ _ rfl))
    obtain ⟨v, k, s, ⟨rfl, rfl⟩, _, h⟩ := key
    intro H n hn
    have := h H n hn
    simpa [IV.ren, sw, omsl, lsS] using this
theorem cloneF_ok (l : List Fam) (hne : l ≠ []) (hl : l.length ≤ 1000000) : Clones 168 4 Fam.R (.fslice (l.map Fam.R)) l := by
  cases l with
  | nil => exact absurd rfl hne
  | cons a l =>
    have key := run_newP T168 (args := [.fslice ((a :: l).map Fam.R)]) (P := fun v k s => v = .mslice k 0 (l.length + 1) (l.length + 1) false ∧ s = .live 4 ((a :: l).map Fam.R)) (nn_cons (nn_fs (fun _ _ => Fam.R_no _)) nn_none) (by
      conv => whnf
      refine .full (es := []) (n := 0) rfl rfl rfl rfl (by simp) (fun e he => by obtain ⟨z, _, rfl⟩ := List.mem_map.mp he; rfl) (fun e he c hc => by obtain ⟨z, _, rfl⟩ := List.mem_map.mp he; simp [Fam.R] at hc; rcases hc with rfl | rfl | rfl | rfl <;> rfl) (r := (a :: l).map Fam.R) rfl (n' := l.length + 1) (by simp) (by simp only [List.length_cons] at hl; omega) ?_
      conv => whnf
      exact .intro (.mslice 2 0 (l.length + 1) (l.length + 1) false) 2 (.live 4 ((a :: l).map Fam.R)) ⟨rfl, rfl⟩ (.inl rfl) rfl rfl (noS_map fun a => Fam.R_no a) (.mslice _ _ _ _ _ rfl))
    obtain ⟨v, k, s, ⟨rfl, rfl⟩, _, h⟩ := key
    intro H n hn
    have := h H n hn
    simpa [IV.ren, sw, omsl, lsS] using this
theorem cloneS_ok (l : List Stg) (hne : l ≠ []) (hl : l.length ≤ 1000000) : Clones 169 8 Stg.R (.fslice (l.map Stg.R)) l := by
  cases l with
  | nil => exact absurd rfl hne
  | cons a l =>
    have key := run_newP T169 (args := [.fslice ((a :: l).map Stg.R)]) (P := fun v k s => v = .mslice k 0 (l.length + 1) (l.length + 1) false ∧ s = .live 8 ((a :: l).map Stg.R)) (nn_cons (nn_fs (fun _ _ => Stg.R_no _)) nn_none) (by
      conv => whnf
      refine .full (es := []) (n := 0) rfl rfl rfl rfl (by simp) (fun e he => by obtain ⟨z, _, rfl⟩ := List.mem_map.mp he; rfl) (fun e he c hc => by obtain ⟨z, _, rfl⟩ := List.mem_map.mp he; simp [Stg.R] at hc; rcases hc with rfl | rfl | rfl | rfl | rfl | rfl | rfl | rfl <;> rfl) (r := (a :: l).map Stg.R) rfl (n' := l.length + 1) (by simp) (by simp only [List.length_cons] at hl; omega) ?_
      conv => whnf
      exact .intro (.mslice 2 0 (l.length + 1) (l.length + 1) false) 2 (.live 8 ((a :: l).map Stg.R)) ⟨rfl, rfl⟩ (.inl rfl) rfl rfl (noS_map fun a => Stg.R_no a) (.mslice _ _ _ _ _ rfl))
    obtain ⟨v, k, s, ⟨rfl, rfl⟩, _, h⟩ := key
    intro H n hn
    have := h H n hn
    simpa [IV.ren, sw, omsl, lsS] using this
theorem cloneT_ok (l : List Tap) (hne : l ≠ []) (hl : l.length ≤ 1000000) : Clones 170 3 Tap.R (.fslice (l.map Tap.R)) l := by
  cases l with
  | nil => exact absurd rfl hne
  | cons a l =>
    have key := run_newP T170 (args := [.fslice ((a :: l).map Tap.R)]) (P := fun v k s => v = .mslice k 0 (l.length + 1) (l.length + 1) false ∧ s = .live 3 ((a :: l).map Tap.R)) (nn_cons (nn_fs (fun _ _ => Tap.R_no _)) nn_none) (by
      conv => whnf
      refine .full (es := []) (n := 0) rfl rfl rfl rfl (by simp) (fun e he => by obtain ⟨z, _, rfl⟩ := List.mem_map.mp he; rfl) (fun e he c hc => by obtain ⟨z, _, rfl⟩ := List.mem_map.mp he; simp [Tap.R] at hc; rcases hc with rfl | rfl | rfl <;> rfl) (r := (a :: l).map Tap.R) rfl (n' := l.length + 1) (by simp) (by simp only [List.length_cons] at hl; omega) ?_
      conv => whnf
      exact .intro (.mslice 2 0 (l.length + 1) (l.length + 1) false) 2 (.live 3 ((a :: l).map Tap.R)) ⟨rfl, rfl⟩ (.inl rfl) rfl rfl (noS_map fun a => Tap.R_no a) (.mslice _ _ _ _ _ rfl))
    obtain ⟨v, k, s, ⟨rfl, rfl⟩, _, h⟩ := key
    intro H n hn
    have := h H n hn
    simpa [IV.ren, sw, omsl, lsS] using this

theorem Fam.Ok.ne {F : Fam} (h : F.Ok) : F.g ≠ [] ∧ F.p ≠ [] ∧ F.lo ≠ [] ∧ F.hi ≠ [] := by
  have a := h.g0
  have b := h.p0
  have c := h.tl.len
  have d := h.th.len
  exact ⟨fun q => by rw [q] at a; simp at a, fun q => by rw [q] at b; simp at b, fun q => by rw [q] at c; simp at c; omega, fun q => by rw [q] at d; simp at d; omega⟩
theorem fzE_set {H H' : Heap} {e' : List IV} : ∀ {es : Els} {i : Nat}, (∀ hi : i < es.length, FzL H H' e' es[i]) → FzE H H' (es.set i e') es
  | [], _, _ => .nil
  | x :: xs, 0, h => .cons (h (by simp)) (.refl _)
  | x :: xs, i + 1, h => .cons (.refl _) (fzE_set (fun hi => h (by simpa using hi)))
/-- A row that was made anew. -/
theorem row_anew {kept : List Nat} {H1 H2 : Heap} {t : List (List Int)} {i b : Nat} (hi : i < t.length) {m : Nat} (hm : m = t[i].length) (hb : H1 b = .live 1 (t[i].map ei)) (hb' : ∀ sz e, H2 b ≠ .live sz e) :
    MvS kept H1 H2 (.live 1 ((t.map el).set i [.mslice b 0 m m false])) (.live 1 (t.map el)) :=
  .nn noS_rows (FzE.slot (fzE_set fun h => by
    rw [List.getElem_map]
    exact .cons (.ints hb hb' hm) .nil))
def CSl (F : Fam) : List Slot := [.live 4 [[.mslice 2 0 F.g.length F.g.length false, .mslice 3 0 F.p.length F.p.length false, .mslice 4 0 F.lo.length F.lo.length false, .mslice 5 0 F.hi.length F.hi.length false]], .live 4 [[.nilslice, .nilslice, .nilslice, .nilslice]],
  .live 1 (F.g.map ei), .live 1 (F.p.map ei), .live 1 (F.lo.map el), .live 1 (F.hi.map el)]
theorem Copy_ok {F : Fam} (hF : F.Ok) (H : Heap) : Ev T (.call (.func (.func 153) [] []) [F.I] H) (.call F.I H) := by
  refine run_pure T153 F.I_no (nn_cons F.I_no nn_none) ?_ H
  obtain ⟨n1, n2, n3, n4⟩ := hF.ne
  have g1 := hF.g1
  have p1 := hF.p1
  have tl := hF.tl.len
  have th := hF.th.len
  have rl := hF.tl.row
  have rh := hF.th.row
  have p0 := hF.p0
  have cI : ∀ l : List Int, l ≠ [] → l.length ≤ 1000000 → ∀ (H : Heap) (n : Nat), H n = .free → Ev T (.call (.func (.func 181) [] []) [sl l] H) (.call (.mslice n 0 l.length l.length false) (H.set n (.live 1 (l.map ei)))) := fun l h1 h2 H n hn => by
    have := cloneI_ok l h1 h2 H n hn
    rw [omsl_ne h1, lsS_ne h1] at this
    exact this
  have cL : ∀ l : List (List Int), l ≠ [] → l.length ≤ 1000000 → ∀ (H : Heap) (n : Nat), H n = .free → Ev T (.call (.func (.func 182) [] []) [sll l] H) (.call (.mslice n 0 l.length l.length false) (H.set n (.live 1 (l.map el)))) := fun l h1 h2 H n hn => by
    have := cloneL_ok l h1 h2 H n hn
    rw [omsl_ne h1, lsS_ne h1] at this
    exact this
  have k1 := cI F.g n1 (by omega)
  have k2 := cI F.p n2 (by omega)
  have k3 := cL F.lo n3 (by omega)
  have k4 := cL F.hi n4 (by omega)
  repeat' ((conv => whnf); first | (refine CallP.new k1 ?_) | (refine CallP.new k2 ?_) | (refine CallP.new k3 ?_) | (refine CallP.new k4 ?_) | (first | refine condP.dec (fun h => ?_) (fun h => ?_) | refine condP.eq (fun h => ?_) (fun h => ?_) | refine condP.ne (fun h => ?_) (fun h => ?_)) | (refine .i64 (by omega) (by omega) ?_) | (refine onSome.intro (idx_fs rfl rfl (by omega) (by omega) (fun _ => rfl)) ?_) | (refine onSome.intro (load_fs rfl (by omega) (by omega) rfl) ?_) | (refine And.intro rfl ?_))
  conv => whnf
  refine loop_step ?_
  repeat' ((conv => whnf); first | (refine force_om ?_) | (first | refine condP.dec (fun h => ?_) (fun h => ?_) | refine condP.eq (fun h => ?_) (fun h => ?_) | refine condP.ne (fun h => ?_) (fun h => ?_)) | (refine .i64 (by omega) (by omega) ?_) | (refine onSome.intro (idx_fs rfl rfl (by omega) (by omega) (fun _ => rfl)) ?_) | (refine onSome.intro (load_fs rfl (by omega) (by omega) rfl) ?_) | (refine And.intro rfl ?_))
  refine loop_grow (X := Nat) (fun i => [(1, .ptr 0 0 0), (2, .ptr 1 0 0), (4, .mslice 4 0 F.lo.length F.lo.length false), (26, .agg [.mslice 4 0 F.lo.length F.lo.length false, .mslice 5 0 F.hi.length F.hi.length false]), (27, .int .i64 0), (31, .int .i64 F.lo.length), (32, .int .i64 i)])
    (fun _ => CSl F) (fun i => F.lo.length - i) (fun i => i ≤ F.lo.length) 0 (Nat.zero_le _) ⟨rfl, rfl, rfl, rfl, rfl, rfl, rfl, trivial⟩ rfl (fun i hi => ?_)
  rcases Nat.lt_or_ge i F.lo.length with hlt | hge
  · have er : at' F.lo (i : Int) = F.lo[i] := at'_get hlt
    have hrl : F.lo[i].length = F.p.length := by
      have := rl i (by omega)
      rw [List.getD_eq_getElem?_getD, List.getElem?_eq_getElem hlt] at this
      exact this
    have hne : F.lo[i] ≠ [] := fun q => by rw [q] at hrl; simp at hrl; omega
    have kr := cI F.lo[i] hne (by omega)
    repeat' ((conv => whnf); first | (refine condP.dec (fun _ => ?_) (fun h => absurd (by omega) h)) | (refine onSome.intro (idx_ms (n := (i : Int)) rfl rfl rfl (by omega) (by omega)) ?_) | (refine onSome.intro (load_ms (l := F.lo) (enc := el) (i := (i : Int)) (v := sl F.lo[i]) rfl rfl (by omega) (by omega) (by rw [er]; rfl)) ?_) | (refine CallP.new kr ?_) | (first | refine condP.dec (fun h => ?_) (fun h => ?_) | refine condP.eq (fun h => ?_) (fun h => ?_) | refine condP.ne (fun h => ?_) (fun h => ?_)) | (refine .i64 (by omega) (by omega) ?_) | (refine onSome.intro (idx_fs rfl rfl (by omega) (by omega) (fun _ => rfl)) ?_) | (refine onSome.intro (load_fs rfl (by omega) (by omega) rfl) ?_) | (refine And.intro rfl ?_))
    conv => whnf
    refine onSome.intro (get_enc (i := i) (by omega)) ?_
    conv => whnf
    refine store_sym ?_
    (repeat ((conv => whnf); refine And.intro rfl ?_)); conv => whnf
    refine .i64 (by omega) (by omega) ?_
    conv => whnf
    exact .more (i + 1) [0, 1, 2, 3, 4, 5] rfl (by omega) (by omega) rfl ⟨.pt rfl, .pt rfl, .ms rfl, .aggL (.cons (.ms rfl) (.cons (.ms rfl) .nil)), .same (.int _ _), .same (.int _ _), .same (.int _ _), trivial⟩
      ⟨.row (.cons (.ms rfl) (.cons (.ms rfl) (.cons (.ms rfl) (.cons (.ms rfl) .nil)))), .same (noS_row (nn_cons .nilslice (nn_cons .nilslice (nn_cons .nilslice (nn_cons .nilslice nn_none))))), .same noS_ints, .same noS_ints, row_anew hlt rfl rfl (fun _ _ h => by cases h), .same noS_rows, trivial⟩
  obtain rfl : i = F.lo.length := by omega
  repeat' ((conv => whnf); first | (refine condP.dec (fun h => absurd h (by omega)) (fun _ => ?_)) | (first | refine condP.dec (fun h => ?_) (fun h => ?_) | refine condP.eq (fun h => ?_) (fun h => ?_) | refine condP.ne (fun h => ?_) (fun h => ?_)) | (refine .i64 (by omega) (by omega) ?_) | (refine onSome.intro (idx_fs rfl rfl (by omega) (by omega) (fun _ => rfl)) ?_) | (refine onSome.intro (load_fs rfl (by omega) (by omega) rfl) ?_) | (refine And.intro rfl ?_))
  refine .done (by simp) ?_
  repeat' ((conv => whnf); first | (refine force_om ?_) | (first | refine condP.dec (fun h => ?_) (fun h => ?_) | refine condP.eq (fun h => ?_) (fun h => ?_) | refine condP.ne (fun h => ?_) (fun h => ?_)) | (refine .i64 (by omega) (by omega) ?_) | (refine onSome.intro (idx_fs rfl rfl (by omega) (by omega) (fun _ => rfl)) ?_) | (refine onSome.intro (load_fs rfl (by omega) (by omega) rfl) ?_) | (refine And.intro rfl ?_))
  refine loop_step ?_
  repeat' ((conv => whnf); first | (refine force_om ?_) | (first | refine condP.dec (fun h => ?_) (fun h => ?_) | refine condP.eq (fun h => ?_) (fun h => ?_) | refine condP.ne (fun h => ?_) (fun h => ?_)) | (refine .i64 (by omega) (by omega) ?_) | (refine onSome.intro (idx_fs rfl rfl (by omega) (by omega) (fun _ => rfl)) ?_) | (refine onSome.intro (load_fs rfl (by omega) (by omega) rfl) ?_) | (refine And.intro rfl ?_))
  refine loop_grow (X := Nat) (fun i => [(1, .ptr 0 0 0), (2, .ptr 1 0 0), (4, .mslice 5 0 F.hi.length F.hi.length false), (26, .agg [.mslice 4 0 F.lo.length F.lo.length false, .mslice 5 0 F.hi.length F.hi.length false]), (27, .int .i64 1), (31, .int .i64 F.hi.length), (32, .int .i64 i)])
    (fun _ => CSl F) (fun i => F.hi.length - i) (fun i => i ≤ F.hi.length) 0 (Nat.zero_le _) ⟨rfl, rfl, rfl, rfl, rfl, rfl, rfl, trivial⟩ rfl (fun i hi => ?_)
  rcases Nat.lt_or_ge i F.hi.length with hlt | hge
  · have er : at' F.hi (i : Int) = F.hi[i] := at'_get hlt
    have hrl : F.hi[i].length = F.p.length := by
      have := rh i (by omega)
      rw [List.getD_eq_getElem?_getD, List.getElem?_eq_getElem hlt] at this
      exact this
    have hne : F.hi[i] ≠ [] := fun q => by rw [q] at hrl; simp at hrl; omega
    have kr := cI F.hi[i] hne (by omega)
    repeat' ((conv => whnf); first | (refine condP.dec (fun _ => ?_) (fun h => absurd (by omega) h)) | (refine onSome.intro (idx_ms (n := (i : Int)) rfl rfl rfl (by omega) (by omega)) ?_) | (refine onSome.intro (load_ms (l := F.hi) (enc := el) (i := (i : Int)) (v := sl F.hi[i]) rfl rfl (by omega) (by omega) (by rw [er]; rfl)) ?_) | (refine CallP.new kr ?_) | (first | refine condP.dec (fun h => ?_) (fun h => ?_) | refine condP.eq (fun h => ?_) (fun h => ?_) | refine condP.ne (fun h => ?_) (fun h => ?_)) | (refine .i64 (by omega) (by omega) ?_) | (refine onSome.intro (idx_fs rfl rfl (by omega) (by omega) (fun _ => rfl)) ?_) | (refine onSome.intro (load_fs rfl (by omega) (by omega) rfl) ?_) | (refine And.intro rfl ?_))
    conv => whnf
    refine onSome.intro (get_enc (i := i) (by omega)) ?_
    conv => whnf
    refine store_sym ?_
    (repeat ((conv => whnf); refine And.intro rfl ?_)); conv => whnf
    refine .i64 (by omega) (by omega) ?_
    conv => whnf
    exact .more (i + 1) [0, 1, 2, 3, 4, 5] rfl (by omega) (by omega) rfl ⟨.pt rfl, .pt rfl, .ms rfl, .aggL (.cons (.ms rfl) (.cons (.ms rfl) .nil)), .same (.int _ _), .same (.int _ _), .same (.int _ _), trivial⟩
      ⟨.row (.cons (.ms rfl) (.cons (.ms rfl) (.cons (.ms rfl) (.cons (.ms rfl) .nil)))), .same (noS_row (nn_cons .nilslice (nn_cons .nilslice (nn_cons .nilslice (nn_cons .nilslice nn_none))))), .same noS_ints, .same noS_ints, .same noS_rows, row_anew hlt rfl rfl (fun _ _ h => by cases h), trivial⟩
  obtain rfl : i = F.hi.length := by omega
  repeat' ((conv => whnf); first | (refine condP.dec (fun h => absurd h (by omega)) (fun _ => ?_)) | (first | refine condP.dec (fun h => ?_) (fun h => ?_) | refine condP.eq (fun h => ?_) (fun h => ?_) | refine condP.ne (fun h => ?_) (fun h => ?_)) | (refine .i64 (by omega) (by omega) ?_) | (refine onSome.intro (idx_fs rfl rfl (by omega) (by omega) (fun _ => rfl)) ?_) | (refine onSome.intro (load_fs rfl (by omega) (by omega) rfl) ?_) | (refine And.intro rfl ?_))
  refine .done (by simp) ?_
  repeat' ((conv => whnf); first | (refine force_om ?_) | (first | refine condP.dec (fun h => ?_) (fun h => ?_) | refine condP.eq (fun h => ?_) (fun h => ?_) | refine condP.ne (fun h => ?_) (fun h => ?_)) | (refine .i64 (by omega) (by omega) ?_) | (refine onSome.intro (idx_fs rfl rfl (by omega) (by omega) (fun _ => rfl)) ?_) | (refine onSome.intro (load_fs rfl (by omega) (by omega) rfl) ?_) | (refine And.intro rfl ?_))
  refine loop_step ?_
  conv => whnf
  exact .intro (.agg [.mslice 2 0 F.g.length F.g.length false, .mslice 3 0 F.p.length F.p.length false, .mslice 4 0 F.lo.length F.lo.length false, .mslice 5 0 F.hi.length F.hi.length false]) (.inl rfl) rfl
    (.aggL (.cons (.whole (sz := 1) (es := F.g.map ei) rfl (fun _ _ h => by cases h) (by simp) (.refl _)) (.cons (.whole (sz := 1) (es := F.p.map ei) rfl (fun _ _ h => by cases h) (by simp) (.refl _)) (.cons (.whole (sz := 1) (es := F.lo.map el) rfl (fun _ _ h => by cases h) (by simp) (.refl _)) (.cons (.whole (sz := 1) (es := F.hi.map el) rfl (fun _ _ h => by cases h) (by simp) (.refl _)) .nil)))))

end Go.Proofs.YtlfaglkkeahamaaGreat.I
