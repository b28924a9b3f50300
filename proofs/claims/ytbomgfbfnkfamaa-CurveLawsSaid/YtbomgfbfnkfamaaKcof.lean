/- The family of a law, as the program makes it. -/
import Derived.Test.YtbomgfbfnkfamaaKof
set_option linter.unusedVariables false
set_option maxHeartbeats 8000000
set_option linter.unusedSimpArgs false
namespace Go.Proofs.Ytbomgfbfnkfamaa.I
open Go.Ideal

/-- A family that is being made, its lines in blocks of their own. -/
def SG (g p : List Int) (a b : IV) : Slot := .live 4 [[.mslice 2 0 g.length g.length false, .mslice 3 0 p.length p.length false, a, b]]
theorem SG_mv {kept : List Nat} {H H' : Heap} {g p : List Int} {a b a' b' : IV} (h2 : kept[2]? = some 2) (h3 : kept[3]? = some 3) (h : Mv kept H H' a a') (k : Mv kept H H' b b') : MvS kept H H' (SG g p a b) (SG g p a' b') := .row (.cons (.ms h2) (.cons (.ms h3) (.cons h (.cons k .nil))))
theorem chk_no {S : Nat → Prop} {s : Slot} {l : List Slot} (h : NonameS s) (k : chkS S l) : chkS S (s :: l) := by
  cases s with
  | live sz es => exact ⟨fun j i hj hi => (h _ (List.getElem_mem hj) _ (List.getElem_mem hi)).inn _, k⟩
  | dead => exact k
  | free => exact h.elim
  | loop => exact h.elim
theorem SG_chk {S : Nat → Prop} {g p : List Int} {a b : IV} {l : List Slot} (h2 : S 2) (h3 : S 3) (ha : Inn S a) (hb : Inn S b) (k : chkS S l) : chkS S (SG g p a b :: l) := by
  refine ⟨fun j i hj hi => ?_, k⟩
  obtain rfl : j = 0 := by simpa using hj
  have : ∀ x ∈ [IV.mslice 2 0 g.length g.length false, .mslice 3 0 p.length p.length false, a, b], Inn S x := by
    intro x hx
    simp only [List.mem_cons, List.not_mem_nil, or_false] at hx
    rcases hx with rfl | rfl | rfl | rfl
    · exact .mslice _ _ _ _ _ h2
    · exact .mslice _ _ _ _ _ h3
    · exact ha
    · exact hb
  exact this _ (List.getElem_mem hi)
theorem Of_ok {p0 p1 g0 g1 s0 s1 f0 f1 q0 q1 : Int} (g p : List Int) (hgl : g.length ≤ 1000000) (hpl : p.length ≤ 1000000) (H : Heap) :
    Ev T (.call (.func (.func 52) [] []) [lawI p0 p1 g0 g1 s0 s1 f0 f1 q0 q1, sl g, sl p] H) (.call (ofRes (ofErr (lawErr p0 p1 g0 g1 s0 s1 f0 f1 q0 q1) g p) g p (tabOf (cLo p0 g1 s0 f0 q0) g p) (tabOf (cHi p1 g0 s1 f1 q1) g p)) H) := by
  refine run_pure T52 (ofRes_no ..) (nn_cons (lawI_no ..) (nn_cons (sl_no _) (nn_cons (sl_no _) nn_none))) ?_ H
  have hC := CheckLaw_ok p0 p1 g0 g1 s0 s1 f0 f1 q0 q1
  have hz := @lawErr_zero p0 p1 g0 g1 s0 s1 f0 f1 q0 q1
  have hL := lines_ok g p (by omega) (by omega)
  have hlz := @linesErr_zero g p
  have hF : ∃ F G, F = cLo p0 g1 s0 f0 q0 ∧ G = cHi p1 g0 s1 f1 q1 := ⟨_, _, rfl, rfl⟩
  obtain ⟨F, G, hF, hG⟩ := hF
  have hcur : ∀ a b : Int, LawOk p0 p1 g0 g1 s0 s1 f0 f1 q0 q1 → Volts a b → ∀ H, Ev T (.call (.func (.func 80) [] []) [lawI p0 p1 g0 g1 s0 s1 f0 f1 q0 q1, .int .i64 a, .int .i64 b] H) (.call (rgI (F a b) (G a b)) H) := fun a b h1 h2 H => by rw [hF, hG]; exact current_ok h1 h2 H
  have hx : ∃ r e1 e2, r = ofRes (ofErr (lawErr p0 p1 g0 g1 s0 s1 f0 f1 q0 q1) g p) g p (tabOf F g p) (tabOf G g p) ∧ e1 = lawErr p0 p1 g0 g1 s0 s1 f0 f1 q0 q1 ∧ e2 = linesErr g p := ⟨_, _, _, rfl, rfl, rfl⟩
  obtain ⟨r, e1, e2, hr, he1, he2⟩ := hx
  rw [← hF, ← hG, ← hr]
  clear hF hG
  unfold ofErr at hr
  rw [← he1] at hr hC hz
  rw [← he2] at hr hL hlz
  clear he1 he2
  conv => whnf
  refine CallP.pure hC ?_
  conv => whnf
  refine condP.ne (fun h => ?_) (fun h => ?_)
  · rw [if_pos h] at hr
    conv => whnf
    refine .intro (.tuple [.agg [.nilslice, .nilslice, .nilslice, .nilslice], .int .i64 e1]) (.inl rfl) rfl ?_
    rw [hr, ofRes, if_neg h]
    exact .tupleL (.cons fam0_frz (.cons (.refl _) .nil))
  have law := hz.mp h
  rw [if_neg (by simpa using h)] at hr
  conv => whnf
  refine CallP.pure hL ?_
  conv => whnf
  refine condP.ne (fun h => ?_) (fun h => ?_)
  · conv => whnf
    refine .intro (.tuple [.agg [.nilslice, .nilslice, .nilslice, .nilslice], .int .i64 e2]) (.inl rfl) rfl ?_
    rw [hr, ofRes, if_neg h]
    exact .tupleL (.cons fam0_frz (.cons (.refl _) .nil))
  rw [h, ofRes, if_pos rfl] at hr
  have hlz := hlz h
  obtain ⟨hg, hp, n0, n1, m0, m1⟩ := hlz
  have len1 : (g.map ei).length = g.length := List.length_map ..
  have len2 : (p.map ei).length = p.length := List.length_map ..
  conv => whnf
  refine .nil (.inl rfl) rfl (fun q => by have := congrArg List.length q; rw [List.length_map, List.length_nil] at this; omega) ei_len ei_ok (n' := g.length) len1 (by omega) ?_
  conv => whnf
  refine .nil (.inl rfl) rfl (fun q => by have := congrArg List.length q; rw [List.length_map, List.length_nil] at this; omega) ei_len ei_ok (n' := p.length) len2 (by omega) ?_
  conv => whnf
  refine loop_grow (X := Nat) (fun i => [(2, sl p), (3, .ptr 0 0 0), (6, .ptr 1 0 0), (10, .ptr 4 0 0), (36, sl g), (37, .int .i64 g.length), (38, .int .i64 i)])
    (fun i => match i with
      | 0 => [SL p0 p1 g0 g1 s0 s1 f0 f1 q0 q1, SR, .live 1 (g.map ei), .live 1 (p.map ei), SG g p .nilslice .nilslice]
      | i + 1 => [SL p0 p1 g0 g1 s0 s1 f0 f1 q0 q1, SR, .live 1 (g.map ei), .live 1 (p.map ei), SG g p (.mslice 5 0 (i + 1) (i + 1) false) (.mslice 6 0 (i + 1) (i + 1) false), .live 1 ((tabN F g p (i + 1)).map el), .live 1 ((tabN G g p (i + 1)).map el)])
    (fun i => g.length - i) (fun i => i ≤ g.length) 0
    (Nat.zero_le _) ⟨rfl, rfl, rfl, rfl, rfl, by rw [← len1]; rfl, rfl, trivial⟩ rfl (fun i hi => ?_)
  rcases Nat.lt_or_ge i g.length with hlt | hge
  rotate_left
  · obtain rfl : i = g.length := by omega
    have hgn : ∃ j, g.length = j + 1 := ⟨g.length - 1, by omega⟩
    obtain ⟨j, hgn⟩ := hgn
    have t1 : tabOf F g p = tabN F g p (j + 1) := by rw [← hgn, tabN_all]
    have t2 : tabOf G g p = tabN G g p (j + 1) := by rw [← hgn, tabN_all]
    have l1 := tabN_len (F := F) (p := p) (g := g) (i := j + 1) (by omega)
    have l2 := tabN_len (F := G) (p := p) (g := g) (i := j + 1) (by omega)
    rw [t1, t2] at hr
    rw [hgn]
    dsimp only
    conv => whnf
    refine condP.dec (fun h => absurd h (by omega)) (fun _ => ?_)
    conv => whnf
    refine .done (by simp) ?_
    conv => whnf
    refine .intro (.tuple [.agg [.mslice 2 0 g.length g.length false, .mslice 3 0 p.length p.length false, .mslice 5 0 (j + 1) (j + 1) false, .mslice 6 0 (j + 1) (j + 1) false], .int .i64 0]) (.inl rfl) rfl ?_
    rw [hr]
    exact .tupleL (.cons (.aggL (.cons (.ints (sz := 1) rfl (fun _ _ h => by cases h) rfl) (.cons (.ints (sz := 1) rfl (fun _ _ h => by cases h) rfl) (.cons (.whole (sz := 1) rfl (fun _ _ h => by cases h) (by rw [List.length_map, l1]) (.refl _)) (.cons (.whole (sz := 1) rfl (fun _ _ h => by cases h) (by rw [List.length_map, l2]) (.refl _)) .nil))))) (.cons (.refl _) .nil))
  have fg : at' g (i : Int) = nth g i := rfl
  have bg := hg.bnd i hlt
  have c1 := tabN_succ (F := F) (p := p) hlt
  have c2 := tabN_succ (F := G) (p := p) hlt
  have l1 := tabN_len (F := F) (p := p) (g := g) (i := i + 1) (by omega)
  have l2 := tabN_len (F := G) (p := p) (g := g) (i := i + 1) (by omega)
  cases i with
  | zero =>
    dsimp only
    conv => whnf
    refine condP.dec (fun _ => ?_) (fun h => absurd (by omega) h)
    repeat' ((conv => whnf); first | (first | refine condP.dec (fun h => ?_) (fun h => ?_) | refine condP.eq (fun h => ?_) (fun h => ?_) | refine condP.ne (fun h => ?_) (fun h => ?_)) | (refine .i64 (by omega) (by omega) ?_) | (refine onSome.intro (idx_fs rfl rfl (by omega) (by omega) (fun _ => rfl)) ?_) | (refine onSome.intro (load_fs rfl (by omega) (by omega) rfl) ?_) | (refine And.intro rfl ?_))
    conv => whnf
    refine .make (n := p.length) (r := (rowZ F (nth g 0) p 0).map ei) (by show IV.int _ _ = _; rw [← len2]) (by show IV.int _ _ = _; rw [← len2]) (by omega) (by omega) (by rw [rowZ_zero, List.map_replicate]; rfl) ?_
    conv => whnf
    refine .make (n := p.length) (r := (rowZ G (nth g 0) p 0).map ei) (by show IV.int _ _ = _; rw [← len2]) (by show IV.int _ _ = _; rw [← len2]) (by omega) (by omega) (by rw [rowZ_zero, List.map_replicate]; rfl) ?_
    conv => whnf
    refine loop_rule (X := Nat) (fun k => [(2, sl p), (3, .ptr 0 0 0), (6, .ptr 1 0 0), (10, .ptr 4 0 0), (36, sl g), (37, .int .i64 g.length), (38, .int .i64 0), (12, .int .i64 (nth g 0)), (13, .mslice 5 0 p.length p.length true), (14, .mslice 6 0 p.length p.length true), (48, sl p), (49, .int .i64 p.length), (50, .int .i64 k)])
      (fun k => [SL p0 p1 g0 g1 s0 s1 f0 f1 q0 q1, SR, .live 1 (g.map ei), .live 1 (p.map ei), SG g p .nilslice .nilslice, .live 1 ((rowZ F (nth g 0) p k).map ei), .live 1 ((rowZ G (nth g 0) p k).map ei)])
      (fun k => p.length - k) (fun k => k ≤ p.length) 0
      (Nat.zero_le _) ⟨rfl, rfl, rfl, rfl, rfl, rfl, rfl, rfl, rfl, rfl, rfl, by rw [← len2]; rfl, rfl, trivial⟩ rfl (fun _ _ => rfl) (fun k hk => ?_)
    have z1 := rowZ_len (F := F) (a := nth g 0) hk
    have z2 := rowZ_len (F := G) (a := nth g 0) hk
    rcases Nat.lt_or_ge k p.length with hkt | hkg
    · have fp : at' p (k : Int) = nth p k := rfl
      have bp := hp.bnd k hkt
      have hc := hcur (nth g 0) (nth p k) law ⟨bg.1, bg.2, bp.1, bp.2⟩
      have d1 := rowZ_set (F := F) (a := nth g 0) hkt
      have d2 := rowZ_set (F := G) (a := nth g 0) hkt
      conv => whnf
      refine condP.dec (fun _ => ?_) (fun h => absurd (by omega) h)
      conv => whnf
      refine onSome.intro (idx_fs rfl rfl (by omega) (by omega) (fun _ => rfl)) ?_
      conv => whnf
      refine onSome.intro (load_fs (i := (k : Int)) (v := .int .i64 (nth p k)) rfl (by omega) (by omega) rfl) ?_
      conv => whnf
      refine CallP.pure hc ?_
      conv => whnf
      refine onSome.intro (idx_ms rfl rfl rfl (by omega) (by omega)) ?_
      conv => whnf
      refine onSome.intro (get_ei (i := k) (by omega)) ?_
      conv => whnf
      refine store_ei (v := F (nth g 0) (nth p k)) rfl d1 ?_
      (repeat ((conv => whnf); refine And.intro rfl ?_)); conv => whnf
      refine onSome.intro (idx_ms rfl rfl rfl (by omega) (by omega)) ?_
      conv => whnf
      refine onSome.intro (get_ei (i := k) (by omega)) ?_
      conv => whnf
      refine store_ei (v := G (nth g 0) (nth p k)) rfl d2 ?_
      repeat' ((conv => whnf); first | (first | refine condP.dec (fun h => ?_) (fun h => ?_) | refine condP.eq (fun h => ?_) (fun h => ?_) | refine condP.ne (fun h => ?_) (fun h => ?_)) | (refine .i64 (by omega) (by omega) ?_) | (refine onSome.intro (idx_fs rfl rfl (by omega) (by omega) (fun _ => rfl)) ?_) | (refine onSome.intro (load_fs rfl (by omega) (by omega) rfl) ?_) | (refine And.intro rfl ?_))
      conv => whnf
      exact .more (k + 1) rfl hkt (by omega) ⟨rfl, rfl, rfl, rfl, rfl, rfl, rfl, rfl, rfl, rfl, rfl, rfl, rfl, trivial⟩ rfl
        ⟨(sl_no _).inn _, .ptr _ _ _ (by simp), .ptr _ _ _ (by simp), .ptr _ _ _ (by simp), (sl_no _).inn _, .int _ _, .int _ _, .int _ _, .mslice _ _ _ _ _ (by simp), .mslice _ _ _ _ _ (by simp), (sl_no _).inn _, .int _ _, .int _ _, trivial⟩ (chk_no (SL_no _ _ _ _ _ _ _ _ _ _) (chk_no SR_no (chk_no noS_ints (chk_no noS_ints (SG_chk (by simp) (by simp) (nn_nil.inn _) (nn_nil.inn _) (chk_no noS_ints (chk_no noS_ints trivial)))))))
    · obtain rfl : k = p.length := by omega
      have r1 := rowZ_all (F := F) (a := nth g 0) (p := p)
      have r2 := rowZ_all (F := G) (a := nth g 0) (p := p)
      rw [r1, r2]
      conv => whnf
      refine condP.dec (fun h => absurd h (by omega)) (fun _ => ?_)
      conv => whnf
      refine .done (by simp) ?_
      conv => whnf
      refine .nil (.inl rfl) rfl (by simp) (fun e he => by simp at he; subst he; rfl) (fun e he c hc => by simp at he; subst he; simp at hc; subst hc; rfl) (n' := 1) rfl (by omega) ?_
      (repeat ((conv => whnf); refine And.intro rfl ?_)); conv => whnf
      refine .nil (.inl rfl) rfl (by simp) (fun e he => by simp at he; subst he; rfl) (fun e he c hc => by simp at he; subst he; simp at hc; subst hc; rfl) (n' := 1) rfl (by omega) ?_
      repeat' ((conv => whnf); first | (first | refine condP.dec (fun h => ?_) (fun h => ?_) | refine condP.eq (fun h => ?_) (fun h => ?_) | refine condP.ne (fun h => ?_) (fun h => ?_)) | (refine .i64 (by omega) (by omega) ?_) | (refine onSome.intro (idx_fs rfl rfl (by omega) (by omega) (fun _ => rfl)) ?_) | (refine onSome.intro (load_fs rfl (by omega) (by omega) rfl) ?_) | (refine And.intro rfl ?_))
      conv => whnf
      exact .more 1 [0, 1, 2, 3, 4, 8, 10] rfl hlt (by omega) rfl ⟨.same (sl_no _), .pt rfl, .pt rfl, .pt rfl, .same (sl_no _), .same (.int _ _), .same (.int _ _), trivial⟩ ⟨.same (SL_no _ _ _ _ _ _ _ _ _ _), .same SR_no, .same noS_ints, .same noS_ints, SG_mv rfl rfl (.ms rfl) (.ms rfl),
        .nn noS_rows (row_frz (rows := tabN F g p 0) rfl (fun _ _ h => by cases h) (by simp) (by rw [c1])).slot, .nn noS_rows (row_frz (rows := tabN G g p 0) rfl (fun _ _ h => by cases h) (by simp) (by rw [c2])).slot, trivial⟩
  | succ i =>
    have l3 := tabN_len (F := F) (p := p) (g := g) (i := i + 1) (by omega)
    have l4 := tabN_len (F := G) (p := p) (g := g) (i := i + 1) (by omega)
    dsimp only
    conv => whnf
    refine condP.dec (fun _ => ?_) (fun h => absurd (by omega) h)
    repeat' ((conv => whnf); first | (first | refine condP.dec (fun h => ?_) (fun h => ?_) | refine condP.eq (fun h => ?_) (fun h => ?_) | refine condP.ne (fun h => ?_) (fun h => ?_)) | (refine .i64 (by omega) (by omega) ?_) | (refine onSome.intro (idx_fs rfl rfl (by omega) (by omega) (fun _ => rfl)) ?_) | (refine onSome.intro (load_fs rfl (by omega) (by omega) rfl) ?_) | (refine And.intro rfl ?_))
    conv => whnf
    refine .make (n := p.length) (r := (rowZ F (nth g (i + 1)) p 0).map ei) (by show IV.int _ _ = _; rw [← len2]) (by show IV.int _ _ = _; rw [← len2]) (by omega) (by omega) (by rw [rowZ_zero, List.map_replicate]; rfl) ?_
    conv => whnf
    refine .make (n := p.length) (r := (rowZ G (nth g (i + 1)) p 0).map ei) (by show IV.int _ _ = _; rw [← len2]) (by show IV.int _ _ = _; rw [← len2]) (by omega) (by omega) (by rw [rowZ_zero, List.map_replicate]; rfl) ?_
    conv => whnf
    refine loop_rule (X := Nat) (fun k => [(2, sl p), (3, .ptr 0 0 0), (6, .ptr 1 0 0), (10, .ptr 4 0 0), (36, sl g), (37, .int .i64 g.length), (38, .int .i64 ((i + 1 : Nat) : Int)), (12, .int .i64 (nth g (i + 1))), (13, .mslice 7 0 p.length p.length true), (14, .mslice 8 0 p.length p.length true), (48, sl p), (49, .int .i64 p.length), (50, .int .i64 k)])
      (fun k => [SL p0 p1 g0 g1 s0 s1 f0 f1 q0 q1, SR, .live 1 (g.map ei), .live 1 (p.map ei), SG g p (.mslice 5 0 (i + 1) (i + 1) false) (.mslice 6 0 (i + 1) (i + 1) false), .live 1 ((tabN F g p (i + 1)).map el), .live 1 ((tabN G g p (i + 1)).map el), .live 1 ((rowZ F (nth g (i + 1)) p k).map ei), .live 1 ((rowZ G (nth g (i + 1)) p k).map ei)])
      (fun k => p.length - k) (fun k => k ≤ p.length) 0
      (Nat.zero_le _) ⟨rfl, rfl, rfl, rfl, rfl, rfl, rfl, rfl, rfl, rfl, rfl, by rw [← len2]; rfl, rfl, trivial⟩ rfl (fun _ _ => rfl) (fun k hk => ?_)
    have z1 := rowZ_len (F := F) (a := nth g (i + 1)) hk
    have z2 := rowZ_len (F := G) (a := nth g (i + 1)) hk
    rcases Nat.lt_or_ge k p.length with hkt | hkg
    · have fp : at' p (k : Int) = nth p k := rfl
      have bp := hp.bnd k hkt
      have hc := hcur (nth g (i + 1)) (nth p k) law ⟨bg.1, bg.2, bp.1, bp.2⟩
      have d1 := rowZ_set (F := F) (a := nth g (i + 1)) hkt
      have d2 := rowZ_set (F := G) (a := nth g (i + 1)) hkt
      conv => whnf
      refine condP.dec (fun _ => ?_) (fun h => absurd (by omega) h)
      conv => whnf
      refine onSome.intro (idx_fs rfl rfl (by omega) (by omega) (fun _ => rfl)) ?_
      conv => whnf
      refine onSome.intro (load_fs (i := (k : Int)) (v := .int .i64 (nth p k)) rfl (by omega) (by omega) rfl) ?_
      conv => whnf
      refine CallP.pure hc ?_
      conv => whnf
      refine onSome.intro (idx_ms rfl rfl rfl (by omega) (by omega)) ?_
      conv => whnf
      refine onSome.intro (get_ei (i := k) (by omega)) ?_
      conv => whnf
      refine store_ei (v := F (nth g (i + 1)) (nth p k)) rfl d1 ?_
      (repeat ((conv => whnf); refine And.intro rfl ?_)); conv => whnf
      refine onSome.intro (idx_ms rfl rfl rfl (by omega) (by omega)) ?_
      conv => whnf
      refine onSome.intro (get_ei (i := k) (by omega)) ?_
      conv => whnf
      refine store_ei (v := G (nth g (i + 1)) (nth p k)) rfl d2 ?_
      repeat' ((conv => whnf); first | (first | refine condP.dec (fun h => ?_) (fun h => ?_) | refine condP.eq (fun h => ?_) (fun h => ?_) | refine condP.ne (fun h => ?_) (fun h => ?_)) | (refine .i64 (by omega) (by omega) ?_) | (refine onSome.intro (idx_fs rfl rfl (by omega) (by omega) (fun _ => rfl)) ?_) | (refine onSome.intro (load_fs rfl (by omega) (by omega) rfl) ?_) | (refine And.intro rfl ?_))
      conv => whnf
      exact .more (k + 1) rfl hkt (by omega) ⟨rfl, rfl, rfl, rfl, rfl, rfl, rfl, rfl, rfl, rfl, rfl, rfl, rfl, trivial⟩ rfl
        ⟨(sl_no _).inn _, .ptr _ _ _ (by simp), .ptr _ _ _ (by simp), .ptr _ _ _ (by simp), (sl_no _).inn _, .int _ _, .int _ _, .int _ _, .mslice _ _ _ _ _ (by simp), .mslice _ _ _ _ _ (by simp), (sl_no _).inn _, .int _ _, .int _ _, trivial⟩ (chk_no (SL_no _ _ _ _ _ _ _ _ _ _) (chk_no SR_no (chk_no noS_ints (chk_no noS_ints (SG_chk (by simp) (by simp) (.mslice _ _ _ _ _ (by simp)) (.mslice _ _ _ _ _ (by simp)) (chk_no noS_rows (chk_no noS_rows (chk_no noS_ints (chk_no noS_ints trivial)))))))))
    · obtain rfl : k = p.length := by omega
      have r1 := rowZ_all (F := F) (a := nth g (i + 1)) (p := p)
      have r2 := rowZ_all (F := G) (a := nth g (i + 1)) (p := p)
      rw [r1, r2]
      conv => whnf
      refine condP.dec (fun h => absurd h (by omega)) (fun _ => ?_)
      conv => whnf
      refine .done (by simp) ?_
      conv => whnf
      refine .grow rfl rfl (by rw [List.length_map, l3]) (es' := [[.mslice 7 0 p.length p.length true]]) rfl (by simp) (fun e he => by simp at he; subst he; rfl) (fun e he c hc => by simp at he; subst he; simp at hc; subst hc; rfl) (r := (tabN F g p (i + 1)).map el ++ [[.mslice 7 0 p.length p.length true]]) rfl (n' := i + 1 + 1) (by rw [List.length_append, List.length_map, l3]; rfl) (by omega) ?_
      (repeat ((conv => whnf); refine And.intro rfl ?_)); conv => whnf
      refine .grow rfl rfl (by rw [List.length_map, l4]) (es' := [[.mslice 8 0 p.length p.length true]]) rfl (by simp) (fun e he => by simp at he; subst he; rfl) (fun e he c hc => by simp at he; subst he; simp at hc; subst hc; rfl) (r := (tabN G g p (i + 1)).map el ++ [[.mslice 8 0 p.length p.length true]]) rfl (n' := i + 1 + 1) (by rw [List.length_append, List.length_map, l4]; rfl) (by omega) ?_
      repeat' ((conv => whnf); first | (first | refine condP.dec (fun h => ?_) (fun h => ?_) | refine condP.eq (fun h => ?_) (fun h => ?_) | refine condP.ne (fun h => ?_) (fun h => ?_)) | (refine .i64 (by omega) (by omega) ?_) | (refine onSome.intro (idx_fs rfl rfl (by omega) (by omega) (fun _ => rfl)) ?_) | (refine onSome.intro (load_fs rfl (by omega) (by omega) rfl) ?_) | (refine And.intro rfl ?_))
      conv => whnf
      exact .more (i + 1 + 1) [0, 1, 2, 3, 4, 10, 12] rfl hlt (by omega) rfl ⟨.same (sl_no _), .pt rfl, .pt rfl, .pt rfl, .same (sl_no _), .same (.int _ _), .same (.int _ _), trivial⟩ ⟨.same (SL_no _ _ _ _ _ _ _ _ _ _), .same SR_no, .same noS_ints, .same noS_ints, SG_mv rfl rfl (.ms rfl) (.ms rfl),
        .nn noS_rows (row_frz (rows := tabN F g p (i + 1)) rfl (fun _ _ h => by cases h) (by simp) (by rw [c1])).slot, .nn noS_rows (row_frz (rows := tabN G g p (i + 1)) rfl (fun _ _ h => by cases h) (by simp) (by rw [c2])).slot, trivial⟩

end Go.Proofs.Ytbomgfbfnkfamaa.I
