/- The family of a law, as the reference makes it. -/
import Derived.Test.YtlfaglkkeahamaaGreatKown
import Derived.Test.YtlfaglkkeahamaaGreatKrat
set_option linter.unusedVariables false
set_option maxHeartbeats 8000000
set_option linter.unusedSimpArgs false
namespace Go.Proofs.YtlfaglkkeahamaaGreat.I
open Go.Ideal

theorem ints_ok (l : List Int) (hl : l.length ≤ 1000000) (H : Heap) : Ev T (.call (.func (.func 143) [] []) [sl l] H) (.call (sl l) H) := by
  refine run_pure T143 (sl_no _) (nn_cons (sl_no _) nn_none) ?_ H
  cases l with
  | nil =>
    conv => whnf
    refine .none rfl rfl rfl ?_
    conv => whnf
    exact .intro .nilslice (.inl rfl) rfl .nil
  | cons a l =>
    conv => whnf
    refine .nil (.inl rfl) rfl (by simp) ei_len ei_ok (n' := l.length + 1) (by simp) (by simp at hl; omega) ?_
    conv => whnf
    exact .intro (.mslice 0 0 (l.length + 1) (l.length + 1) false) (.inl rfl) rfl (.ints (sz := 1) rfl (fun _ _ h => by cases h) rfl)

/-- A block with a law. -/
def SL (p0 p1 g0 g1 s0 s1 f0 f1 q0 q1 : Int) : Slot := .live 10 [[.int .i64 p0, .int .i64 p1, .int .i64 g0, .int .i64 g1, .int .i64 s0, .int .i64 s1, .int .i64 f0, .int .i64 f1, .int .i64 q0, .int .i64 q1]]
theorem SL_no (p0 p1 g0 g1 s0 s1 f0 f1 q0 q1 : Int) : NonameS (SL p0 p1 g0 g1 s0 s1 f0 f1 q0 q1) := noS_row (by simp [nn_int])
/-- A block with a family that is not yet made. -/
def SR : Slot := .live 4 [[.nilslice, .nilslice, .nilslice, .nilslice]]
theorem nn_nil : Noname .nilslice := .nilslice
theorem SR_no : NonameS SR := noS_row (nn_cons nn_nil (nn_cons nn_nil (nn_cons nn_nil (nn_cons nn_nil nn_none))))
/-- .. that is being made. -/
def SM (g p : List Int) (a b : IV) : Slot := .live 4 [[sl g, sl p, a, b]]
theorem SM_mv {kept : List Nat} {H H' : Heap} {g p : List Int} {a b a' b' : IV} (h : Mv kept H H' a a') (k : Mv kept H H' b b') : MvS kept H H' (SM g p a b) (SM g p a' b') := .row (.cons (.same (sl_no _)) (.cons (.same (sl_no _)) (.cons h (.cons k .nil))))

/-- A family, or an error. -/
def ofRes (e : Int) (g p : List Int) (lo hi : List (List Int)) : IV := if e = 0 then .tuple [famI g p lo hi, .int .i64 0] else .tuple [famI [] [] [] [], .int .i64 e]
theorem ofRes_no (e : Int) (g p : List Int) (lo hi : List (List Int)) : Noname (ofRes e g p lo hi) := by
  unfold ofRes
  split <;> exact nn_tuple (nn_cons (famI_no ..) (nn_cons (nn_int _ _) nn_none))
/-- The error of a law and lines. -/
def ofErr (e : Int) (g p : List Int) : Int := if e ≠ 0 then e else linesErr g p
theorem fam0_frz {H H' : Heap} : Frz H H' (.agg [.nilslice, .nilslice, .nilslice, .nilslice]) (famI [] [] [] []) := .aggL (.cons .nil (.cons .nil (.cons .nil (.cons .nil .nil))))
theorem row_frz {H H' : Heap} {rows : List (List Int)} {b n lb : Nat} {ex : Bool} {r : List Int} {t : List (List Int)} (hb : H b = .live 1 (r.map ei)) (hb' : ∀ sz e, H' b ≠ .live sz e) (hn : n = r.length) (ht : t = rows ++ [r]) :
    FzE H H' (rows.map el ++ [[.mslice b 0 n lb ex]]) (t.map el) := by
  subst ht
  rw [List.map_append]
  exact (FzE.refl _).append (.cons (.cons (.ints hb hb' hn) .nil) .nil)

theorem rOf_ok {p0 p1 g0 g1 s0 s1 f0 f1 q0 q1 : Int} (g p : List Int) (hgl : g.length ≤ 1000000) (hpl : p.length ≤ 1000000) (H : Heap) :
    Ev T (.call (.func (.func 131) [] []) [lawI p0 p1 g0 g1 s0 s1 f0 f1 q0 q1, sl g, sl p] H) (.call (ofRes (ofErr (lawErr p0 p1 g0 g1 s0 s1 f0 f1 q0 q1) g p) g p (tabOf (cLo p0 g1 s0 f0 q0) g p) (tabOf (cHi p1 g0 s1 f1 q1) g p)) H) := by
  refine run_pure T131 (ofRes_no ..) (nn_cons (lawI_no ..) (nn_cons (sl_no _) (nn_cons (sl_no _) nn_none))) ?_ H
  have hC := rCheckLaw_ok p0 p1 g0 g1 s0 s1 f0 f1 q0 q1
  have hz := @lawErr_zero p0 p1 g0 g1 s0 s1 f0 f1 q0 q1
  have hL := rlines_ok g p (by omega) (by omega)
  have hlz := @linesErr_zero g p
  have hF : ∃ F G, F = cLo p0 g1 s0 f0 q0 ∧ G = cHi p1 g0 s1 f1 q1 := ⟨_, _, rfl, rfl⟩
  obtain ⟨F, G, hF, hG⟩ := hF
  have hcur : ∀ a b : Int, LawOk p0 p1 g0 g1 s0 s1 f0 f1 q0 q1 → Volts a b → ∀ H, Ev T (.call (.func (.func 173) [] []) [lawI p0 p1 g0 g1 s0 s1 f0 f1 q0 q1, .int .i64 a, .int .i64 b] H) (.call (rgI (F a b) (G a b)) H) := fun a b h1 h2 H => by rw [hF, hG]; exact rcurrent_ok h1 h2 H
  have hx : ∃ r e1 e2, r = ofRes (ofErr (lawErr p0 p1 g0 g1 s0 s1 f0 f1 q0 q1) g p) g p (tabOf F g p) (tabOf G g p) ∧ e1 = lawErr p0 p1 g0 g1 s0 s1 f0 f1 q0 q1 ∧ e2 = linesErr g p := ⟨_, _, _, rfl, rfl, rfl⟩
  obtain ⟨r, e1, e2, hr, he1, he2⟩ := hx
  rw [← hF, ← hG, ← hr]
  clear hF hG
  unfold ofErr at hr
  rw [← he1] at hr hC hz
  rw [← he2] at hr hL hlz
  clear he1 he2
  conv => whnf
  refine CallP.pure hC ?_
  conv => whnf
  refine condP.ne (fun h => ?_) (fun h => ?_)
  · rw [if_pos h] at hr
    conv => whnf
    refine .intro (.tuple [.agg [.nilslice, .nilslice, .nilslice, .nilslice], .int .i64 e1]) (.inl rfl) rfl ?_
    rw [hr, ofRes, if_neg h]
    exact .tupleL (.cons fam0_frz (.cons (.refl _) .nil))
  have law := hz.mp h
  rw [if_neg (by simpa using h)] at hr
  conv => whnf
  refine CallP.pure hL ?_
  conv => whnf
  refine condP.ne (fun h => ?_) (fun h => ?_)
  · conv => whnf
    refine .intro (.tuple [.agg [.nilslice, .nilslice, .nilslice, .nilslice], .int .i64 e2]) (.inl rfl) rfl ?_
    rw [hr, ofRes, if_neg h]
    exact .tupleL (.cons fam0_frz (.cons (.refl _) .nil))
  rw [h, ofRes, if_pos rfl] at hr
  have hlz := hlz h
  obtain ⟨hg, hp, n0, n1, m0, m1⟩ := hlz
  have len1 : (g.map ei).length = g.length := List.length_map ..
  have len2 : (p.map ei).length = p.length := List.length_map ..
  conv => whnf
  refine CallP.pure (ints_ok g hgl) ?_
  conv => whnf
  refine CallP.pure (ints_ok p hpl) ?_
  conv => whnf
  refine loop_grow (X := Nat) (fun i => [(1, sl g), (2, sl p), (3, .ptr 0 0 0), (6, .ptr 1 0 0), (10, .ptr 2 0 0), (11, .int .i64 i)])
    (fun i => match i with
      | 0 => [SL p0 p1 g0 g1 s0 s1 f0 f1 q0 q1, SR, SM g p .nilslice .nilslice]
      | i + 1 => [SL p0 p1 g0 g1 s0 s1 f0 f1 q0 q1, SR, SM g p (.mslice 3 0 (i + 1) (i + 1) false) (.mslice 4 0 (i + 1) (i + 1) false), .live 1 ((tabN F g p (i + 1)).map el), .live 1 ((tabN G g p (i + 1)).map el)])
    (fun i => g.length - i) (fun i => i ≤ g.length) 0
    (Nat.zero_le _) ⟨rfl, rfl, rfl, rfl, rfl, rfl, trivial⟩ rfl (fun i hi => ?_)
  rcases Nat.lt_or_ge i g.length with hlt | hge
  rotate_left
  · obtain rfl : i = g.length := by omega
    generalize hgn : g.length = gn at *
    cases gn with
    | zero => omega
    | succ i =>
      dsimp only
      conv => whnf
      refine condP.dec (fun h => absurd h (by omega)) (fun _ => ?_)
      conv => whnf
      refine .done (by simp) ?_
      conv => whnf
      refine .intro (.tuple [.agg [sl g, sl p, .mslice 3 0 (i + 1) (i + 1) false, .mslice 4 0 (i + 1) (i + 1) false], .int .i64 0]) (.inl rfl) rfl ?_
      rw [hr]
      have t1 : tabOf F g p = tabN F g p (i + 1) := by rw [← hgn, tabN_all]
      have t2 : tabOf G g p = tabN G g p (i + 1) := by rw [← hgn, tabN_all]
      have l1 := tabN_len (F := F) (p := p) (g := g) (i := i + 1) (by omega)
      have l2 := tabN_len (F := G) (p := p) (g := g) (i := i + 1) (by omega)
      rw [t1, t2]
      exact .tupleL (.cons (.aggL (.cons (.refl _) (.cons (.refl _) (.cons (.whole (sz := 1) rfl (fun _ _ h => by cases h) (by rw [List.length_map, l1]) (.refl _)) (.cons (.whole (sz := 1) rfl (fun _ _ h => by cases h) (by rw [List.length_map, l2]) (.refl _)) .nil))))) (.cons (.refl _) .nil))
  have fg : at' g (i : Int) = nth g i := rfl
  have bg := hg.bnd i hlt
  have c1 := tabN_succ (F := F) (p := p) hlt
  have c2 := tabN_succ (F := G) (p := p) hlt
  have l1 := tabN_len (F := F) (p := p) (g := g) (i := i + 1) (by omega)
  have l2 := tabN_len (F := G) (p := p) (g := g) (i := i + 1) (by omega)
  cases i with
  | zero =>
    dsimp only
    conv => whnf
    refine condP.dec (fun _ => ?_) (fun h => absurd (by omega) h)
    conv => whnf
    refine loop_grow (X := Nat) (fun k => match k with
        | 0 => [(1, sl g), (2, sl p), (3, .ptr 0 0 0), (6, .ptr 1 0 0), (10, .ptr 2 0 0), (11, .int .i64 0), (12, .nilslice), (13, .nilslice), (14, .int .i64 0)]
        | k + 1 => [(1, sl g), (2, sl p), (3, .ptr 0 0 0), (6, .ptr 1 0 0), (10, .ptr 2 0 0), (11, .int .i64 0), (12, .mslice 3 0 (k + 1) (k + 1) false), (13, .mslice 4 0 (k + 1) (k + 1) false), (14, .int .i64 ((k + 1 : Nat) : Int))])
      (fun k => match k with
        | 0 => [SL p0 p1 g0 g1 s0 s1 f0 f1 q0 q1, SR, SM g p .nilslice .nilslice]
        | k + 1 => [SL p0 p1 g0 g1 s0 s1 f0 f1 q0 q1, SR, SM g p .nilslice .nilslice, .live 1 ((rowN F (nth g 0) p (k + 1)).map ei), .live 1 ((rowN G (nth g 0) p (k + 1)).map ei)])
      (fun k => p.length - k) (fun k => k ≤ p.length) 0
      (Nat.zero_le _) ⟨rfl, rfl, rfl, rfl, rfl, rfl, rfl, rfl, rfl, trivial⟩ rfl (fun k hk => ?_)
    rcases Nat.lt_or_ge k p.length with hkt | hkg
    · have fp : at' p (k : Int) = nth p k := rfl
      have bp := hp.bnd k hkt
      have hc := hcur (nth g 0) (nth p k) law ⟨bg.1, bg.2, bp.1, bp.2⟩
      have d1 := rowN_succ (F := F) (a := nth g 0) hkt
      have d2 := rowN_succ (F := G) (a := nth g 0) hkt
      have k1 := rowN_len (F := F) (a := nth g 0) (p := p) (k := k + 1) (by omega)
      have k2 := rowN_len (F := G) (a := nth g 0) (p := p) (k := k + 1) (by omega)
      cases k with
      | zero =>
        dsimp only
        conv => whnf
        refine condP.dec (fun _ => ?_) (fun h => absurd (by omega) h)
        repeat' ((conv => whnf); first | (first | refine condP.dec (fun h => ?_) (fun h => ?_) | refine condP.eq (fun h => ?_) (fun h => ?_) | refine condP.ne (fun h => ?_) (fun h => ?_)) | (refine .i64 (by omega) (by omega) ?_) | (refine onSome.intro (idx_fs rfl rfl (by omega) (by omega) (fun _ => rfl)) ?_) | (refine onSome.intro (load_fs rfl (by omega) (by omega) rfl) ?_) | (refine And.intro rfl ?_))
        conv => whnf
        refine CallP.pure hc ?_
        (repeat ((conv => whnf); refine And.intro rfl ?_)); conv => whnf
        refine .nil (.inl rfl) rfl (by simp) (fun e he => by simp at he; subst he; rfl) (fun e he c hc => by simp at he; subst he; simp at hc; subst hc; rfl) (n' := 1) rfl (by omega) ?_
        (repeat ((conv => whnf); refine And.intro rfl ?_)); conv => whnf
        refine .nil (.inl rfl) rfl (by simp) (fun e he => by simp at he; subst he; rfl) (fun e he c hc => by simp at he; subst he; simp at hc; subst hc; rfl) (n' := 1) rfl (by omega) ?_
        repeat' ((conv => whnf); first | (first | refine condP.dec (fun h => ?_) (fun h => ?_) | refine condP.eq (fun h => ?_) (fun h => ?_) | refine condP.ne (fun h => ?_) (fun h => ?_)) | (refine .i64 (by omega) (by omega) ?_) | (refine onSome.intro (idx_fs rfl rfl (by omega) (by omega) (fun _ => rfl)) ?_) | (refine onSome.intro (load_fs rfl (by omega) (by omega) rfl) ?_) | (refine And.intro rfl ?_))
        conv => whnf
        have z1 : rowN F (nth g 0) p 1 = [F (nth g 0) (nth p 0)] := d1
        have z2 : rowN G (nth g 0) p 1 = [G (nth g 0) (nth p 0)] := d2
        refine .more 1 [0, 1, 2, 5, 7] rfl hkt (by omega) rfl ⟨.same (sl_no _), .same (sl_no _), .pt rfl, .pt rfl, .pt rfl, .same (.int _ _), .ms rfl, .ms rfl, .same (.int _ _), trivial⟩ ⟨.same (SL_no _ _ _ _ _ _ _ _ _ _), .same SR_no, SM_mv (.same nn_nil) (.same nn_nil), ?_, ?_, trivial⟩
        · rw [z1]; exact .same (noS_ints (l := [F (nth g 0) (nth p 0)]))
        · rw [z2]; exact .same (noS_ints (l := [G (nth g 0) (nth p 0)]))
      | succ k =>
        have k3 := rowN_len (F := F) (a := nth g 0) (p := p) (k := k + 1) (by omega)
        have k4 := rowN_len (F := G) (a := nth g 0) (p := p) (k := k + 1) (by omega)
        dsimp only
        conv => whnf
        refine condP.dec (fun _ => ?_) (fun h => absurd (by omega) h)
        repeat' ((conv => whnf); first | (first | refine condP.dec (fun h => ?_) (fun h => ?_) | refine condP.eq (fun h => ?_) (fun h => ?_) | refine condP.ne (fun h => ?_) (fun h => ?_)) | (refine .i64 (by omega) (by omega) ?_) | (refine onSome.intro (idx_fs rfl rfl (by omega) (by omega) (fun _ => rfl)) ?_) | (refine onSome.intro (load_fs rfl (by omega) (by omega) rfl) ?_) | (refine And.intro rfl ?_))
        conv => whnf
        refine CallP.pure hc ?_
        (repeat ((conv => whnf); refine And.intro rfl ?_)); conv => whnf
        refine .grow rfl rfl (by rw [List.length_map, k3]) (es' := [F (nth g 0) (nth p (k + 1))].map ei) rfl (by simp) ei_len ei_ok (r := (rowN F (nth g 0) p (k + 1 + 1)).map ei) (by rw [d1, List.map_append]) (n' := k + 1 + 1) (by rw [List.length_map, k1]) (by omega) ?_
        (repeat ((conv => whnf); refine And.intro rfl ?_)); conv => whnf
        refine .grow rfl rfl (by rw [List.length_map, k4]) (es' := [G (nth g 0) (nth p (k + 1))].map ei) rfl (by simp) ei_len ei_ok (r := (rowN G (nth g 0) p (k + 1 + 1)).map ei) (by rw [d2, List.map_append]) (n' := k + 1 + 1) (by rw [List.length_map, k2]) (by omega) ?_
        repeat' ((conv => whnf); first | (first | refine condP.dec (fun h => ?_) (fun h => ?_) | refine condP.eq (fun h => ?_) (fun h => ?_) | refine condP.ne (fun h => ?_) (fun h => ?_)) | (refine .i64 (by omega) (by omega) ?_) | (refine onSome.intro (idx_fs rfl rfl (by omega) (by omega) (fun _ => rfl)) ?_) | (refine onSome.intro (load_fs rfl (by omega) (by omega) rfl) ?_) | (refine And.intro rfl ?_))
        conv => whnf
        exact .more (k + 1 + 1) [0, 1, 2, 7, 9] rfl hkt (by omega) rfl ⟨.same (sl_no _), .same (sl_no _), .pt rfl, .pt rfl, .pt rfl, .same (.int _ _), .ms rfl, .ms rfl, .same (.int _ _), trivial⟩ ⟨.same (SL_no _ _ _ _ _ _ _ _ _ _), .same SR_no, SM_mv (.same nn_nil) (.same nn_nil), .same noS_ints, .same noS_ints, trivial⟩
    · obtain rfl : k = p.length := by omega
      have r1 := rowN_all (F := F) (a := nth g 0) (p := p)
      have r2 := rowN_all (F := G) (a := nth g 0) (p := p)
      have k1 := rowN_len (F := F) (a := nth g 0) (p := p) (k := p.length) (by omega)
      have k2 := rowN_len (F := G) (a := nth g 0) (p := p) (k := p.length) (by omega)
      generalize hpn : p.length = pn at *
      cases pn with
      | zero => omega
      | succ k =>
        dsimp only
        conv => whnf
        refine condP.dec (fun h => absurd h (by omega)) (fun _ => ?_)
        conv => whnf
        refine .done (by simp) ?_
        conv => whnf
        refine .nil (.inl rfl) rfl (by simp) (fun e he => by simp at he; subst he; rfl) (fun e he c hc => by simp at he; subst he; simp at hc; subst hc; rfl) (n' := 1) rfl (by omega) ?_
        (repeat ((conv => whnf); refine And.intro rfl ?_)); conv => whnf
        refine .nil (.inl rfl) rfl (by simp) (fun e he => by simp at he; subst he; rfl) (fun e he c hc => by simp at he; subst he; simp at hc; subst hc; rfl) (n' := 1) rfl (by omega) ?_
        repeat' ((conv => whnf); first | (first | refine condP.dec (fun h => ?_) (fun h => ?_) | refine condP.eq (fun h => ?_) (fun h => ?_) | refine condP.ne (fun h => ?_) (fun h => ?_)) | (refine .i64 (by omega) (by omega) ?_) | (refine onSome.intro (idx_fs rfl rfl (by omega) (by omega) (fun _ => rfl)) ?_) | (refine onSome.intro (load_fs rfl (by omega) (by omega) rfl) ?_) | (refine And.intro rfl ?_))
        conv => whnf
        exact .more 1 [0, 1, 2, 6, 8] rfl hlt (by omega) rfl ⟨.same (sl_no _), .same (sl_no _), .pt rfl, .pt rfl, .pt rfl, .same (.int _ _), trivial⟩ ⟨.same (SL_no _ _ _ _ _ _ _ _ _ _), .same SR_no, SM_mv (.ms rfl) (.ms rfl),
          .nn noS_rows (row_frz (rows := tabN F g p 0) rfl (fun _ _ h => by cases h) k1.symm (by rw [c1, r1])).slot, .nn noS_rows (row_frz (rows := tabN G g p 0) rfl (fun _ _ h => by cases h) k2.symm (by rw [c2, r2])).slot, trivial⟩
  | succ i =>
    have l3 := tabN_len (F := F) (p := p) (g := g) (i := i + 1) (by omega)
    have l4 := tabN_len (F := G) (p := p) (g := g) (i := i + 1) (by omega)
    dsimp only
    conv => whnf
    refine condP.dec (fun _ => ?_) (fun h => absurd (by omega) h)
    conv => whnf
    refine loop_grow (X := Nat) (fun k => match k with
        | 0 => [(1, sl g), (2, sl p), (3, .ptr 0 0 0), (6, .ptr 1 0 0), (10, .ptr 2 0 0), (11, .int .i64 ((i + 1 : Nat) : Int)), (12, .nilslice), (13, .nilslice), (14, .int .i64 0)]
        | k + 1 => [(1, sl g), (2, sl p), (3, .ptr 0 0 0), (6, .ptr 1 0 0), (10, .ptr 2 0 0), (11, .int .i64 ((i + 1 : Nat) : Int)), (12, .mslice 5 0 (k + 1) (k + 1) false), (13, .mslice 6 0 (k + 1) (k + 1) false), (14, .int .i64 ((k + 1 : Nat) : Int))])
      (fun k => match k with
        | 0 => [SL p0 p1 g0 g1 s0 s1 f0 f1 q0 q1, SR, SM g p (.mslice 3 0 (i + 1) (i + 1) false) (.mslice 4 0 (i + 1) (i + 1) false), .live 1 ((tabN F g p (i + 1)).map el), .live 1 ((tabN G g p (i + 1)).map el)]
        | k + 1 => [SL p0 p1 g0 g1 s0 s1 f0 f1 q0 q1, SR, SM g p (.mslice 3 0 (i + 1) (i + 1) false) (.mslice 4 0 (i + 1) (i + 1) false), .live 1 ((tabN F g p (i + 1)).map el), .live 1 ((tabN G g p (i + 1)).map el), .live 1 ((rowN F (nth g (i + 1)) p (k + 1)).map ei), .live 1 ((rowN G (nth g (i + 1)) p (k + 1)).map ei)])
      (fun k => p.length - k) (fun k => k ≤ p.length) 0
      (Nat.zero_le _) ⟨rfl, rfl, rfl, rfl, rfl, rfl, rfl, rfl, rfl, trivial⟩ rfl (fun k hk => ?_)
    rcases Nat.lt_or_ge k p.length with hkt | hkg
    · have fp : at' p (k : Int) = nth p k := rfl
      have bp := hp.bnd k hkt
      have hc := hcur (nth g (i + 1)) (nth p k) law ⟨bg.1, bg.2, bp.1, bp.2⟩
      have d1 := rowN_succ (F := F) (a := nth g (i + 1)) hkt
      have d2 := rowN_succ (F := G) (a := nth g (i + 1)) hkt
      have k1 := rowN_len (F := F) (a := nth g (i + 1)) (p := p) (k := k + 1) (by omega)
      have k2 := rowN_len (F := G) (a := nth g (i + 1)) (p := p) (k := k + 1) (by omega)
      cases k with
      | zero =>
        dsimp only
        conv => whnf
        refine condP.dec (fun _ => ?_) (fun h => absurd (by omega) h)
        repeat' ((conv => whnf); first | (first | refine condP.dec (fun h => ?_) (fun h => ?_) | refine condP.eq (fun h => ?_) (fun h => ?_) | refine condP.ne (fun h => ?_) (fun h => ?_)) | (refine .i64 (by omega) (by omega) ?_) | (refine onSome.intro (idx_fs rfl rfl (by omega) (by omega) (fun _ => rfl)) ?_) | (refine onSome.intro (load_fs rfl (by omega) (by omega) rfl) ?_) | (refine And.intro rfl ?_))
        conv => whnf
        refine CallP.pure hc ?_
        (repeat ((conv => whnf); refine And.intro rfl ?_)); conv => whnf
        refine .nil (.inl rfl) rfl (by simp) (fun e he => by simp at he; subst he; rfl) (fun e he c hc => by simp at he; subst he; simp at hc; subst hc; rfl) (n' := 1) rfl (by omega) ?_
        (repeat ((conv => whnf); refine And.intro rfl ?_)); conv => whnf
        refine .nil (.inl rfl) rfl (by simp) (fun e he => by simp at he; subst he; rfl) (fun e he c hc => by simp at he; subst he; simp at hc; subst hc; rfl) (n' := 1) rfl (by omega) ?_
        repeat' ((conv => whnf); first | (first | refine condP.dec (fun h => ?_) (fun h => ?_) | refine condP.eq (fun h => ?_) (fun h => ?_) | refine condP.ne (fun h => ?_) (fun h => ?_)) | (refine .i64 (by omega) (by omega) ?_) | (refine onSome.intro (idx_fs rfl rfl (by omega) (by omega) (fun _ => rfl)) ?_) | (refine onSome.intro (load_fs rfl (by omega) (by omega) rfl) ?_) | (refine And.intro rfl ?_))
        conv => whnf
        have z1 : rowN F (nth g (i + 1)) p 1 = [F (nth g (i + 1)) (nth p 0)] := d1
        have z2 : rowN G (nth g (i + 1)) p 1 = [G (nth g (i + 1)) (nth p 0)] := d2
        refine .more 1 [0, 1, 2, 3, 4, 7, 9] rfl hkt (by omega) rfl ⟨.same (sl_no _), .same (sl_no _), .pt rfl, .pt rfl, .pt rfl, .same (.int _ _), .ms rfl, .ms rfl, .same (.int _ _), trivial⟩ ⟨.same (SL_no _ _ _ _ _ _ _ _ _ _), .same SR_no, SM_mv (.ms rfl) (.ms rfl), .same noS_rows, .same noS_rows, ?_, ?_, trivial⟩
        · rw [z1]; exact .same (noS_ints (l := [F (nth g (i + 1)) (nth p 0)]))
        · rw [z2]; exact .same (noS_ints (l := [G (nth g (i + 1)) (nth p 0)]))
      | succ k =>
        have k3 := rowN_len (F := F) (a := nth g (i + 1)) (p := p) (k := k + 1) (by omega)
        have k4 := rowN_len (F := G) (a := nth g (i + 1)) (p := p) (k := k + 1) (by omega)
        dsimp only
        conv => whnf
        refine condP.dec (fun _ => ?_) (fun h => absurd (by omega) h)
        repeat' ((conv => whnf); first | (first | refine condP.dec (fun h => ?_) (fun h => ?_) | refine condP.eq (fun h => ?_) (fun h => ?_) | refine condP.ne (fun h => ?_) (fun h => ?_)) | (refine .i64 (by omega) (by omega) ?_) | (refine onSome.intro (idx_fs rfl rfl (by omega) (by omega) (fun _ => rfl)) ?_) | (refine onSome.intro (load_fs rfl (by omega) (by omega) rfl) ?_) | (refine And.intro rfl ?_))
        conv => whnf
        refine CallP.pure hc ?_
        (repeat ((conv => whnf); refine And.intro rfl ?_)); conv => whnf
        refine .grow rfl rfl (by rw [List.length_map, k3]) (es' := [F (nth g (i + 1)) (nth p (k + 1))].map ei) rfl (by simp) ei_len ei_ok (r := (rowN F (nth g (i + 1)) p (k + 1 + 1)).map ei) (by rw [d1, List.map_append]) (n' := k + 1 + 1) (by rw [List.length_map, k1]) (by omega) ?_
        (repeat ((conv => whnf); refine And.intro rfl ?_)); conv => whnf
        refine .grow rfl rfl (by rw [List.length_map, k4]) (es' := [G (nth g (i + 1)) (nth p (k + 1))].map ei) rfl (by simp) ei_len ei_ok (r := (rowN G (nth g (i + 1)) p (k + 1 + 1)).map ei) (by rw [d2, List.map_append]) (n' := k + 1 + 1) (by rw [List.length_map, k2]) (by omega) ?_
        repeat' ((conv => whnf); first | (first | refine condP.dec (fun h => ?_) (fun h => ?_) | refine condP.eq (fun h => ?_) (fun h => ?_) | refine condP.ne (fun h => ?_) (fun h => ?_)) | (refine .i64 (by omega) (by omega) ?_) | (refine onSome.intro (idx_fs rfl rfl (by omega) (by omega) (fun _ => rfl)) ?_) | (refine onSome.intro (load_fs rfl (by omega) (by omega) rfl) ?_) | (refine And.intro rfl ?_))
        conv => whnf
        exact .more (k + 1 + 1) [0, 1, 2, 3, 4, 9, 11] rfl hkt (by omega) rfl ⟨.same (sl_no _), .same (sl_no _), .pt rfl, .pt rfl, .pt rfl, .same (.int _ _), .ms rfl, .ms rfl, .same (.int _ _), trivial⟩ ⟨.same (SL_no _ _ _ _ _ _ _ _ _ _), .same SR_no, SM_mv (.ms rfl) (.ms rfl), .same noS_rows, .same noS_rows, .same noS_ints, .same noS_ints, trivial⟩
    · obtain rfl : k = p.length := by omega
      have r1 := rowN_all (F := F) (a := nth g (i + 1)) (p := p)
      have r2 := rowN_all (F := G) (a := nth g (i + 1)) (p := p)
      have k1 := rowN_len (F := F) (a := nth g (i + 1)) (p := p) (k := p.length) (by omega)
      have k2 := rowN_len (F := G) (a := nth g (i + 1)) (p := p) (k := p.length) (by omega)
      generalize hpn : p.length = pn at *
      cases pn with
      | zero => omega
      | succ k =>
        dsimp only
        conv => whnf
        refine condP.dec (fun h => absurd h (by omega)) (fun _ => ?_)
        conv => whnf
        refine .done (by simp) ?_
        conv => whnf
        refine .grow rfl rfl (by rw [List.length_map, l3]) (es' := [[.mslice 5 0 (k + 1) (k + 1) false]]) rfl (by simp) (fun e he => by simp at he; subst he; rfl) (fun e he c hc => by simp at he; subst he; simp at hc; subst hc; rfl) (r := (tabN F g p (i + 1)).map el ++ [[.mslice 5 0 (k + 1) (k + 1) false]]) rfl (n' := i + 1 + 1) (by rw [List.length_append, List.length_map, l3]; rfl) (by omega) ?_
        (repeat ((conv => whnf); refine And.intro rfl ?_)); conv => whnf
        refine .grow rfl rfl (by rw [List.length_map, l4]) (es' := [[.mslice 6 0 (k + 1) (k + 1) false]]) rfl (by simp) (fun e he => by simp at he; subst he; rfl) (fun e he c hc => by simp at he; subst he; simp at hc; subst hc; rfl) (r := (tabN G g p (i + 1)).map el ++ [[.mslice 6 0 (k + 1) (k + 1) false]]) rfl (n' := i + 1 + 1) (by rw [List.length_append, List.length_map, l4]; rfl) (by omega) ?_
        repeat' ((conv => whnf); first | (first | refine condP.dec (fun h => ?_) (fun h => ?_) | refine condP.eq (fun h => ?_) (fun h => ?_) | refine condP.ne (fun h => ?_) (fun h => ?_)) | (refine .i64 (by omega) (by omega) ?_) | (refine onSome.intro (idx_fs rfl rfl (by omega) (by omega) (fun _ => rfl)) ?_) | (refine onSome.intro (load_fs rfl (by omega) (by omega) rfl) ?_) | (refine And.intro rfl ?_))
        conv => whnf
        exact .more (i + 1 + 1) [0, 1, 2, 8, 10] rfl hlt (by omega) rfl ⟨.same (sl_no _), .same (sl_no _), .pt rfl, .pt rfl, .pt rfl, .same (.int _ _), trivial⟩ ⟨.same (SL_no _ _ _ _ _ _ _ _ _ _), .same SR_no, SM_mv (.ms rfl) (.ms rfl),
          .nn noS_rows (row_frz (rows := tabN F g p (i + 1)) rfl (fun _ _ h => by cases h) k1.symm (by rw [c1, r1])).slot, .nn noS_rows (row_frz (rows := tabN G g p (i + 1)) rfl (fun _ _ h => by cases h) k2.symm (by rw [c2, r2])).slot, trivial⟩

end Go.Proofs.YtlfaglkkeahamaaGreat.I
