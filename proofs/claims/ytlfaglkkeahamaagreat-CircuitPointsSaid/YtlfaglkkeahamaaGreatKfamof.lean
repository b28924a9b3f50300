/- A family that is made of numbers. -/
import Derived.Test.YtlfaglkkeahamaaGreatKof
import Derived.Test.YtlfaglkkeahamaaGreatMof
set_option linter.unusedVariables false
set_option maxHeartbeats 16000000
set_option linter.unusedSimpArgs false
namespace Go.Proofs.YtlfaglkkeahamaaGreat.I
open Go.Ideal

/-- What a family is that is made of numbers. -/
structure MadeOk (g p : List Int) (lo hi : List (List Int)) : Prop where
  fam : FamOk g p lo hi
  gOk : LinesOk (-9000) 3000 g
  pOk : LinesOk 0 300000 p
  gl : g.length ≤ 5
  pl : p.length ≤ 5
theorem FamilyOf_ok (s : Int) : ∃ (g p : List Int) (lo hi : List (List Int)) (s' : Int), MadeOk g p lo hi ∧ ∀ (H : Heap) (n : Nat), H n = S1 s → Ev T (.call (.func (.func 69) [] []) [.ptr n 0 0] H) (.call (famI g p lo hi) (H.set n (S1 s'))) := by
  have q1 := Lines_ok s (-9000) 3000 5 (by omega) (by omega) (by omega) (by omega) (by omega)
  obtain ⟨g, t1, hg, n0, n1, r1⟩ := q1
  have q2 := Lines_ok t1 0 300000 5 (by omega) (by omega) (by omega) (by omega) (by omega)
  obtain ⟨p, t2, hp, m0, m1, r2⟩ := q2
  have q3 := One_any t2 2 (by omega)
  obtain ⟨b, t3, r3⟩ := q3
  have hgw : LinesOk (-1000000) 1000000 g := hg.wide (by omega) (by omega)
  have hpw : LinesOk 0 1000000 p := hp.wide (by omega) (by omega)
  have len1 : (g.map ei).length = g.length := List.length_map ..
  have len2 : (p.map ei).length = p.length := List.length_map ..
  have key := run_one_some T69 (i := 0) (off := 0) (args := []) (s := S1 s) (P := fun v z => ∃ (lo hi : List (List Int)) (s' : Int), v = famI g p lo hi ∧ FamOk g p lo hi ∧ z = S1 s') nn_none (S1_no _) (by
    conv => whnf
    refine CallP.one (fun H hb => r1 H _ hb) rfl ?_
    conv => whnf
    refine CallP.one (fun H hb => r2 H _ hb) rfl ?_
    conv => whnf
    refine CallP.one (fun H hb => r3 H _ hb) rfl ?_
    cases b with
    | true =>
      have q4 := LawOf_ok t3
      obtain ⟨p0, p1, g0, g1, s0, s1, f0, f1, q0, q1, t4, law, r4⟩ := q4
      have fo := fam_of law hgw hpw n0 (by omega) m0 (by omega)
      have hof := fun H => rOf_ok (p0 := p0) (p1 := p1) (g0 := g0) (g1 := g1) (s0 := s0) (s1 := s1) (f0 := f0) (f1 := f1) (q0 := q0) (q1 := q1) g p (by omega) (by omega) H
      have he : ofErr (lawErr p0 p1 g0 g1 s0 s1 f0 f1 q0 q1) g p = 0 := by
        unfold ofErr
        rw [lawErr_zero.mpr law, linesErr_ok hgw hpw n0 (by omega) m0 (by omega)]; simp
      rw [he, ofRes, if_pos rfl] at hof
      generalize tabOf (cLo p0 g1 s0 f0 q0) g p = lo at *
      generalize tabOf (cHi p1 g0 s1 f1 q1) g p = hi at *
      conv => whnf
      refine CallP.one (fun H hb => r4 H _ hb) rfl ?_
      conv => whnf
      refine CallP.pure hof ?_
      repeat' ((conv => whnf); first | (first | refine condP.dec (fun h => ?_) (fun h => ?_) | refine condP.eq (fun h => ?_) (fun h => ?_) | refine condP.ne (fun h => ?_) (fun h => ?_)) | (refine .i64 (by omega) (by omega) ?_) | (refine onSome.intro (idx_fs rfl rfl (by omega) (by omega) (fun _ => rfl)) ?_) | (refine onSome.intro (load_fs rfl (by omega) (by omega) rfl) ?_) | (refine And.intro rfl ?_))
      conv => whnf
      exact .intro (famI g p lo hi) (S1 t4) ⟨lo, hi, t4, rfl, fo, rfl⟩ (famI_no ..) (S1_no _) (.one (.inl rfl) rfl rfl (.refl _) (famI_no ..))
    | false =>
      conv => whnf
      refine loop_grow (X := List (List Int) × List (List Int) × Int) (fun x => [(0, .ptr 0 0 0), (2, .ptr 1 0 0), (3, sl g), (4, sl p), (7, .ptr 2 0 0), (8, .int .i64 x.1.length)])
        (fun x => [S1 x.2.2, SR, SM g p (omsl 3 x.1) (omsl 4 x.2.1)] ++ own2 el x.1 x.2.1)
        (fun x => g.length - x.1.length) (fun x => x.1.length ≤ g.length ∧ TabsOk p.length x.1 x.2.1) ([], [], t3)
        ⟨Nat.zero_le _, .nil _⟩ ⟨rfl, rfl, rfl, rfl, rfl, rfl, trivial⟩ rfl (fun x hx => ?_)
      obtain ⟨tl, th, s⟩ := x
      obtain ⟨hi, ht⟩ := hx
      dsimp only at hi ht ⊢
      have htl := ht.len
      rcases Nat.lt_or_ge tl.length g.length with hlt | hge
      · by_cases htn : tl = []
        · obtain rfl := htn
          obtain rfl : th = [] := List.length_eq_zero_iff.mp htl
          simp only [List.length_nil] at *
          conv => whnf
          refine condP.dec (fun _ => ?_) (fun h => absurd (by omega) h)
          conv => whnf
          refine loop_grow (X := List Int × List Int × Int) (fun x => [(0, .ptr 0 0 0), (2, .ptr 1 0 0), (3, sl g), (4, sl p), (7, .ptr 2 0 0), (8, .int .i64 0), (9, omsl 3 x.1), (10, omsl 4 x.2.1), (11, .int .i64 x.1.length)])
            (fun x => [S1 x.2.2, SR, SM g p .nilslice .nilslice] ++ own2 ei x.1 x.2.1)
            (fun x => p.length - x.1.length) (fun x => x.1.length ≤ p.length ∧ RowOk 0 [] [] x.1 x.2.1) ([], [], s)
            ⟨Nat.zero_le _, .nil _ _ _⟩ ⟨rfl, rfl, rfl, rfl, rfl, rfl, rfl, rfl, rfl, trivial⟩ rfl (fun x hx => ?_)
          obtain ⟨rl, rh, s⟩ := x
          obtain ⟨hk, hr⟩ := hx
          dsimp only at hk hr ⊢
          have hrl := hr.len
          rcases Nat.lt_or_ge rl.length p.length with hkt | hkg
          · by_cases hrn : rl = []
            · obtain rfl := hrn
              obtain rfl : rh = [] := List.length_eq_zero_iff.mp hrl
              simp only [List.length_nil] at *
              have qa := Upto_any s 60 (by omega)
              obtain ⟨u1, s1, a1, a2, k1⟩ := qa
              have qb := Upto_any s1 30 (by omega)
              obtain ⟨u2, s2, b1, b2, k2⟩ := qb
              conv => whnf
              refine condP.dec (fun _ => ?_) (fun h => absurd (by omega) h)
              repeat' ((conv => whnf); first | (refine condP.dec (fun _ => ?_) (fun h => absurd (by omega) h)) | (refine .i64 (by omega) (by omega) ?_) | (refine onSome.intro (idx_fs rfl rfl (by omega) (by omega) (fun _ => rfl)) ?_) | (refine onSome.intro (load_fs rfl (by omega) (by omega) rfl) ?_) | (refine onSome.intro (idx_ms rfl rfl rfl (by omega) (by omega)) ?_) | (refine onSome.intro (load_ms rfl rfl (by omega) (by omega) rfl) ?_) | (refine And.intro rfl ?_) | (refine And.intro (load_fs rfl (by omega) (by omega) rfl) ?_) | (refine And.intro (idx_fs rfl rfl (by omega) (by omega) (fun _ => rfl)) ?_) | (refine And.intro (load_ms rfl rfl (by omega) (by omega) rfl) ?_) | (refine And.intro (idx_ms rfl rfl rfl (by omega) (by omega)) ?_))
              conv => whnf
              refine CallP.one (fun H hb => k1 H _ hb) rfl ?_
              conv => whnf
              refine CallP.one (fun H hb => k2 H _ hb) rfl ?_
              repeat' ((conv => whnf); first | (refine condP.dec (fun _ => ?_) (fun h => absurd (by omega) h)) | (refine .i64 (by omega) (by omega) ?_) | (refine onSome.intro (idx_fs rfl rfl (by omega) (by omega) (fun _ => rfl)) ?_) | (refine onSome.intro (load_fs rfl (by omega) (by omega) rfl) ?_) | (refine onSome.intro (idx_ms rfl rfl rfl (by omega) (by omega)) ?_) | (refine onSome.intro (load_ms rfl rfl (by omega) (by omega) rfl) ?_) | (refine And.intro rfl ?_) | (refine And.intro (load_fs rfl (by omega) (by omega) rfl) ?_) | (refine And.intro (idx_fs rfl rfl (by omega) (by omega) (fun _ => rfl)) ?_) | (refine And.intro (load_ms rfl rfl (by omega) (by omega) rfl) ?_) | (refine And.intro (idx_ms rfl rfl rfl (by omega) (by omega)) ?_))
              conv => whnf
              refine .nil (.inl rfl) rfl (by simp) (fun e he => by simp at he; subst he; rfl) (fun e he c hc => by simp at he; subst he; simp at hc; subst hc; rfl) (n' := 1) rfl (by omega) ?_
              repeat' ((conv => whnf); first | (refine condP.dec (fun _ => ?_) (fun h => absurd (by omega) h)) | (refine .i64 (by omega) (by omega) ?_) | (refine onSome.intro (idx_fs rfl rfl (by omega) (by omega) (fun _ => rfl)) ?_) | (refine onSome.intro (load_fs rfl (by omega) (by omega) rfl) ?_) | (refine onSome.intro (idx_ms rfl rfl rfl (by omega) (by omega)) ?_) | (refine onSome.intro (load_ms rfl rfl (by omega) (by omega) rfl) ?_) | (refine And.intro rfl ?_) | (refine And.intro (load_fs rfl (by omega) (by omega) rfl) ?_) | (refine And.intro (idx_fs rfl rfl (by omega) (by omega) (fun _ => rfl)) ?_) | (refine And.intro (load_ms rfl rfl (by omega) (by omega) rfl) ?_) | (refine And.intro (idx_ms rfl rfl rfl (by omega) (by omega)) ?_))
              conv => whnf
              refine .nil (.inl rfl) rfl (by simp) (fun e he => by simp at he; subst he; rfl) (fun e he c hc => by simp at he; subst he; simp at hc; subst hc; rfl) (n' := 1) rfl (by omega) ?_
              repeat' ((conv => whnf); first | (refine condP.dec (fun _ => ?_) (fun h => absurd (by omega) h)) | (refine .i64 (by omega) (by omega) ?_) | (refine onSome.intro (idx_fs rfl rfl (by omega) (by omega) (fun _ => rfl)) ?_) | (refine onSome.intro (load_fs rfl (by omega) (by omega) rfl) ?_) | (refine onSome.intro (idx_ms rfl rfl rfl (by omega) (by omega)) ?_) | (refine onSome.intro (load_ms rfl rfl (by omega) (by omega) rfl) ?_) | (refine And.intro rfl ?_) | (refine And.intro (load_fs rfl (by omega) (by omega) rfl) ?_) | (refine And.intro (idx_fs rfl rfl (by omega) (by omega) (fun _ => rfl)) ?_) | (refine And.intro (load_ms rfl rfl (by omega) (by omega) rfl) ?_) | (refine And.intro (idx_ms rfl rfl rfl (by omega) (by omega)) ?_))
              conv => whnf
              refine .more ([u1], [u1 + max 0 (u2)], s2) [0, 1, 2, 4, 6] rfl ⟨by simp; omega, hr.snoc (by omega) (by omega) (by omega) (fun q => by simp at q)⟩ (by simp; omega) rfl ⟨.pt rfl, .pt rfl, .same (sl_no _), .same (sl_no _), .pt rfl, .same (.int _ _), .ms rfl, .ms rfl, .same (.int _ _), trivial⟩ ?_
              dsimp only
              rw [own2_ne (by simp)]
              exact ⟨.same (S1_no _), .same SR_no, SM_mv (.same nn_nil) (.same nn_nil), .same (noS_ints (l := [u1])), .same (noS_ints (l := [u1 + max 0 (u2)])), trivial⟩
            · have hpos : 0 < rl.length := List.length_pos_iff.mpr hrn
              have fC : at' rl ((rl.length : Int) - 1) = nth rl (rl.length - 1) := by rw [show ((rl.length : Int) - 1) = ((rl.length - 1 : Nat) : Int) by omega]; rfl
              have fD : at' rh ((rl.length : Int) - 1) = nth rh (rl.length - 1) := by rw [show ((rl.length : Int) - 1) = ((rl.length - 1 : Nat) : Int) by omega]; rfl
              have bC : 0 ≤ nth rl (rl.length - 1) ∧ nth rl (rl.length - 1) ≤ 60 + 20 * (0 : Int) ∧ nth rl (rl.length - 1) ≤ nth rh (rl.length - 1) ∧ nth rh (rl.length - 1) ≤ 100 + 200 * (0 : Int) := by
                have := hr.at_ (rl.length - 1) (by omega)
                exact ⟨this.lo.1, this.lo.2, this.hi.1, this.hi.2⟩
              have hrn' : rh ≠ [] := by rintro rfl; simp at hrl; omega
              rw [omsl_ne hrn, omsl_ne hrn', own2_ne hrn]
              have qa := Upto_any s 60 (by omega)
              obtain ⟨u1, s1, a1, a2, k1⟩ := qa
              have qb := Upto_any s1 30 (by omega)
              obtain ⟨u2, s2, b1, b2, k2⟩ := qb
              conv => whnf
              refine condP.dec (fun _ => ?_) (fun h => absurd (by omega) h)
              repeat' ((conv => whnf); first | (refine condP.dec (fun _ => ?_) (fun h => absurd (by omega) h)) | (refine .i64 (by omega) (by omega) ?_) | (refine onSome.intro (idx_fs rfl rfl (by omega) (by omega) (fun _ => rfl)) ?_) | (refine onSome.intro (load_fs rfl (by omega) (by omega) rfl) ?_) | (refine onSome.intro (idx_ms rfl rfl rfl (by omega) (by omega)) ?_) | (refine onSome.intro (load_ms rfl rfl (by omega) (by omega) rfl) ?_) | (refine And.intro rfl ?_) | (refine And.intro (load_fs rfl (by omega) (by omega) rfl) ?_) | (refine And.intro (idx_fs rfl rfl (by omega) (by omega) (fun _ => rfl)) ?_) | (refine And.intro (load_ms rfl rfl (by omega) (by omega) rfl) ?_) | (refine And.intro (idx_ms rfl rfl rfl (by omega) (by omega)) ?_))
              conv => whnf
              refine CallP.one (fun H hb => k1 H _ hb) rfl ?_
              conv => whnf
              refine CallP.one (fun H hb => k2 H _ hb) rfl ?_
              repeat' ((conv => whnf); first | (refine condP.dec (fun _ => ?_) (fun h => absurd (by omega) h)) | (refine .i64 (by omega) (by omega) ?_) | (refine onSome.intro (idx_fs rfl rfl (by omega) (by omega) (fun _ => rfl)) ?_) | (refine onSome.intro (load_fs rfl (by omega) (by omega) rfl) ?_) | (refine onSome.intro (idx_ms rfl rfl rfl (by omega) (by omega)) ?_) | (refine onSome.intro (load_ms rfl rfl (by omega) (by omega) rfl) ?_) | (refine And.intro rfl ?_) | (refine And.intro (load_fs rfl (by omega) (by omega) rfl) ?_) | (refine And.intro (idx_fs rfl rfl (by omega) (by omega) (fun _ => rfl)) ?_) | (refine And.intro (load_ms rfl rfl (by omega) (by omega) rfl) ?_) | (refine And.intro (idx_ms rfl rfl rfl (by omega) (by omega)) ?_))
              conv => whnf
              refine .grow rfl rfl (by simp) (es' := [[.int .i64 (max (u1) (at' rl ((rl.length : Int) - 1)))]]) rfl (by simp) (fun e he => by simp at he; subst he; rfl) (fun e he c hc => by simp at he; subst he; simp at hc; subst hc; rfl) (r := rl.map ei ++ [[.int .i64 (max (u1) (at' rl ((rl.length : Int) - 1)))]]) rfl (n' := rl.length + 1) (by simp) (by omega) ?_
              repeat' ((conv => whnf); first | (refine condP.dec (fun _ => ?_) (fun h => absurd (by omega) h)) | (refine .i64 (by omega) (by omega) ?_) | (refine onSome.intro (idx_fs rfl rfl (by omega) (by omega) (fun _ => rfl)) ?_) | (refine onSome.intro (load_fs rfl (by omega) (by omega) rfl) ?_) | (refine onSome.intro (idx_ms rfl rfl rfl (by omega) (by omega)) ?_) | (refine onSome.intro (load_ms rfl rfl (by omega) (by omega) rfl) ?_) | (refine And.intro rfl ?_) | (refine And.intro (load_fs rfl (by omega) (by omega) rfl) ?_) | (refine And.intro (idx_fs rfl rfl (by omega) (by omega) (fun _ => rfl)) ?_) | (refine And.intro (load_ms rfl rfl (by omega) (by omega) rfl) ?_) | (refine And.intro (idx_ms rfl rfl rfl (by omega) (by omega)) ?_))
              conv => whnf
              refine .grow rfl rfl (by simp) (es' := [[.int .i64 (max (u1) (at' rl ((rl.length : Int) - 1)) + max 0 (max (max (u1) (at' rl ((rl.length : Int) - 1)) + (u2)) (at' rh ((rl.length : Int) - 1)) - max (u1) (at' rl ((rl.length : Int) - 1))))]]) rfl (by simp) (fun e he => by simp at he; subst he; rfl) (fun e he c hc => by simp at he; subst he; simp at hc; subst hc; rfl) (r := rh.map ei ++ [[.int .i64 (max (u1) (at' rl ((rl.length : Int) - 1)) + max 0 (max (max (u1) (at' rl ((rl.length : Int) - 1)) + (u2)) (at' rh ((rl.length : Int) - 1)) - max (u1) (at' rl ((rl.length : Int) - 1))))]]) rfl (n' := rh.length + 1) (by simp) (by omega) ?_
              repeat' ((conv => whnf); first | (refine condP.dec (fun _ => ?_) (fun h => absurd (by omega) h)) | (refine .i64 (by omega) (by omega) ?_) | (refine onSome.intro (idx_fs rfl rfl (by omega) (by omega) (fun _ => rfl)) ?_) | (refine onSome.intro (load_fs rfl (by omega) (by omega) rfl) ?_) | (refine onSome.intro (idx_ms rfl rfl rfl (by omega) (by omega)) ?_) | (refine onSome.intro (load_ms rfl rfl (by omega) (by omega) rfl) ?_) | (refine And.intro rfl ?_) | (refine And.intro (load_fs rfl (by omega) (by omega) rfl) ?_) | (refine And.intro (idx_fs rfl rfl (by omega) (by omega) (fun _ => rfl)) ?_) | (refine And.intro (load_ms rfl rfl (by omega) (by omega) rfl) ?_) | (refine And.intro (idx_ms rfl rfl rfl (by omega) (by omega)) ?_))
              conv => whnf
              refine .more (rl ++ [max (u1) (at' rl ((rl.length : Int) - 1))], rh ++ [max (u1) (at' rl ((rl.length : Int) - 1)) + max 0 (max (max (u1) (at' rl ((rl.length : Int) - 1)) + (u2)) (at' rh ((rl.length : Int) - 1)) - max (u1) (at' rl ((rl.length : Int) - 1)))], s2) [0, 1, 2, 6, 8] rfl ⟨by simp; omega, hr.snoc (by omega) (by omega) (by omega) (by omega)⟩ (by simp; omega) rfl ⟨.pt rfl, .pt rfl, .same (sl_no _), .same (sl_no _), .pt rfl, .same (.int _ _), .grown rfl (by simp) (by simp), .grown rfl (by simp) (by simp), .nn (.int _ _) (frz_int (by simp)), trivial⟩ ?_
              dsimp only
              rw [own2_ne (by simp)]
              exact ⟨.same (S1_no _), .same SR_no, SM_mv (.same nn_nil) (.same nn_nil), .snoc, .snoc, trivial⟩
          · have hrn : rl ≠ [] := List.ne_nil_of_length_pos (by omega)
            have hrn' : rh ≠ [] := List.ne_nil_of_length_pos (by omega)
            have sn := ht.snoc hr (by omega)
            rw [omsl_ne hrn, omsl_ne hrn', own2_ne hrn]
            conv => whnf
            refine condP.dec (fun h => absurd h (by omega)) (fun _ => ?_)
            conv => whnf
            refine .done (by simp) ?_
            conv => whnf
            refine .nil (.inl rfl) rfl (by simp) (fun e he => by simp at he; subst he; rfl) (fun e he c hc => by simp at he; subst he; simp at hc; subst hc; rfl) (n' := 1) rfl (by omega) ?_
            repeat' ((conv => whnf); first | (refine condP.dec (fun _ => ?_) (fun h => absurd (by omega) h)) | (refine .i64 (by omega) (by omega) ?_) | (refine onSome.intro (idx_fs rfl rfl (by omega) (by omega) (fun _ => rfl)) ?_) | (refine onSome.intro (load_fs rfl (by omega) (by omega) rfl) ?_) | (refine onSome.intro (idx_ms rfl rfl rfl (by omega) (by omega)) ?_) | (refine onSome.intro (load_ms rfl rfl (by omega) (by omega) rfl) ?_) | (refine And.intro rfl ?_) | (refine And.intro (load_fs rfl (by omega) (by omega) rfl) ?_) | (refine And.intro (idx_fs rfl rfl (by omega) (by omega) (fun _ => rfl)) ?_) | (refine And.intro (load_ms rfl rfl (by omega) (by omega) rfl) ?_) | (refine And.intro (idx_ms rfl rfl rfl (by omega) (by omega)) ?_))
            conv => whnf
            refine .nil (.inl rfl) rfl (by simp) (fun e he => by simp at he; subst he; rfl) (fun e he c hc => by simp at he; subst he; simp at hc; subst hc; rfl) (n' := 1) rfl (by omega) ?_
            repeat' ((conv => whnf); first | (refine condP.dec (fun _ => ?_) (fun h => absurd (by omega) h)) | (refine .i64 (by omega) (by omega) ?_) | (refine onSome.intro (idx_fs rfl rfl (by omega) (by omega) (fun _ => rfl)) ?_) | (refine onSome.intro (load_fs rfl (by omega) (by omega) rfl) ?_) | (refine onSome.intro (idx_ms rfl rfl rfl (by omega) (by omega)) ?_) | (refine onSome.intro (load_ms rfl rfl (by omega) (by omega) rfl) ?_) | (refine And.intro rfl ?_) | (refine And.intro (load_fs rfl (by omega) (by omega) rfl) ?_) | (refine And.intro (idx_fs rfl rfl (by omega) (by omega) (fun _ => rfl)) ?_) | (refine And.intro (load_ms rfl rfl (by omega) (by omega) rfl) ?_) | (refine And.intro (idx_ms rfl rfl rfl (by omega) (by omega)) ?_))
            conv => whnf
            refine .more ([] ++ [rl], [] ++ [rh], s) [0, 1, 2, 6, 8] rfl ⟨by simp; omega, sn⟩ (by simp; omega) rfl ⟨.pt rfl, .pt rfl, .same (sl_no _), .same (sl_no _), .pt rfl, .nn (.int _ _) (frz_int (by simp)), trivial⟩ ?_
            dsimp only
            rw [own2_ne (by simp)]
            exact ⟨.same (S1_no _), .same SR_no, SM_mv (.grown rfl (by simp) (by simp)) (.grown rfl (by simp) (by simp)),
              .nn noS_rows (row_frz (rows := []) rfl (fun _ _ h => by cases h) rfl rfl).slot, .nn noS_rows (row_frz (rows := []) rfl (fun _ _ h => by cases h) rfl rfl).slot, trivial⟩
        · have hpos : 0 < tl.length := List.length_pos_iff.mpr htn
          have htn' : th ≠ [] := by rintro rfl; simp at htl; omega
          rw [omsl_ne htn, omsl_ne htn', own2_ne htn]
          conv => whnf
          refine condP.dec (fun _ => ?_) (fun h => absurd (by omega) h)
          conv => whnf
          refine loop_grow (X := List Int × List Int × Int) (fun x => [(0, .ptr 0 0 0), (2, .ptr 1 0 0), (3, sl g), (4, sl p), (7, .ptr 2 0 0), (8, .int .i64 (tl.length : Int)), (9, omsl 5 x.1), (10, omsl 6 x.2.1), (11, .int .i64 x.1.length)])
            (fun x => [S1 x.2.2, SR, SM g p (.mslice 3 0 tl.length tl.length false) (.mslice 4 0 th.length th.length false), .live 1 (tl.map el), .live 1 (th.map el)] ++ own2 ei x.1 x.2.1)
            (fun x => p.length - x.1.length) (fun x => x.1.length ≤ p.length ∧ RowOk tl.length tl th x.1 x.2.1) ([], [], s)
            ⟨Nat.zero_le _, .nil _ _ _⟩ ⟨rfl, rfl, rfl, rfl, rfl, rfl, rfl, rfl, rfl, trivial⟩ rfl (fun x hx => ?_)
          obtain ⟨rl, rh, s⟩ := x
          obtain ⟨hk, hr⟩ := hx
          dsimp only at hk hr ⊢
          have hrl := hr.len
          rcases Nat.lt_or_ge rl.length p.length with hkt | hkg
          · have fA : at' (at' tl ((tl.length : Int) - 1)) (rl.length : Int) = vc tl (tl.length - 1) rl.length := by rw [show ((tl.length : Int) - 1) = ((tl.length - 1 : Nat) : Int) by omega]; rfl
            have fB : at' (at' th ((tl.length : Int) - 1)) (rl.length : Int) = vc th (tl.length - 1) rl.length := by rw [show ((tl.length : Int) - 1) = ((tl.length - 1 : Nat) : Int) by omega]; rfl
            have rA : (at' tl ((tl.length : Int) - 1)).length = p.length := by rw [show ((tl.length : Int) - 1) = ((tl.length - 1 : Nat) : Int) by omega]; exact ht.lo _ (by omega)
            have rB : (at' th ((tl.length : Int) - 1)).length = p.length := by rw [show ((tl.length : Int) - 1) = ((tl.length - 1 : Nat) : Int) by omega]; exact ((ht.row (tl.length - 1) (by omega)).len).trans (ht.lo _ (by omega))
            have bA : 0 ≤ vc tl (tl.length - 1) rl.length ∧ vc tl (tl.length - 1) rl.length ≤ 60 + 20 * ((tl.length - 1 : Nat) : Int) ∧ vc tl (tl.length - 1) rl.length ≤ vc th (tl.length - 1) rl.length ∧ vc th (tl.length - 1) rl.length ≤ 100 + 200 * ((tl.length - 1 : Nat) : Int) := by
              have := (ht.row (tl.length - 1) (by omega)).at_ rl.length (by rw [ht.lo _ (by omega)]; exact hkt)
              exact ⟨this.lo.1, this.lo.2, this.hi.1, this.hi.2⟩
            by_cases hrn : rl = []
            · obtain rfl := hrn
              obtain rfl : rh = [] := List.length_eq_zero_iff.mp hrl
              simp only [List.length_nil] at *
              have fA0 : at' (at' tl ((tl.length : Int) - 1)) (0 : Int) = vc tl (tl.length - 1) 0 := fA
              have fB0 : at' (at' th ((tl.length : Int) - 1)) (0 : Int) = vc th (tl.length - 1) 0 := fB
              have qa := Upto_any s 60 (by omega)
              obtain ⟨u1, s1, a1, a2, k1⟩ := qa
              have qb := Upto_any s1 30 (by omega)
              obtain ⟨u2, s2, b1, b2, k2⟩ := qb
              have qc := Upto_any s2 20 (by omega)
              obtain ⟨u3, s3, c1, c2, k3⟩ := qc
              conv => whnf
              refine condP.dec (fun _ => ?_) (fun h => absurd (by omega) h)
              repeat' ((conv => whnf); first | (refine condP.dec (fun _ => ?_) (fun h => absurd (by omega) h)) | (refine .i64 (by omega) (by omega) ?_) | (refine onSome.intro (idx_fs rfl rfl (by omega) (by omega) (fun _ => rfl)) ?_) | (refine onSome.intro (load_fs rfl (by omega) (by omega) rfl) ?_) | (refine onSome.intro (idx_ms rfl rfl rfl (by omega) (by omega)) ?_) | (refine onSome.intro (load_ms rfl rfl (by omega) (by omega) rfl) ?_) | (refine And.intro rfl ?_) | (refine And.intro (load_fs rfl (by omega) (by omega) rfl) ?_) | (refine And.intro (idx_fs rfl rfl (by omega) (by omega) (fun _ => rfl)) ?_) | (refine And.intro (load_ms rfl rfl (by omega) (by omega) rfl) ?_) | (refine And.intro (idx_ms rfl rfl rfl (by omega) (by omega)) ?_))
              conv => whnf
              refine CallP.one (fun H hb => k1 H _ hb) rfl ?_
              conv => whnf
              refine CallP.one (fun H hb => k2 H _ hb) rfl ?_
              repeat' ((conv => whnf); first | (refine condP.dec (fun _ => ?_) (fun h => absurd (by omega) h)) | (refine .i64 (by omega) (by omega) ?_) | (refine onSome.intro (idx_fs rfl rfl (by omega) (by omega) (fun _ => rfl)) ?_) | (refine onSome.intro (load_fs rfl (by omega) (by omega) rfl) ?_) | (refine onSome.intro (idx_ms rfl rfl rfl (by omega) (by omega)) ?_) | (refine onSome.intro (load_ms rfl rfl (by omega) (by omega) rfl) ?_) | (refine And.intro rfl ?_) | (refine And.intro (load_fs rfl (by omega) (by omega) rfl) ?_) | (refine And.intro (idx_fs rfl rfl (by omega) (by omega) (fun _ => rfl)) ?_) | (refine And.intro (load_ms rfl rfl (by omega) (by omega) rfl) ?_) | (refine And.intro (idx_ms rfl rfl rfl (by omega) (by omega)) ?_))
              conv => whnf
              refine CallP.one (fun H hb => k3 H _ hb) rfl ?_
              repeat' ((conv => whnf); first | (refine condP.dec (fun _ => ?_) (fun h => absurd (by omega) h)) | (refine .i64 (by omega) (by omega) ?_) | (refine onSome.intro (idx_fs rfl rfl (by omega) (by omega) (fun _ => rfl)) ?_) | (refine onSome.intro (load_fs rfl (by omega) (by omega) rfl) ?_) | (refine onSome.intro (idx_ms rfl rfl rfl (by omega) (by omega)) ?_) | (refine onSome.intro (load_ms rfl rfl (by omega) (by omega) rfl) ?_) | (refine And.intro rfl ?_) | (refine And.intro (load_fs rfl (by omega) (by omega) rfl) ?_) | (refine And.intro (idx_fs rfl rfl (by omega) (by omega) (fun _ => rfl)) ?_) | (refine And.intro (load_ms rfl rfl (by omega) (by omega) rfl) ?_) | (refine And.intro (idx_ms rfl rfl rfl (by omega) (by omega)) ?_))
              conv => whnf
              refine .nil (.inl rfl) rfl (by simp) (fun e he => by simp at he; subst he; rfl) (fun e he c hc => by simp at he; subst he; simp at hc; subst hc; rfl) (n' := 1) rfl (by omega) ?_
              repeat' ((conv => whnf); first | (refine condP.dec (fun _ => ?_) (fun h => absurd (by omega) h)) | (refine .i64 (by omega) (by omega) ?_) | (refine onSome.intro (idx_fs rfl rfl (by omega) (by omega) (fun _ => rfl)) ?_) | (refine onSome.intro (load_fs rfl (by omega) (by omega) rfl) ?_) | (refine onSome.intro (idx_ms rfl rfl rfl (by omega) (by omega)) ?_) | (refine onSome.intro (load_ms rfl rfl (by omega) (by omega) rfl) ?_) | (refine And.intro rfl ?_) | (refine And.intro (load_fs rfl (by omega) (by omega) rfl) ?_) | (refine And.intro (idx_fs rfl rfl (by omega) (by omega) (fun _ => rfl)) ?_) | (refine And.intro (load_ms rfl rfl (by omega) (by omega) rfl) ?_) | (refine And.intro (idx_ms rfl rfl rfl (by omega) (by omega)) ?_))
              conv => whnf
              refine .nil (.inl rfl) rfl (by simp) (fun e he => by simp at he; subst he; rfl) (fun e he c hc => by simp at he; subst he; simp at hc; subst hc; rfl) (n' := 1) rfl (by omega) ?_
              repeat' ((conv => whnf); first | (refine condP.dec (fun _ => ?_) (fun h => absurd (by omega) h)) | (refine .i64 (by omega) (by omega) ?_) | (refine onSome.intro (idx_fs rfl rfl (by omega) (by omega) (fun _ => rfl)) ?_) | (refine onSome.intro (load_fs rfl (by omega) (by omega) rfl) ?_) | (refine onSome.intro (idx_ms rfl rfl rfl (by omega) (by omega)) ?_) | (refine onSome.intro (load_ms rfl rfl (by omega) (by omega) rfl) ?_) | (refine And.intro rfl ?_) | (refine And.intro (load_fs rfl (by omega) (by omega) rfl) ?_) | (refine And.intro (idx_fs rfl rfl (by omega) (by omega) (fun _ => rfl)) ?_) | (refine And.intro (load_ms rfl rfl (by omega) (by omega) rfl) ?_) | (refine And.intro (idx_ms rfl rfl rfl (by omega) (by omega)) ?_))
              conv => whnf
              refine .more ([max (u1) (at' (at' tl ((tl.length : Int) - 1)) (0 : Int) + u3)], [max (u1) (at' (at' tl ((tl.length : Int) - 1)) (0 : Int) + u3) + max 0 (max (max (u1) (at' (at' tl ((tl.length : Int) - 1)) (0 : Int) + u3) + (max (max (u1) (at' (at' tl ((tl.length : Int) - 1)) (0 : Int) + u3) + u2) (at' (at' th ((tl.length : Int) - 1)) (0 : Int)) - max (u1) (at' (at' tl ((tl.length : Int) - 1)) (0 : Int) + u3))) (at' (at' th ((tl.length : Int) - 1)) (0 : Int)) - max (u1) (at' (at' tl ((tl.length : Int) - 1)) (0 : Int) + u3))], s3) [0, 1, 2, 3, 4, 6, 8] rfl ⟨by simp; omega, hr.snoc (by omega) (by omega) (fun q => by show vc tl (tl.length - 1) 0 ≤ _ ∧ vc th (tl.length - 1) 0 ≤ _; omega) (fun q => by simp at q)⟩ (by simp; omega) rfl ⟨.pt rfl, .pt rfl, .same (sl_no _), .same (sl_no _), .pt rfl, .same (.int _ _), .ms rfl, .ms rfl, .same (.int _ _), trivial⟩ ?_
              dsimp only
              rw [own2_ne (by simp)]
              exact ⟨.same (S1_no _), .same SR_no, SM_mv (.ms rfl) (.ms rfl), .same noS_rows, .same noS_rows, .same (noS_ints (l := [max (u1) (at' (at' tl ((tl.length : Int) - 1)) (0 : Int) + u3)])), .same (noS_ints (l := [max (u1) (at' (at' tl ((tl.length : Int) - 1)) (0 : Int) + u3) + max 0 (max (max (u1) (at' (at' tl ((tl.length : Int) - 1)) (0 : Int) + u3) + (max (max (u1) (at' (at' tl ((tl.length : Int) - 1)) (0 : Int) + u3) + u2) (at' (at' th ((tl.length : Int) - 1)) (0 : Int)) - max (u1) (at' (at' tl ((tl.length : Int) - 1)) (0 : Int) + u3))) (at' (at' th ((tl.length : Int) - 1)) (0 : Int)) - max (u1) (at' (at' tl ((tl.length : Int) - 1)) (0 : Int) + u3))])), trivial⟩
            · have hpos : 0 < rl.length := List.length_pos_iff.mpr hrn
              have fC : at' rl ((rl.length : Int) - 1) = nth rl (rl.length - 1) := by rw [show ((rl.length : Int) - 1) = ((rl.length - 1 : Nat) : Int) by omega]; rfl
              have fD : at' rh ((rl.length : Int) - 1) = nth rh (rl.length - 1) := by rw [show ((rl.length : Int) - 1) = ((rl.length - 1 : Nat) : Int) by omega]; rfl
              have bC : 0 ≤ nth rl (rl.length - 1) ∧ nth rl (rl.length - 1) ≤ 60 + 20 * (tl.length : Int) ∧ nth rl (rl.length - 1) ≤ nth rh (rl.length - 1) ∧ nth rh (rl.length - 1) ≤ 100 + 200 * (tl.length : Int) := by
                have := hr.at_ (rl.length - 1) (by omega)
                exact ⟨this.lo.1, this.lo.2, this.hi.1, this.hi.2⟩
              have hrn' : rh ≠ [] := by rintro rfl; simp at hrl; omega
              rw [omsl_ne hrn, omsl_ne hrn', own2_ne hrn]
              have qa := Upto_any s 60 (by omega)
              obtain ⟨u1, s1, a1, a2, k1⟩ := qa
              have qb := Upto_any s1 30 (by omega)
              obtain ⟨u2, s2, b1, b2, k2⟩ := qb
              have qc := Upto_any s2 20 (by omega)
              obtain ⟨u3, s3, c1, c2, k3⟩ := qc
              conv => whnf
              refine condP.dec (fun _ => ?_) (fun h => absurd (by omega) h)
              repeat' ((conv => whnf); first | (refine condP.dec (fun _ => ?_) (fun h => absurd (by omega) h)) | (refine .i64 (by omega) (by omega) ?_) | (refine onSome.intro (idx_fs rfl rfl (by omega) (by omega) (fun _ => rfl)) ?_) | (refine onSome.intro (load_fs rfl (by omega) (by omega) rfl) ?_) | (refine onSome.intro (idx_ms rfl rfl rfl (by omega) (by omega)) ?_) | (refine onSome.intro (load_ms rfl rfl (by omega) (by omega) rfl) ?_) | (refine And.intro rfl ?_) | (refine And.intro (load_fs rfl (by omega) (by omega) rfl) ?_) | (refine And.intro (idx_fs rfl rfl (by omega) (by omega) (fun _ => rfl)) ?_) | (refine And.intro (load_ms rfl rfl (by omega) (by omega) rfl) ?_) | (refine And.intro (idx_ms rfl rfl rfl (by omega) (by omega)) ?_))
              conv => whnf
              refine CallP.one (fun H hb => k1 H _ hb) rfl ?_
              conv => whnf
              refine CallP.one (fun H hb => k2 H _ hb) rfl ?_
              repeat' ((conv => whnf); first | (refine condP.dec (fun _ => ?_) (fun h => absurd (by omega) h)) | (refine .i64 (by omega) (by omega) ?_) | (refine onSome.intro (idx_fs rfl rfl (by omega) (by omega) (fun _ => rfl)) ?_) | (refine onSome.intro (load_fs rfl (by omega) (by omega) rfl) ?_) | (refine onSome.intro (idx_ms rfl rfl rfl (by omega) (by omega)) ?_) | (refine onSome.intro (load_ms rfl rfl (by omega) (by omega) rfl) ?_) | (refine And.intro rfl ?_) | (refine And.intro (load_fs rfl (by omega) (by omega) rfl) ?_) | (refine And.intro (idx_fs rfl rfl (by omega) (by omega) (fun _ => rfl)) ?_) | (refine And.intro (load_ms rfl rfl (by omega) (by omega) rfl) ?_) | (refine And.intro (idx_ms rfl rfl rfl (by omega) (by omega)) ?_))
              conv => whnf
              refine CallP.one (fun H hb => k3 H _ hb) rfl ?_
              repeat' ((conv => whnf); first | (refine condP.dec (fun _ => ?_) (fun h => absurd (by omega) h)) | (refine .i64 (by omega) (by omega) ?_) | (refine onSome.intro (idx_fs rfl rfl (by omega) (by omega) (fun _ => rfl)) ?_) | (refine onSome.intro (load_fs rfl (by omega) (by omega) rfl) ?_) | (refine onSome.intro (idx_ms rfl rfl rfl (by omega) (by omega)) ?_) | (refine onSome.intro (load_ms rfl rfl (by omega) (by omega) rfl) ?_) | (refine And.intro rfl ?_) | (refine And.intro (load_fs rfl (by omega) (by omega) rfl) ?_) | (refine And.intro (idx_fs rfl rfl (by omega) (by omega) (fun _ => rfl)) ?_) | (refine And.intro (load_ms rfl rfl (by omega) (by omega) rfl) ?_) | (refine And.intro (idx_ms rfl rfl rfl (by omega) (by omega)) ?_))
              conv => whnf
              refine .grow rfl rfl (by simp) (es' := [[.int .i64 (max (max (u1) (at' (at' tl ((tl.length : Int) - 1)) (rl.length : Int) + u3)) (at' rl ((rl.length : Int) - 1)))]]) rfl (by simp) (fun e he => by simp at he; subst he; rfl) (fun e he c hc => by simp at he; subst he; simp at hc; subst hc; rfl) (r := rl.map ei ++ [[.int .i64 (max (max (u1) (at' (at' tl ((tl.length : Int) - 1)) (rl.length : Int) + u3)) (at' rl ((rl.length : Int) - 1)))]]) rfl (n' := rl.length + 1) (by simp) (by omega) ?_
              repeat' ((conv => whnf); first | (refine condP.dec (fun _ => ?_) (fun h => absurd (by omega) h)) | (refine .i64 (by omega) (by omega) ?_) | (refine onSome.intro (idx_fs rfl rfl (by omega) (by omega) (fun _ => rfl)) ?_) | (refine onSome.intro (load_fs rfl (by omega) (by omega) rfl) ?_) | (refine onSome.intro (idx_ms rfl rfl rfl (by omega) (by omega)) ?_) | (refine onSome.intro (load_ms rfl rfl (by omega) (by omega) rfl) ?_) | (refine And.intro rfl ?_) | (refine And.intro (load_fs rfl (by omega) (by omega) rfl) ?_) | (refine And.intro (idx_fs rfl rfl (by omega) (by omega) (fun _ => rfl)) ?_) | (refine And.intro (load_ms rfl rfl (by omega) (by omega) rfl) ?_) | (refine And.intro (idx_ms rfl rfl rfl (by omega) (by omega)) ?_))
              conv => whnf
              refine .grow rfl rfl (by simp) (es' := [[.int .i64 (max (max (u1) (at' (at' tl ((tl.length : Int) - 1)) (rl.length : Int) + u3)) (at' rl ((rl.length : Int) - 1)) + max 0 (max (max (max (u1) (at' (at' tl ((tl.length : Int) - 1)) (rl.length : Int) + u3)) (at' rl ((rl.length : Int) - 1)) + (max (max (max (u1) (at' (at' tl ((tl.length : Int) - 1)) (rl.length : Int) + u3)) (at' rl ((rl.length : Int) - 1)) + (max (max (u1) (at' (at' tl ((tl.length : Int) - 1)) (rl.length : Int) + u3) + u2) (at' (at' th ((tl.length : Int) - 1)) (rl.length : Int)) - max (u1) (at' (at' tl ((tl.length : Int) - 1)) (rl.length : Int) + u3))) (at' rh ((rl.length : Int) - 1)) - max (max (u1) (at' (at' tl ((tl.length : Int) - 1)) (rl.length : Int) + u3)) (at' rl ((rl.length : Int) - 1)))) (at' (at' th ((tl.length : Int) - 1)) (rl.length : Int)) - max (max (u1) (at' (at' tl ((tl.length : Int) - 1)) (rl.length : Int) + u3)) (at' rl ((rl.length : Int) - 1))))]]) rfl (by simp) (fun e he => by simp at he; subst he; rfl) (fun e he c hc => by simp at he; subst he; simp at hc; subst hc; rfl) (r := rh.map ei ++ [[.int .i64 (max (max (u1) (at' (at' tl ((tl.length : Int) - 1)) (rl.length : Int) + u3)) (at' rl ((rl.length : Int) - 1)) + max 0 (max (max (max (u1) (at' (at' tl ((tl.length : Int) - 1)) (rl.length : Int) + u3)) (at' rl ((rl.length : Int) - 1)) + (max (max (max (u1) (at' (at' tl ((tl.length : Int) - 1)) (rl.length : Int) + u3)) (at' rl ((rl.length : Int) - 1)) + (max (max (u1) (at' (at' tl ((tl.length : Int) - 1)) (rl.length : Int) + u3) + u2) (at' (at' th ((tl.length : Int) - 1)) (rl.length : Int)) - max (u1) (at' (at' tl ((tl.length : Int) - 1)) (rl.length : Int) + u3))) (at' rh ((rl.length : Int) - 1)) - max (max (u1) (at' (at' tl ((tl.length : Int) - 1)) (rl.length : Int) + u3)) (at' rl ((rl.length : Int) - 1)))) (at' (at' th ((tl.length : Int) - 1)) (rl.length : Int)) - max (max (u1) (at' (at' tl ((tl.length : Int) - 1)) (rl.length : Int) + u3)) (at' rl ((rl.length : Int) - 1))))]]) rfl (n' := rh.length + 1) (by simp) (by omega) ?_
              repeat' ((conv => whnf); first | (refine condP.dec (fun _ => ?_) (fun h => absurd (by omega) h)) | (refine .i64 (by omega) (by omega) ?_) | (refine onSome.intro (idx_fs rfl rfl (by omega) (by omega) (fun _ => rfl)) ?_) | (refine onSome.intro (load_fs rfl (by omega) (by omega) rfl) ?_) | (refine onSome.intro (idx_ms rfl rfl rfl (by omega) (by omega)) ?_) | (refine onSome.intro (load_ms rfl rfl (by omega) (by omega) rfl) ?_) | (refine And.intro rfl ?_) | (refine And.intro (load_fs rfl (by omega) (by omega) rfl) ?_) | (refine And.intro (idx_fs rfl rfl (by omega) (by omega) (fun _ => rfl)) ?_) | (refine And.intro (load_ms rfl rfl (by omega) (by omega) rfl) ?_) | (refine And.intro (idx_ms rfl rfl rfl (by omega) (by omega)) ?_))
              conv => whnf
              refine .more (rl ++ [max (max (u1) (at' (at' tl ((tl.length : Int) - 1)) (rl.length : Int) + u3)) (at' rl ((rl.length : Int) - 1))], rh ++ [max (max (u1) (at' (at' tl ((tl.length : Int) - 1)) (rl.length : Int) + u3)) (at' rl ((rl.length : Int) - 1)) + max 0 (max (max (max (u1) (at' (at' tl ((tl.length : Int) - 1)) (rl.length : Int) + u3)) (at' rl ((rl.length : Int) - 1)) + (max (max (max (u1) (at' (at' tl ((tl.length : Int) - 1)) (rl.length : Int) + u3)) (at' rl ((rl.length : Int) - 1)) + (max (max (u1) (at' (at' tl ((tl.length : Int) - 1)) (rl.length : Int) + u3) + u2) (at' (at' th ((tl.length : Int) - 1)) (rl.length : Int)) - max (u1) (at' (at' tl ((tl.length : Int) - 1)) (rl.length : Int) + u3))) (at' rh ((rl.length : Int) - 1)) - max (max (u1) (at' (at' tl ((tl.length : Int) - 1)) (rl.length : Int) + u3)) (at' rl ((rl.length : Int) - 1)))) (at' (at' th ((tl.length : Int) - 1)) (rl.length : Int)) - max (max (u1) (at' (at' tl ((tl.length : Int) - 1)) (rl.length : Int) + u3)) (at' rl ((rl.length : Int) - 1)))], s3) [0, 1, 2, 3, 4, 8, 10] rfl ⟨by simp; omega, hr.snoc (by omega) (by omega) (by omega) (by omega)⟩ (by simp; omega) rfl ⟨.pt rfl, .pt rfl, .same (sl_no _), .same (sl_no _), .pt rfl, .same (.int _ _), .grown rfl (by simp) (by simp), .grown rfl (by simp) (by simp), .nn (.int _ _) (frz_int (by simp)), trivial⟩ ?_
              dsimp only
              rw [own2_ne (by simp)]
              exact ⟨.same (S1_no _), .same SR_no, SM_mv (.ms rfl) (.ms rfl), .same noS_rows, .same noS_rows, .snoc, .snoc, trivial⟩
          · have hrn : rl ≠ [] := List.ne_nil_of_length_pos (by omega)
            have hrn' : rh ≠ [] := List.ne_nil_of_length_pos (by omega)
            have sn := ht.snoc hr (by omega)
            rw [omsl_ne hrn, omsl_ne hrn', own2_ne hrn]
            conv => whnf
            refine condP.dec (fun h => absurd h (by omega)) (fun _ => ?_)
            conv => whnf
            refine .done (by simp) ?_
            conv => whnf
            refine .grow rfl rfl (by simp) (es' := [[.mslice 5 0 rl.length rl.length false]]) rfl (by simp) (fun e he => by simp at he; subst he; rfl) (fun e he c hc => by simp at he; subst he; simp at hc; subst hc; rfl) (r := tl.map el ++ [[.mslice 5 0 rl.length rl.length false]]) rfl (n' := tl.length + 1) (by simp) (by omega) ?_
            repeat' ((conv => whnf); first | (refine condP.dec (fun _ => ?_) (fun h => absurd (by omega) h)) | (refine .i64 (by omega) (by omega) ?_) | (refine onSome.intro (idx_fs rfl rfl (by omega) (by omega) (fun _ => rfl)) ?_) | (refine onSome.intro (load_fs rfl (by omega) (by omega) rfl) ?_) | (refine onSome.intro (idx_ms rfl rfl rfl (by omega) (by omega)) ?_) | (refine onSome.intro (load_ms rfl rfl (by omega) (by omega) rfl) ?_) | (refine And.intro rfl ?_) | (refine And.intro (load_fs rfl (by omega) (by omega) rfl) ?_) | (refine And.intro (idx_fs rfl rfl (by omega) (by omega) (fun _ => rfl)) ?_) | (refine And.intro (load_ms rfl rfl (by omega) (by omega) rfl) ?_) | (refine And.intro (idx_ms rfl rfl rfl (by omega) (by omega)) ?_))
            conv => whnf
            refine .grow rfl rfl (by simp) (es' := [[.mslice 6 0 rh.length rh.length false]]) rfl (by simp) (fun e he => by simp at he; subst he; rfl) (fun e he c hc => by simp at he; subst he; simp at hc; subst hc; rfl) (r := th.map el ++ [[.mslice 6 0 rh.length rh.length false]]) rfl (n' := th.length + 1) (by simp) (by omega) ?_
            repeat' ((conv => whnf); first | (refine condP.dec (fun _ => ?_) (fun h => absurd (by omega) h)) | (refine .i64 (by omega) (by omega) ?_) | (refine onSome.intro (idx_fs rfl rfl (by omega) (by omega) (fun _ => rfl)) ?_) | (refine onSome.intro (load_fs rfl (by omega) (by omega) rfl) ?_) | (refine onSome.intro (idx_ms rfl rfl rfl (by omega) (by omega)) ?_) | (refine onSome.intro (load_ms rfl rfl (by omega) (by omega) rfl) ?_) | (refine And.intro rfl ?_) | (refine And.intro (load_fs rfl (by omega) (by omega) rfl) ?_) | (refine And.intro (idx_fs rfl rfl (by omega) (by omega) (fun _ => rfl)) ?_) | (refine And.intro (load_ms rfl rfl (by omega) (by omega) rfl) ?_) | (refine And.intro (idx_ms rfl rfl rfl (by omega) (by omega)) ?_))
            conv => whnf
            refine .more (tl ++ [rl], th ++ [rh], s) [0, 1, 2, 8, 10] rfl ⟨by simp; omega, sn⟩ (by simp; omega) rfl ⟨.pt rfl, .pt rfl, .same (sl_no _), .same (sl_no _), .pt rfl, .nn (.int _ _) (frz_int (by simp)), trivial⟩ ?_
            dsimp only
            rw [own2_ne (by simp)]
            exact ⟨.same (S1_no _), .same SR_no, SM_mv (.grown rfl (by simp) (by simp)) (.grown rfl (by simp) (by simp)),
              .nn noS_rows (row_frz (rows := tl) rfl (fun _ _ h => by cases h) rfl rfl).slot, .nn noS_rows (row_frz (rows := th) rfl (fun _ _ h => by cases h) rfl rfl).slot, trivial⟩
      · have htn : tl ≠ [] := List.ne_nil_of_length_pos (by omega)
        have htn' : th ≠ [] := List.ne_nil_of_length_pos (by omega)
        have fo := ht.fam (g := g) (by omega) hgw hpw n0 (by omega) m0 (by omega)
        rw [omsl_ne htn, omsl_ne htn', own2_ne htn]
        conv => whnf
        refine condP.dec (fun h => absurd h (by omega)) (fun _ => ?_)
        conv => whnf
        refine .done (by simp) ?_
        conv => whnf
        exact .intro (famI g p tl th) (S1 s) ⟨tl, th, s, rfl, fo, rfl⟩ (famI_no ..) (S1_no _) (.one (.inl rfl) rfl rfl (.aggL (.cons (.refl _) (.cons (.refl _) (.cons (.whole (sz := 1) rfl (fun _ _ h => by cases h) (by simp) (.refl _)) (.cons (.whole (sz := 1) rfl (fun _ _ h => by cases h) (by simp) (.refl _)) .nil))))) (famI_no ..)))
  obtain ⟨v, z, ⟨lo, hi, s', rfl, fo, rfl⟩, _, _, hh⟩ := key
  exact ⟨g, p, lo, hi, s', ⟨fo, hg, hp, by omega, by omega⟩, fun H n hn => hh H n hn⟩

end Go.Proofs.YtlfaglkkeahamaaGreat.I
