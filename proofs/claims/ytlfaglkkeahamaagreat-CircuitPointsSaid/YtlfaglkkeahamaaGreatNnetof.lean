/- Nets that are made of numbers: NetOf. -/
import Derived.Test.YtlfaglkkeahamaaGreatNkit
set_option linter.unusedVariables false
set_option maxHeartbeats 64000000
set_option linter.unusedSimpArgs false
namespace Go.Proofs.YtlfaglkkeahamaaGreat.I
open Go.Ideal

theorem len_om {H : Heap} {E : Env} {x : Opd} {α : Type} {b : Nat} {l : List α} (hx : x.ev E = omsl b l) : iop H E (.len x) = some (.int .i64 (l.length : Int)) := by
  simp only [iop, hx]
  cases l <;> rfl
theorem idx_F {H : Heap} {E : Env} {x i : Opd} {α : Type} {l : List α} {enc : α → List IV} {k : IntKind} {n : Int} {sz : Nat} (hx : x.ev E = .fslice (l.map enc)) (hi : i.ev E = .int k n) (h0 : 0 ≤ n) (h1 : n < l.length) (hs : ∀ a, (enc a).length = sz) :
    iop H E (.indexF sz x i) = some (.cptr (l.map enc) n.toNat 0) := by
  have := idx_fs (H := H) (E := E) hx hi h0 h1 hs
  simpa only [iop, hx, hi] using this
theorem load_F {H : Heap} {E : Env} {x : Opd} {α : Type} [Inhabited α] {l : List α} {enc : α → List IV} {ag : Bool} {n off : Nat} {i : Int} {v : IV} (hx : x.ev E = .cptr (l.map enc) i.toNat off) (h0 : 0 ≤ i) (h1 : i < l.length) (hr : readCells ag (enc (at' l i)) off n = some v) :
    iop H E (.loadF ag n x) = some v := by
  have := load_fs (H := H) (E := E) hx h0 h1 hr
  simpa only [iop, loadI, hx] using this
theorem pick3 {a b c z : Int} (h0 : 0 ≤ z) (h1 : z < 3 ∨ z = 0) (P : Int → Prop) (ha : P a) (hb : P b) (hc : P c) : z < 3 ∧ P (at' [a, b, c] z) := by
  rcases (show z = 0 ∨ z = 1 ∨ z = 2 by omega) with rfl | rfl | rfl
  · exact ⟨by decide, ha⟩
  · exact ⟨by decide, hb⟩
  · exact ⟨by decide, hc⟩
theorem pick2 {a b z : Int} (h0 : 0 ≤ z) (h1 : z < 2 ∨ z = 0) (P : Int → Prop) (ha : P a) (hb : P b) : z < 2 ∧ P (at' [a, b] z) := by
  rcases (show z = 0 ∨ z = 1 by omega) with rfl | rfl
  · exact ⟨by decide, ha⟩
  · exact ⟨by decide, hb⟩
theorem Frz.taps {H H' : Heap} {b len lb : Nat} {ex : Bool} {l : List Tap} (hH : H b = .live 3 (l.map Tap.R)) (hH' : ∀ sz e, H' b ≠ .live sz e) (hl : len = l.length) : Frz H H' (.mslice b 0 len lb ex) (tapsI l) :=
  .whole (sz := 3) (es := l.map Tap.R) hH hH' (by simpa using hl) (.refl _)
theorem noS_row2 (a b : Int) : NonameS (.live 1 [[.int .i64 a], [.int .i64 b]]) := noS_ints (l := [a, b])
structure TapsTo (m : Int) (k : Nat) (l : List Tap) : Prop where
  len : l.length ≤ 4
  ok : ∀ i : Nat, i < l.length → (at' l (i : Int)).Ok m
  lt : ∀ i : Nat, i < l.length → (at' l (i : Int)).node < k
  asc : ∀ i : Nat, 0 < i → i < l.length → (at' l ((i : Int) - 1)).node < (at' l (i : Int)).node
theorem TapsTo.nil (m : Int) : TapsTo m 0 [] := ⟨by simp, fun i h => by simp at h, fun i h => by simp at h, fun i _ h => by simp at h⟩
theorem TapsTo.skip {m : Int} {k : Nat} {l : List Tap} (h : TapsTo m k l) : TapsTo m (k + 1) l := ⟨h.len, h.ok, fun i hi => by have := h.lt i hi; omega, h.asc⟩
theorem at'_last {α : Type} [Inhabited α] {l : List α} {a : α} : at' (l ++ [a]) (l.length : Int) = a := by
  have := at'_right (a := l) (b := [a]) (i := 0)
  exact this
theorem TapsTo.snoc {m : Int} {k : Nat} {l : List Tap} (h : TapsTo m k l) (h4 : l.length < 4) (hk : (k : Int) < m) {u d : Int} (u0 : 0 ≤ u) (u1 : u ≤ 1000) (d0 : 1 ≤ d) (d1 : d ≤ 1000) : TapsTo m (k + 1) (l ++ [⟨k, u, d⟩]) := by
  have hl : (l ++ [(⟨k, u, d⟩ : Tap)]).length = l.length + 1 := by simp
  refine ⟨by omega, fun i hi => ?_, fun i hi => ?_, fun i h0 hi => ?_⟩
  · rcases Nat.lt_or_ge i l.length with c | c
    · rw [at'_left c]; exact h.ok i c
    · obtain rfl : i = l.length := by omega
      rw [at'_last]; exact ⟨by dsimp only; omega, hk, u0, u1, d0, d1⟩
  · rcases Nat.lt_or_ge i l.length with c | c
    · rw [at'_left c]; have := h.lt i c; omega
    · obtain rfl : i = l.length := by omega
      rw [at'_last]; dsimp only; omega
  · rw [show (i : Int) - 1 = ((i - 1 : Nat) : Int) by omega]
    rcases Nat.lt_or_ge i l.length with c | c
    · rw [at'_left c, at'_left (by omega), show ((i - 1 : Nat) : Int) = (i : Int) - 1 by omega]; exact h.asc i h0 c
    · obtain rfl : i = l.length := by omega
      rw [at'_last, at'_left (by omega)]
      exact h.lt (l.length - 1) (by omega)
/-- A stage that is made of numbers. -/
structure MadeS (nt m : Int) (fw : Bool) (low : Int) (s : Stg) : Prop where
  ok : s.Ok nt m
  fwd : fw = true → ∀ k : Nat, k < s.taps.length → (at' s.taps (k : Int)).node < low
  su : s.su.hi ≤ 309000
  ld : s.ld.hi ≤ 220000
structure MadeN (n : Net) (st ins : Int) (fw : Bool) : Prop where
  ok : n.Ok
  st : (n.stages.length : Int) ≤ st
  ins : n.ins ≤ ins
  made : ∀ i : Nat, i < n.stages.length → MadeS n.tubes.length (n.ins + n.stages.length) fw (n.ins + i) (at' n.stages (i : Int))
theorem MadeN.fwd {n : Net} {st ins : Int} (h : MadeN n st ins true) : n.Fwd := fun i hi k hk => (h.made i hi).fwd rfl k hk

theorem NetOf_any (S st inp : Int) (fw : Bool) (st0 : 1 ≤ st) (st1 : st ≤ 6) (in0 : 0 ≤ inp) (in1 : inp ≤ 4) : ∃ (n : Net) (s' : Int), MadeN n st inp fw ∧
    ∀ (H : Heap) (b : Nat), H b = S1 S → Ev T (.call (.func (.func 21) [] []) [.ptr b 0 0, .int .i64 st, .int .i64 inp, .bool fw] H) (.call n.I (H.set b (S1 s'))) := by
  have key := run_one_some T21 (i := 0) (off := 0) (args := [.int .i64 st, .int .i64 inp, .bool fw]) (s := S1 S) (P := fun v z => ∃ (n : Net) (s' : Int), v = n.I ∧ z = S1 s' ∧ MadeN n st inp fw)
    (nn_cons (nn_int _ _) (nn_cons (nn_int _ _) (nn_cons (.bool _) nn_none))) (S1_no _) (by
    have q := FamilyOf_ok S
    obtain ⟨fg, fp, flo, fhi, s1, hF, k1⟩ := q
    have hF : Fam.Ok ⟨fg, fp, flo, fhi⟩ := hF.fam
    have k1 : ∀ (H : Heap) (n : Nat), H n = S1 S → Ev T (.call (.func (.func 69) [] []) [.ptr n 0 0] H) (.call (Fam.I ⟨fg, fp, flo, fhi⟩) (H.set n (S1 s1))) := k1
    generalize (⟨fg, fp, flo, fhi⟩ : Fam) = F at *
    have q := Upto_any s1 (inp + 1) (by omega)
    obtain ⟨ins, s2, ins0, ins1, k2⟩ := q
    have ins1 : ins ≤ inp := by omega
    have q := One_any s2 3 (by omega)
    obtain ⟨w, s3, k3⟩ := q
    cases w
    · have q := Between_any s3 1 st (by omega) (by omega) (by omega)
      obtain ⟨many, S0, m0, m1, k5⟩ := q
      repeat' ((conv => whnf); first | (refine CallP.one (fun H hb => k1 H _ hb) rfl ?_) | (refine CallP.one (fun H hb => k2 H _ hb) rfl ?_) | (refine CallP.one (fun H hb => k3 H _ hb) rfl ?_) | (refine CallP.one (fun H hb => k5 H _ hb) rfl ?_) | (first | refine condP.dec (fun h => ?_) (fun h => ?_) | refine condP.eq (fun h => ?_) (fun h => ?_) | refine condP.ne (fun h => ?_) (fun h => ?_)) | (refine .i64 (by omega) (by omega) ?_) | (refine onSome.intro (idx_fs rfl rfl (by omega) (by omega) (fun _ => rfl)) ?_) | (refine onSome.intro (load_fs rfl (by omega) (by omega) rfl) ?_) | (refine And.intro rfl ?_))
      refine .pad 1 ?_
      refine loop_grow (X := Nat × List Stg × Int) (fun x => [(0, .ptr 0 0 0), (3, .bool fw), (8, .ptr 1 0 0), (9, .ptr 3 0 0), (10, .int .i64 many), (11, .int .i64 x.1)]) (fun x => [S1 x.2.2, .live 3 [[.nilslice, .int .i64 0, .nilslice]], .live 4 ([F].map Fam.R), .live 3 [[.mslice 2 0 1 1 true, .int .i64 ins, omsl 4 x.2.1]], lsS 8 Stg.R x.2.1])
        (fun x => many.toNat - x.1) (fun x => (x.1 : Int) ≤ many ∧ x.2.1.length = x.1 ∧ ∀ j : Nat, j < x.1 → MadeS 1 (ins + many) fw (ins + j) (at' x.2.1 (j : Int))) (0, [], S0) ⟨by dsimp only; omega, rfl, fun j hj => absurd hj (Nat.not_lt_zero _)⟩ ⟨rfl, rfl, rfl, rfl, rfl, rfl, trivial⟩ rfl (fun x hx => ?_)
      obtain ⟨i, ss, s⟩ := x
      obtain ⟨hi, hl, hall⟩ := hx
      dsimp only at hi hl hall ⊢
      by_cases hlt : (i : Int) < many
      rotate_left
      · obtain rfl : (i : Int) = many := by omega
        have hmade : MadeN ⟨[F], ins, ss⟩ st inp fw := by
          have e : ((ss.length : Nat) : Int) = (i : Int) := by omega
          refine ⟨⟨by simp, by simp, fun j hj => ?_, ins0, by dsimp only; omega, by dsimp only; omega, by dsimp only; omega, fun j hj => ?_⟩, by dsimp only; omega, ins1, fun j hj => ?_⟩
          · dsimp only at hj ⊢
            obtain rfl : j = 0 := by simp at hj; exact hj
            exact hF
          · have := (hall j (by dsimp only at hj; omega)).ok
            dsimp only
            rw [e]
            exact this
          · have := hall j (by dsimp only at hj; omega)
            dsimp only
            rw [e]
            exact this
        repeat' ((conv => whnf); first | (refine force_om ?_) | (refine forceC_om ?_) | (refine condP.dec (fun h => absurd h (by omega)) (fun _ => ?_)) | (first | refine condP.dec (fun h => ?_) (fun h => ?_) | refine condP.eq (fun h => ?_) (fun h => ?_) | refine condP.ne (fun h => ?_) (fun h => ?_)) | (refine .i64 (by omega) (by omega) ?_) | (refine onSome.intro (idx_fs rfl rfl (by omega) (by omega) (fun _ => rfl)) ?_) | (refine onSome.intro (load_fs rfl (by omega) (by omega) rfl) ?_) | (refine And.intro rfl ?_))
        refine .done (by simp) ?_
        repeat' ((conv => whnf); first | (refine force_om ?_) | (refine forceC_om ?_) | (first | refine condP.dec (fun h => ?_) (fun h => ?_) | refine condP.eq (fun h => ?_) (fun h => ?_) | refine condP.ne (fun h => ?_) (fun h => ?_)) | (refine .i64 (by omega) (by omega) ?_) | (refine onSome.intro (idx_fs rfl rfl (by omega) (by omega) (fun _ => rfl)) ?_) | (refine onSome.intro (load_fs rfl (by omega) (by omega) rfl) ?_) | (refine And.intro rfl ?_))
        rcases ss with _ | ⟨u, ss⟩
        · exfalso; simp at hl; omega
        conv => whnf
        exact .intro (Net.I ⟨[F], ins, u :: ss⟩) (S1 s) ⟨_, s, rfl, rfl, hmade⟩ (Net.I_no _) (S1_no _) (.one (u := .agg [.mslice 2 0 1 1 true, .int .i64 ins, .mslice 4 0 (ss.length + 1) (ss.length + 1) false]) (.inl rfl) rfl rfl (.aggL (.cons (.whole (sz := 4) (es := [F].map Fam.R) rfl (fun _ _ h => by cases h) rfl (.refl _)) (.cons (.refl _) (.cons (.whole (sz := 8) (es := (u :: ss).map Stg.R) rfl (fun _ _ h => by cases h) (by simp) (.refl _)) .nil)))) (Net.I_no _))
      have q := Upto_any s 1 (by omega)
      obtain ⟨tb, s1, tb0, tb1, j1⟩ := q
      have q := Between_any s1 1 300000 (by omega) (by omega) (by omega)
      obtain ⟨c1, s2, c10, c11, j2⟩ := q
      have q := About_any s2 c1 9000 0 1000000 (by omega) (by omega) (by omega) (by omega) (by omega) (by omega) (by omega)
      obtain ⟨su, s3, hsu, hsu2, j3⟩ := q
      have q := Between_any s3 1 5000 (by omega) (by omega) (by omega)
      obtain ⟨a1, s4, a10, a11, j4⟩ := q
      have q := Between_any s4 1 200000 (by omega) (by omega) (by omega)
      obtain ⟨a2, s5, a20, a21, j5⟩ := q
      have q := Upto_any s5 2 (by omega)
      obtain ⟨z, s6, z0, z1, j6⟩ := q
      have hc2b := pick2 z0 z1 (fun c => 1 ≤ c ∧ c ≤ 200000) (a := a1) (b := a2) (by omega) (by omega)
      obtain ⟨z2, hc2b⟩ := hc2b
      generalize hca : at' [a1, a2] z = c2 at *
      have q := About_any s6 c2 20000 1 1000000 (by omega) (by omega) (by omega) (by omega) (by omega) (by omega) (by omega)
      obtain ⟨ld, s7, hld, hld2, j7⟩ := q
      have q := Between_any s7 (-9000) 500 (by omega) (by omega) (by omega)
      obtain ⟨c3, s8, c30, c31, j8⟩ := q
      have q := About_any s8 c3 300 (-1000000) 1000000 (by omega) (by omega) (by omega) (by omega) (by omega) (by omega) (by omega)
      obtain ⟨bi, s9, hbi, _, j9⟩ := q
      have hlast : ∃ last : Int, (fw = true → last = ins + i) ∧ (fw = false → last = ins + many) := by
        cases fw
        · exact ⟨ins + many, (fun h => nomatch h), fun _ => rfl⟩
        · exact ⟨ins + i, fun _ => rfl, (fun h => nomatch h)⟩
      obtain ⟨last, hla, hlb⟩ := hlast
      have hlm : last ≤ ins + many ∧ 0 ≤ last := by
        cases fw
        · have := hlb rfl; omega
        · have := hla rfl; omega
      repeat' ((conv => whnf); first | (refine force_om ?_) | (refine forceC_om ?_) | (refine condP.dec (fun _ => ?_) (fun h => absurd (by omega) h)) | (refine CallP.one (fun H hb => j1 H _ hb) rfl ?_) | (refine CallP.one (fun H hb => j2 H _ hb) rfl ?_) | (refine CallP.one (fun H hb => j3 H _ hb) rfl ?_) | (refine CallP.one (fun H hb => j4 H _ hb) rfl ?_) | (refine CallP.one (fun H hb => j5 H _ hb) rfl ?_) | (refine CallP.one (fun H hb => j6 H _ hb) rfl ?_) | (refine CallP.one (fun H hb => j7 H _ hb) rfl ?_) | (refine CallP.one (fun H hb => j8 H _ hb) rfl ?_) | (refine CallP.one (fun H hb => j9 H _ hb) rfl ?_) | (refine onSome.intro (idx_ms (n := z) rfl rfl rfl (by omega) (by simp; omega)) ?_) | (refine onSome.intro (load_ms (l := [a1, a2]) (enc := ei) (i := z) (v := .int .i64 c2) rfl rfl (by omega) (by simp; omega) (by rw [hca]; rfl)) ?_) | (refine condP.intro (fun hfw => ?_) (fun hfw => ?_)) | (first | refine condP.dec (fun h => ?_) (fun h => ?_) | refine condP.eq (fun h => ?_) (fun h => ?_) | refine condP.ne (fun h => ?_) (fun h => ?_)) | (refine .i64 (by omega) (by omega) ?_) | (refine onSome.intro (idx_fs rfl rfl (by omega) (by omega) (fun _ => rfl)) ?_) | (refine onSome.intro (load_fs rfl (by omega) (by omega) rfl) ?_) | (refine And.intro rfl ?_))
      all_goals first | have hle := hla (by assumption) | have hle := hlb (by assumption)
      all_goals refine .pad 1 ?_
      all_goals
        refine loop_grow (X := Nat × List Tap × Int) (fun x => [(0, .ptr 0 0 0), (3, .bool fw), (8, .ptr 1 0 0), (9, .ptr 3 0 0), (10, .int .i64 many), (11, .int .i64 i), (12, .ptr 6 0 0), (13, .int .i64 last), (14, .int .i64 x.1)]) (fun x => [S1 x.2.2, .live 3 [[.nilslice, .int .i64 0, .nilslice]], .live 4 ([F].map Fam.R), .live 3 [[.mslice 2 0 1 1 true, .int .i64 ins, omsl 4 ss]], lsS 8 Stg.R ss, .live 1 [[.int .i64 a1], [.int .i64 a2]], .live 8 [[.int .i64 tb, .int .i64 su.lo, .int .i64 su.hi, .int .i64 ld.lo, .int .i64 ld.hi, .int .i64 bi.lo, .int .i64 bi.hi, omsl 7 x.2.1]], lsS 3 Tap.R x.2.1])
          (fun x => last.toNat - x.1) (fun x => (x.1 : Int) ≤ last ∧ TapsTo (ins + many) x.1 x.2.1) (0, [], s9) ⟨by dsimp only; omega, TapsTo.nil _⟩ ⟨rfl, rfl, rfl, rfl, rfl, rfl, rfl, by show i6 _ = i6 _; congr 1; omega, rfl, trivial⟩ rfl (fun x hx => ?_)
        obtain ⟨k, tp, s⟩ := x
        obtain ⟨hk, htp⟩ := hx
        dsimp only at hk htp ⊢
        have htl := htp.len
        by_cases hgo : (k : Int) < last ∧ tp.length < 4
        · obtain ⟨hk2, h4⟩ := hgo
          have q := One_any s 2 (by omega)
          obtain ⟨w, t1, i1⟩ := q
          cases w
          · repeat' ((conv => whnf); first | (refine force_om ?_) | (refine forceC_om ?_) | (refine condP.dec (fun _ => ?_) (fun h => absurd (by omega) h)) | (refine onSome.intro (len_om rfl) ?_) | (refine CallP.one (fun H hb => i1 H _ hb) rfl ?_) | (first | refine condP.dec (fun h => ?_) (fun h => ?_) | refine condP.eq (fun h => ?_) (fun h => ?_) | refine condP.ne (fun h => ?_) (fun h => ?_)) | (refine .i64 (by omega) (by omega) ?_) | (refine onSome.intro (idx_fs rfl rfl (by omega) (by omega) (fun _ => rfl)) ?_) | (refine onSome.intro (load_fs rfl (by omega) (by omega) rfl) ?_) | (refine And.intro rfl ?_))
            conv => whnf
            exact .more (k + 1, tp, t1) [0, 1, 2, 3, 4, 5, 6, 7] rfl ⟨by dsimp only; omega, htp.skip⟩ (by dsimp only; omega) rfl ⟨.pt rfl, .same (.bool _), .pt rfl, .pt rfl, .same (.int _ _), .same (.int _ _), .pt rfl, .same (.int _ _), .nn (.int _ _) (frz_int (by dsimp only; omega)), trivial⟩
              ⟨.same (S1_no _), .same (noS_row (nn_cons .nilslice (nn_cons (.int _ _) (nn_cons .nilslice nn_none)))), .same (noS_map Fam.R_no), .row (.cons (.ms rfl) (.cons (.same (.int _ _)) (.cons (.omsl rfl) .nil))), .same (lsS_no Stg.R_no), .same (noS_row2 a1 a2), .row (.cons (.same (.int _ _)) (.cons (.same (.int _ _)) (.cons (.same (.int _ _)) (.cons (.same (.int _ _)) (.cons (.same (.int _ _)) (.cons (.same (.int _ _)) (.cons (.same (.int _ _)) (.cons (.omsl rfl) .nil)))))))), .same (lsS_no Tap.R_no), trivial⟩
          · have q := Upto_any t1 30 (by omega)
            obtain ⟨u, t2, u0, u1, i2⟩ := q
            have q := Upto_any t2 2 (by omega)
            obtain ⟨q2, t3, q20, q21, i3⟩ := q
            have q := Between_any t3 1 1000 (by omega) (by omega) (by omega)
            obtain ⟨d, t4, d0, d1, i4⟩ := q
            have q := Upto_any t4 3 (by omega)
            obtain ⟨q3, t5, q30, q31, i5⟩ := q
            have hn := pick2 q20 q21 (fun c => 0 ≤ c ∧ c ≤ 1000) (a := 1) (b := u) (by omega) (by omega)
            have hd := pick3 q30 q31 (fun c => 1 ≤ c ∧ c ≤ 1000) (a := 1) (b := 20) (c := d) (by omega) (by omega) (by omega)
            obtain ⟨q22, hn⟩ := hn
            obtain ⟨q32, hd⟩ := hd
            generalize hna : at' [1, u] q2 = num at *
            generalize hda : at' [1, 20, d] q3 = den at *
            repeat' ((conv => whnf); first | (refine force_om ?_) | (refine forceC_om ?_) | (refine condP.dec (fun _ => ?_) (fun h => absurd (by omega) h)) | (refine onSome.intro (len_om rfl) ?_) | (refine CallP.one (fun H hb => i1 H _ hb) rfl ?_) | (refine CallP.one (fun H hb => i2 H _ hb) rfl ?_) | (refine CallP.one (fun H hb => i3 H _ hb) rfl ?_) | (refine CallP.one (fun H hb => i4 H _ hb) rfl ?_) | (refine CallP.one (fun H hb => i5 H _ hb) rfl ?_) | (refine onSome.intro (idx_F (l := [1, u]) (enc := ei) (n := q2) rfl rfl (by omega) (by simp; omega) (fun _ => rfl)) ?_) | (refine onSome.intro (load_F (l := [1, u]) (enc := ei) (i := q2) (v := .int .i64 num) rfl (by omega) (by simp; omega) (by rw [hna]; rfl)) ?_) | (refine onSome.intro (idx_F (l := [1, 20, d]) (enc := ei) (n := q3) rfl rfl (by omega) (by simp; omega) (fun _ => rfl)) ?_) | (refine onSome.intro (load_F (l := [1, 20, d]) (enc := ei) (i := q3) (v := .int .i64 den) rfl (by omega) (by simp; omega) (by rw [hda]; rfl)) ?_) | (first | refine condP.dec (fun h => ?_) (fun h => ?_) | refine condP.eq (fun h => ?_) (fun h => ?_) | refine condP.ne (fun h => ?_) (fun h => ?_)) | (refine .i64 (by omega) (by omega) ?_) | (refine onSome.intro (idx_fs rfl rfl (by omega) (by omega) (fun _ => rfl)) ?_) | (refine onSome.intro (load_fs rfl (by omega) (by omega) rfl) ?_) | (refine And.intro rfl ?_))
            conv => whnf
            refine .snocM (enc := Tap.R) (l := tp) (b := 7) ⟨k, num, den⟩ rfl rfl rfl rfl (fun c hc => by simp [Tap.R] at hc; rcases hc with rfl | rfl | rfl <;> rfl) (by omega) ?_
            (repeat ((conv => whnf); refine And.intro rfl ?_)); conv => whnf
            refine .i64 (by omega) (by omega) ?_
            conv => whnf
            exact .more (k + 1, tp ++ [⟨k, num, den⟩], t5) [0, 1, 2, 3, 4, 5, 6, 8] rfl ⟨by dsimp only; omega, htp.snoc h4 (by omega) hn.1 hn.2 hd.1 hd.2⟩ (by dsimp only; omega) rfl ⟨.pt rfl, .same (.bool _), .pt rfl, .pt rfl, .same (.int _ _), .same (.int _ _), .pt rfl, .same (.int _ _), .nn (.int _ _) (frz_int (by dsimp only; omega)), trivial⟩
              ⟨.same (S1_no _), .same (noS_row (nn_cons .nilslice (nn_cons (.int _ _) (nn_cons .nilslice nn_none)))), .same (noS_map Fam.R_no), .row (.cons (.ms rfl) (.cons (.same (.int _ _)) (.cons (.omsl rfl) .nil))), .same (lsS_no Stg.R_no), .same (noS_row2 a1 a2), .row (.cons (.same (.int _ _)) (.cons (.same (.int _ _)) (.cons (.same (.int _ _)) (.cons (.same (.int _ _)) (.cons (.same (.int _ _)) (.cons (.same (.int _ _)) (.cons (.same (.int _ _)) (.cons (.grown rfl (by simp) (by simp)) .nil)))))))), .lsM (by simp) Tap.R_no, trivial⟩
        · have hnew : ∀ j : Nat, j < i + 1 → MadeS 1 (ins + many) fw (ins + j) (at' (ss ++ [(⟨tb, su, ld, bi, tp⟩ : Stg)]) (j : Int)) := fun j hj => by
            rcases Nat.lt_or_ge j i with c | c
            · rw [at'_left (by omega)]; exact hall j c
            · obtain rfl : j = i := by omega
              rw [← hl, at'_last]
              exact ⟨⟨tb0, by dsimp only; omega, hsu, hld, hbi, ⟨htp.len, htp.ok, htp.asc⟩⟩, fun hf k2 hk2 => by have := htp.lt k2 hk2; have := hla hf; dsimp only at this ⊢; omega, by dsimp only; omega, by dsimp only; omega⟩
          by_cases hk2 : (k : Int) < last
          · have hgo : 4 ≤ tp.length := by
              rcases Nat.lt_or_ge tp.length 4 with c | c
              · exact absurd ⟨hk2, c⟩ hgo
              · exact c
            rcases tp with _ | ⟨t0, tp⟩
            · simp at hgo
            · rw [List.length_cons] at hgo
              repeat' ((conv => whnf); first | (refine force_om ?_) | (refine forceC_om ?_) | (refine condP.dec (fun _ => ?_) (fun h => absurd (by omega) h)) | (refine condP.dec (fun h => absurd h (by omega)) (fun _ => ?_)) | (refine onSome.intro (len_om rfl) ?_) | (first | refine condP.dec (fun h => ?_) (fun h => ?_) | refine condP.eq (fun h => ?_) (fun h => ?_) | refine condP.ne (fun h => ?_) (fun h => ?_)) | (refine .i64 (by omega) (by omega) ?_) | (refine onSome.intro (idx_fs rfl rfl (by omega) (by omega) (fun _ => rfl)) ?_) | (refine onSome.intro (load_fs rfl (by omega) (by omega) rfl) ?_) | (refine And.intro rfl ?_))
              refine .done (by simp) ?_
              repeat' ((conv => whnf); first | (refine force_om ?_) | (refine forceC_om ?_) | (refine condP.dec (fun _ => ?_) (fun h => absurd (by omega) h)) | (refine condP.dec (fun h => absurd h (by omega)) (fun _ => ?_)) | (refine onSome.intro (len_om rfl) ?_) | (first | refine condP.dec (fun h => ?_) (fun h => ?_) | refine condP.eq (fun h => ?_) (fun h => ?_) | refine condP.ne (fun h => ?_) (fun h => ?_)) | (refine .i64 (by omega) (by omega) ?_) | (refine onSome.intro (idx_fs rfl rfl (by omega) (by omega) (fun _ => rfl)) ?_) | (refine onSome.intro (load_fs rfl (by omega) (by omega) rfl) ?_) | (refine And.intro rfl ?_))
              conv => whnf
              refine .snoc (enc := Stg.R) (l := ss) (b := 4) (r := [.int .i64 tb, .int .i64 su.lo, .int .i64 su.hi, .int .i64 ld.lo, .int .i64 ld.hi, .int .i64 bi.lo, .int .i64 bi.hi, .mslice 7 0 (tp.length + 1) (tp.length + 1) false]) rfl rfl rfl rfl (fun c hc => by simp at hc; rcases hc with rfl | rfl | rfl | rfl | rfl | rfl | rfl | rfl <;> rfl) (by omega) ?_
              (repeat ((conv => whnf); refine And.intro rfl ?_)); conv => whnf
              refine .i64 (by omega) (by omega) ?_
              conv => whnf
              exact .more (i + 1, ss ++ [⟨tb, su, ld, bi, (t0 :: tp)⟩], s) [0, 1, 2, 3, 9] rfl ⟨by dsimp only; omega, by simp; omega, hnew⟩ (by dsimp only; omega) rfl ⟨.pt rfl, .same (.bool _), .pt rfl, .pt rfl, .same (.int _ _), .nn (.int _ _) (frz_int (by dsimp only; omega)), trivial⟩
                ⟨.same (S1_no _), .same (noS_row (nn_cons .nilslice (nn_cons (.int _ _) (nn_cons .nilslice nn_none)))), .same (noS_map Fam.R_no), .row (.cons (.ms rfl) (.cons (.same (.int _ _)) (.cons (.grown rfl (by simp) (by simp)) .nil))), .snocL (enc := Stg.R) (a := ⟨tb, su, ld, bi, (t0 :: tp)⟩) Stg.R_no (.cons (.same (.int _ _)) (.cons (.same (.int _ _)) (.cons (.same (.int _ _)) (.cons (.same (.int _ _)) (.cons (.same (.int _ _)) (.cons (.same (.int _ _)) (.cons (.same (.int _ _)) (.cons (.nn (tapsI_no (t0 :: tp)) (Frz.taps (b := 7) (l := t0 :: tp) rfl (fun _ _ h => by cases h) rfl)) .nil)))))))), trivial⟩
          · rcases tp with _ | ⟨t0, tp⟩
            · skip
              repeat' ((conv => whnf); first | (refine force_om ?_) | (refine forceC_om ?_) | (refine condP.dec (fun _ => ?_) (fun h => absurd (by omega) h)) | (refine condP.dec (fun h => absurd h (by omega)) (fun _ => ?_)) | (refine onSome.intro (len_om rfl) ?_) | (first | refine condP.dec (fun h => ?_) (fun h => ?_) | refine condP.eq (fun h => ?_) (fun h => ?_) | refine condP.ne (fun h => ?_) (fun h => ?_)) | (refine .i64 (by omega) (by omega) ?_) | (refine onSome.intro (idx_fs rfl rfl (by omega) (by omega) (fun _ => rfl)) ?_) | (refine onSome.intro (load_fs rfl (by omega) (by omega) rfl) ?_) | (refine And.intro rfl ?_))
              refine .done (by simp) ?_
              repeat' ((conv => whnf); first | (refine force_om ?_) | (refine forceC_om ?_) | (refine condP.dec (fun _ => ?_) (fun h => absurd (by omega) h)) | (refine condP.dec (fun h => absurd h (by omega)) (fun _ => ?_)) | (refine onSome.intro (len_om rfl) ?_) | (first | refine condP.dec (fun h => ?_) (fun h => ?_) | refine condP.eq (fun h => ?_) (fun h => ?_) | refine condP.ne (fun h => ?_) (fun h => ?_)) | (refine .i64 (by omega) (by omega) ?_) | (refine onSome.intro (idx_fs rfl rfl (by omega) (by omega) (fun _ => rfl)) ?_) | (refine onSome.intro (load_fs rfl (by omega) (by omega) rfl) ?_) | (refine And.intro rfl ?_))
              conv => whnf
              refine .snoc (enc := Stg.R) (l := ss) (b := 4) (r := [.int .i64 tb, .int .i64 su.lo, .int .i64 su.hi, .int .i64 ld.lo, .int .i64 ld.hi, .int .i64 bi.lo, .int .i64 bi.hi, .nilslice]) rfl rfl rfl rfl (fun c hc => by simp at hc; rcases hc with rfl | rfl | rfl | rfl | rfl | rfl | rfl | rfl <;> rfl) (by omega) ?_
              (repeat ((conv => whnf); refine And.intro rfl ?_)); conv => whnf
              refine .i64 (by omega) (by omega) ?_
              conv => whnf
              exact .more (i + 1, ss ++ [⟨tb, su, ld, bi, []⟩], s) [0, 1, 2, 3, 9] rfl ⟨by dsimp only; omega, by simp; omega, hnew⟩ (by dsimp only; omega) rfl ⟨.pt rfl, .same (.bool _), .pt rfl, .pt rfl, .same (.int _ _), .nn (.int _ _) (frz_int (by dsimp only; omega)), trivial⟩
                ⟨.same (S1_no _), .same (noS_row (nn_cons .nilslice (nn_cons (.int _ _) (nn_cons .nilslice nn_none)))), .same (noS_map Fam.R_no), .row (.cons (.ms rfl) (.cons (.same (.int _ _)) (.cons (.grown rfl (by simp) (by simp)) .nil))), .snocL (enc := Stg.R) (a := ⟨tb, su, ld, bi, []⟩) Stg.R_no (.cons (.same (.int _ _)) (.cons (.same (.int _ _)) (.cons (.same (.int _ _)) (.cons (.same (.int _ _)) (.cons (.same (.int _ _)) (.cons (.same (.int _ _)) (.cons (.same (.int _ _)) (.cons (.nn (tapsI_no []) .nil) .nil)))))))), trivial⟩
            · rw [List.length_cons] at htl
              repeat' ((conv => whnf); first | (refine force_om ?_) | (refine forceC_om ?_) | (refine condP.dec (fun _ => ?_) (fun h => absurd (by omega) h)) | (refine condP.dec (fun h => absurd h (by omega)) (fun _ => ?_)) | (refine onSome.intro (len_om rfl) ?_) | (first | refine condP.dec (fun h => ?_) (fun h => ?_) | refine condP.eq (fun h => ?_) (fun h => ?_) | refine condP.ne (fun h => ?_) (fun h => ?_)) | (refine .i64 (by omega) (by omega) ?_) | (refine onSome.intro (idx_fs rfl rfl (by omega) (by omega) (fun _ => rfl)) ?_) | (refine onSome.intro (load_fs rfl (by omega) (by omega) rfl) ?_) | (refine And.intro rfl ?_))
              refine .done (by simp) ?_
              repeat' ((conv => whnf); first | (refine force_om ?_) | (refine forceC_om ?_) | (refine condP.dec (fun _ => ?_) (fun h => absurd (by omega) h)) | (refine condP.dec (fun h => absurd h (by omega)) (fun _ => ?_)) | (refine onSome.intro (len_om rfl) ?_) | (first | refine condP.dec (fun h => ?_) (fun h => ?_) | refine condP.eq (fun h => ?_) (fun h => ?_) | refine condP.ne (fun h => ?_) (fun h => ?_)) | (refine .i64 (by omega) (by omega) ?_) | (refine onSome.intro (idx_fs rfl rfl (by omega) (by omega) (fun _ => rfl)) ?_) | (refine onSome.intro (load_fs rfl (by omega) (by omega) rfl) ?_) | (refine And.intro rfl ?_))
              conv => whnf
              refine .snoc (enc := Stg.R) (l := ss) (b := 4) (r := [.int .i64 tb, .int .i64 su.lo, .int .i64 su.hi, .int .i64 ld.lo, .int .i64 ld.hi, .int .i64 bi.lo, .int .i64 bi.hi, .mslice 7 0 (tp.length + 1) (tp.length + 1) false]) rfl rfl rfl rfl (fun c hc => by simp at hc; rcases hc with rfl | rfl | rfl | rfl | rfl | rfl | rfl | rfl <;> rfl) (by omega) ?_
              (repeat ((conv => whnf); refine And.intro rfl ?_)); conv => whnf
              refine .i64 (by omega) (by omega) ?_
              conv => whnf
              exact .more (i + 1, ss ++ [⟨tb, su, ld, bi, (t0 :: tp)⟩], s) [0, 1, 2, 3, 9] rfl ⟨by dsimp only; omega, by simp; omega, hnew⟩ (by dsimp only; omega) rfl ⟨.pt rfl, .same (.bool _), .pt rfl, .pt rfl, .same (.int _ _), .nn (.int _ _) (frz_int (by dsimp only; omega)), trivial⟩
                ⟨.same (S1_no _), .same (noS_row (nn_cons .nilslice (nn_cons (.int _ _) (nn_cons .nilslice nn_none)))), .same (noS_map Fam.R_no), .row (.cons (.ms rfl) (.cons (.same (.int _ _)) (.cons (.grown rfl (by simp) (by simp)) .nil))), .snocL (enc := Stg.R) (a := ⟨tb, su, ld, bi, (t0 :: tp)⟩) Stg.R_no (.cons (.same (.int _ _)) (.cons (.same (.int _ _)) (.cons (.same (.int _ _)) (.cons (.same (.int _ _)) (.cons (.same (.int _ _)) (.cons (.same (.int _ _)) (.cons (.same (.int _ _)) (.cons (.nn (tapsI_no (t0 :: tp)) (Frz.taps (b := 7) (l := t0 :: tp) rfl (fun _ _ h => by cases h) rfl)) .nil)))))))), trivial⟩

    · have q := FamilyOf_ok s3
      obtain ⟨fg, fp, flo, fhi, s4, hG, k4⟩ := q
      have hG : Fam.Ok ⟨fg, fp, flo, fhi⟩ := hG.fam
      have k4 : ∀ (H : Heap) (n : Nat), H n = S1 s3 → Ev T (.call (.func (.func 69) [] []) [.ptr n 0 0] H) (.call (Fam.I ⟨fg, fp, flo, fhi⟩) (H.set n (S1 s4))) := k4
      generalize (⟨fg, fp, flo, fhi⟩ : Fam) = G at *
      have q := Between_any s4 1 st (by omega) (by omega) (by omega)
      obtain ⟨many, S0, m0, m1, k5⟩ := q
      repeat' ((conv => whnf); first | (refine CallP.one (fun H hb => k1 H _ hb) rfl ?_) | (refine CallP.one (fun H hb => k2 H _ hb) rfl ?_) | (refine CallP.one (fun H hb => k3 H _ hb) rfl ?_) | (refine CallP.one (fun H hb => k4 H _ hb) rfl ?_) | (refine .full (es := [F].map Fam.R) (es' := [G].map Fam.R) rfl rfl rfl rfl (by simp) (fun e he => by simp at he; subst he; rfl) (fun e he c hc => by simp at he; subst he; simp [Fam.R] at hc; rcases hc with rfl | rfl | rfl | rfl <;> rfl) (r := [F, G].map Fam.R) rfl (n' := 2) rfl (by omega) ?_) | (refine CallP.one (fun H hb => k5 H _ hb) rfl ?_) | (first | refine condP.dec (fun h => ?_) (fun h => ?_) | refine condP.eq (fun h => ?_) (fun h => ?_) | refine condP.ne (fun h => ?_) (fun h => ?_)) | (refine .i64 (by omega) (by omega) ?_) | (refine onSome.intro (idx_fs rfl rfl (by omega) (by omega) (fun _ => rfl)) ?_) | (refine onSome.intro (load_fs rfl (by omega) (by omega) rfl) ?_) | (refine And.intro rfl ?_))
      refine .pad 1 ?_
      refine loop_grow (X := Nat × List Stg × Int) (fun x => [(0, .ptr 0 0 0), (3, .bool fw), (8, .ptr 1 0 0), (9, .ptr 3 0 0), (10, .int .i64 many), (11, .int .i64 x.1)]) (fun x => [S1 x.2.2, .live 3 [[.nilslice, .int .i64 0, .nilslice]], .live 4 ([F].map Fam.R), .live 3 [[.mslice 5 0 2 2 false, .int .i64 ins, omsl 6 x.2.1]], .live 4 ([G].map Fam.R), .live 4 ([F, G].map Fam.R), lsS 8 Stg.R x.2.1])
        (fun x => many.toNat - x.1) (fun x => (x.1 : Int) ≤ many ∧ x.2.1.length = x.1 ∧ ∀ j : Nat, j < x.1 → MadeS 2 (ins + many) fw (ins + j) (at' x.2.1 (j : Int))) (0, [], S0) ⟨by dsimp only; omega, rfl, fun j hj => absurd hj (Nat.not_lt_zero _)⟩ ⟨rfl, rfl, rfl, rfl, rfl, rfl, trivial⟩ rfl (fun x hx => ?_)
      obtain ⟨i, ss, s⟩ := x
      obtain ⟨hi, hl, hall⟩ := hx
      dsimp only at hi hl hall ⊢
      by_cases hlt : (i : Int) < many
      rotate_left
      · obtain rfl : (i : Int) = many := by omega
        have hmade : MadeN ⟨[F, G], ins, ss⟩ st inp fw := by
          have e : ((ss.length : Nat) : Int) = (i : Int) := by omega
          refine ⟨⟨by simp, by simp, fun j hj => ?_, ins0, by dsimp only; omega, by dsimp only; omega, by dsimp only; omega, fun j hj => ?_⟩, by dsimp only; omega, ins1, fun j hj => ?_⟩
          · dsimp only at hj ⊢
            rcases (show j = 0 ∨ j = 1 by simp at hj; omega) with rfl | rfl
            
            · exact hF
            · exact hG
          · have := (hall j (by dsimp only at hj; omega)).ok
            dsimp only
            rw [e]
            exact this
          · have := hall j (by dsimp only at hj; omega)
            dsimp only
            rw [e]
            exact this
        repeat' ((conv => whnf); first | (refine force_om ?_) | (refine forceC_om ?_) | (refine condP.dec (fun h => absurd h (by omega)) (fun _ => ?_)) | (first | refine condP.dec (fun h => ?_) (fun h => ?_) | refine condP.eq (fun h => ?_) (fun h => ?_) | refine condP.ne (fun h => ?_) (fun h => ?_)) | (refine .i64 (by omega) (by omega) ?_) | (refine onSome.intro (idx_fs rfl rfl (by omega) (by omega) (fun _ => rfl)) ?_) | (refine onSome.intro (load_fs rfl (by omega) (by omega) rfl) ?_) | (refine And.intro rfl ?_))
        refine .done (by simp) ?_
        repeat' ((conv => whnf); first | (refine force_om ?_) | (refine forceC_om ?_) | (first | refine condP.dec (fun h => ?_) (fun h => ?_) | refine condP.eq (fun h => ?_) (fun h => ?_) | refine condP.ne (fun h => ?_) (fun h => ?_)) | (refine .i64 (by omega) (by omega) ?_) | (refine onSome.intro (idx_fs rfl rfl (by omega) (by omega) (fun _ => rfl)) ?_) | (refine onSome.intro (load_fs rfl (by omega) (by omega) rfl) ?_) | (refine And.intro rfl ?_))
        rcases ss with _ | ⟨u, ss⟩
        · exfalso; simp at hl; omega
        conv => whnf
        exact .intro (Net.I ⟨[F, G], ins, u :: ss⟩) (S1 s) ⟨_, s, rfl, rfl, hmade⟩ (Net.I_no _) (S1_no _) (.one (u := .agg [.mslice 5 0 2 2 false, .int .i64 ins, .mslice 6 0 (ss.length + 1) (ss.length + 1) false]) (.inl rfl) rfl rfl (.aggL (.cons (.whole (sz := 4) (es := [F, G].map Fam.R) rfl (fun _ _ h => by cases h) rfl (.refl _)) (.cons (.refl _) (.cons (.whole (sz := 8) (es := (u :: ss).map Stg.R) rfl (fun _ _ h => by cases h) (by simp) (.refl _)) .nil)))) (Net.I_no _))
      have q := Upto_any s 2 (by omega)
      obtain ⟨tb, s1, tb0, tb1, j1⟩ := q
      have q := Between_any s1 1 300000 (by omega) (by omega) (by omega)
      obtain ⟨c1, s2, c10, c11, j2⟩ := q
      have q := About_any s2 c1 9000 0 1000000 (by omega) (by omega) (by omega) (by omega) (by omega) (by omega) (by omega)
      obtain ⟨su, s3, hsu, hsu2, j3⟩ := q
      have q := Between_any s3 1 5000 (by omega) (by omega) (by omega)
      obtain ⟨a1, s4, a10, a11, j4⟩ := q
      have q := Between_any s4 1 200000 (by omega) (by omega) (by omega)
      obtain ⟨a2, s5, a20, a21, j5⟩ := q
      have q := Upto_any s5 2 (by omega)
      obtain ⟨z, s6, z0, z1, j6⟩ := q
      have hc2b := pick2 z0 z1 (fun c => 1 ≤ c ∧ c ≤ 200000) (a := a1) (b := a2) (by omega) (by omega)
      obtain ⟨z2, hc2b⟩ := hc2b
      generalize hca : at' [a1, a2] z = c2 at *
      have q := About_any s6 c2 20000 1 1000000 (by omega) (by omega) (by omega) (by omega) (by omega) (by omega) (by omega)
      obtain ⟨ld, s7, hld, hld2, j7⟩ := q
      have q := Between_any s7 (-9000) 500 (by omega) (by omega) (by omega)
      obtain ⟨c3, s8, c30, c31, j8⟩ := q
      have q := About_any s8 c3 300 (-1000000) 1000000 (by omega) (by omega) (by omega) (by omega) (by omega) (by omega) (by omega)
      obtain ⟨bi, s9, hbi, _, j9⟩ := q
      have hlast : ∃ last : Int, (fw = true → last = ins + i) ∧ (fw = false → last = ins + many) := by
        cases fw
        · exact ⟨ins + many, (fun h => nomatch h), fun _ => rfl⟩
        · exact ⟨ins + i, fun _ => rfl, (fun h => nomatch h)⟩
      obtain ⟨last, hla, hlb⟩ := hlast
      have hlm : last ≤ ins + many ∧ 0 ≤ last := by
        cases fw
        · have := hlb rfl; omega
        · have := hla rfl; omega
      repeat' ((conv => whnf); first | (refine force_om ?_) | (refine forceC_om ?_) | (refine condP.dec (fun _ => ?_) (fun h => absurd (by omega) h)) | (refine CallP.one (fun H hb => j1 H _ hb) rfl ?_) | (refine CallP.one (fun H hb => j2 H _ hb) rfl ?_) | (refine CallP.one (fun H hb => j3 H _ hb) rfl ?_) | (refine CallP.one (fun H hb => j4 H _ hb) rfl ?_) | (refine CallP.one (fun H hb => j5 H _ hb) rfl ?_) | (refine CallP.one (fun H hb => j6 H _ hb) rfl ?_) | (refine CallP.one (fun H hb => j7 H _ hb) rfl ?_) | (refine CallP.one (fun H hb => j8 H _ hb) rfl ?_) | (refine CallP.one (fun H hb => j9 H _ hb) rfl ?_) | (refine onSome.intro (idx_ms (n := z) rfl rfl rfl (by omega) (by simp; omega)) ?_) | (refine onSome.intro (load_ms (l := [a1, a2]) (enc := ei) (i := z) (v := .int .i64 c2) rfl rfl (by omega) (by simp; omega) (by rw [hca]; rfl)) ?_) | (refine condP.intro (fun hfw => ?_) (fun hfw => ?_)) | (first | refine condP.dec (fun h => ?_) (fun h => ?_) | refine condP.eq (fun h => ?_) (fun h => ?_) | refine condP.ne (fun h => ?_) (fun h => ?_)) | (refine .i64 (by omega) (by omega) ?_) | (refine onSome.intro (idx_fs rfl rfl (by omega) (by omega) (fun _ => rfl)) ?_) | (refine onSome.intro (load_fs rfl (by omega) (by omega) rfl) ?_) | (refine And.intro rfl ?_))
      all_goals first | have hle := hla (by assumption) | have hle := hlb (by assumption)
      all_goals refine .pad 1 ?_
      all_goals
        refine loop_grow (X := Nat × List Tap × Int) (fun x => [(0, .ptr 0 0 0), (3, .bool fw), (8, .ptr 1 0 0), (9, .ptr 3 0 0), (10, .int .i64 many), (11, .int .i64 i), (12, .ptr 8 0 0), (13, .int .i64 last), (14, .int .i64 x.1)]) (fun x => [S1 x.2.2, .live 3 [[.nilslice, .int .i64 0, .nilslice]], .live 4 ([F].map Fam.R), .live 3 [[.mslice 5 0 2 2 false, .int .i64 ins, omsl 6 ss]], .live 4 ([G].map Fam.R), .live 4 ([F, G].map Fam.R), lsS 8 Stg.R ss, .live 1 [[.int .i64 a1], [.int .i64 a2]], .live 8 [[.int .i64 tb, .int .i64 su.lo, .int .i64 su.hi, .int .i64 ld.lo, .int .i64 ld.hi, .int .i64 bi.lo, .int .i64 bi.hi, omsl 9 x.2.1]], lsS 3 Tap.R x.2.1])
          (fun x => last.toNat - x.1) (fun x => (x.1 : Int) ≤ last ∧ TapsTo (ins + many) x.1 x.2.1) (0, [], s9) ⟨by dsimp only; omega, TapsTo.nil _⟩ ⟨rfl, rfl, rfl, rfl, rfl, rfl, rfl, by show i6 _ = i6 _; congr 1; omega, rfl, trivial⟩ rfl (fun x hx => ?_)
        obtain ⟨k, tp, s⟩ := x
        obtain ⟨hk, htp⟩ := hx
        dsimp only at hk htp ⊢
        have htl := htp.len
        by_cases hgo : (k : Int) < last ∧ tp.length < 4
        · obtain ⟨hk2, h4⟩ := hgo
          have q := One_any s 2 (by omega)
          obtain ⟨w, t1, i1⟩ := q
          cases w
          · repeat' ((conv => whnf); first | (refine force_om ?_) | (refine forceC_om ?_) | (refine condP.dec (fun _ => ?_) (fun h => absurd (by omega) h)) | (refine onSome.intro (len_om rfl) ?_) | (refine CallP.one (fun H hb => i1 H _ hb) rfl ?_) | (first | refine condP.dec (fun h => ?_) (fun h => ?_) | refine condP.eq (fun h => ?_) (fun h => ?_) | refine condP.ne (fun h => ?_) (fun h => ?_)) | (refine .i64 (by omega) (by omega) ?_) | (refine onSome.intro (idx_fs rfl rfl (by omega) (by omega) (fun _ => rfl)) ?_) | (refine onSome.intro (load_fs rfl (by omega) (by omega) rfl) ?_) | (refine And.intro rfl ?_))
            conv => whnf
            exact .more (k + 1, tp, t1) [0, 1, 2, 3, 4, 5, 6, 7, 8, 9] rfl ⟨by dsimp only; omega, htp.skip⟩ (by dsimp only; omega) rfl ⟨.pt rfl, .same (.bool _), .pt rfl, .pt rfl, .same (.int _ _), .same (.int _ _), .pt rfl, .same (.int _ _), .nn (.int _ _) (frz_int (by dsimp only; omega)), trivial⟩
              ⟨.same (S1_no _), .same (noS_row (nn_cons .nilslice (nn_cons (.int _ _) (nn_cons .nilslice nn_none)))), .same (noS_map Fam.R_no), .row (.cons (.ms rfl) (.cons (.same (.int _ _)) (.cons (.omsl rfl) .nil))), .same (noS_map Fam.R_no), .same (noS_map Fam.R_no), .same (lsS_no Stg.R_no), .same (noS_row2 a1 a2), .row (.cons (.same (.int _ _)) (.cons (.same (.int _ _)) (.cons (.same (.int _ _)) (.cons (.same (.int _ _)) (.cons (.same (.int _ _)) (.cons (.same (.int _ _)) (.cons (.same (.int _ _)) (.cons (.omsl rfl) .nil)))))))), .same (lsS_no Tap.R_no), trivial⟩
          · have q := Upto_any t1 30 (by omega)
            obtain ⟨u, t2, u0, u1, i2⟩ := q
            have q := Upto_any t2 2 (by omega)
            obtain ⟨q2, t3, q20, q21, i3⟩ := q
            have q := Between_any t3 1 1000 (by omega) (by omega) (by omega)
            obtain ⟨d, t4, d0, d1, i4⟩ := q
            have q := Upto_any t4 3 (by omega)
            obtain ⟨q3, t5, q30, q31, i5⟩ := q
            have hn := pick2 q20 q21 (fun c => 0 ≤ c ∧ c ≤ 1000) (a := 1) (b := u) (by omega) (by omega)
            have hd := pick3 q30 q31 (fun c => 1 ≤ c ∧ c ≤ 1000) (a := 1) (b := 20) (c := d) (by omega) (by omega) (by omega)
            obtain ⟨q22, hn⟩ := hn
            obtain ⟨q32, hd⟩ := hd
            generalize hna : at' [1, u] q2 = num at *
            generalize hda : at' [1, 20, d] q3 = den at *
            repeat' ((conv => whnf); first | (refine force_om ?_) | (refine forceC_om ?_) | (refine condP.dec (fun _ => ?_) (fun h => absurd (by omega) h)) | (refine onSome.intro (len_om rfl) ?_) | (refine CallP.one (fun H hb => i1 H _ hb) rfl ?_) | (refine CallP.one (fun H hb => i2 H _ hb) rfl ?_) | (refine CallP.one (fun H hb => i3 H _ hb) rfl ?_) | (refine CallP.one (fun H hb => i4 H _ hb) rfl ?_) | (refine CallP.one (fun H hb => i5 H _ hb) rfl ?_) | (refine onSome.intro (idx_F (l := [1, u]) (enc := ei) (n := q2) rfl rfl (by omega) (by simp; omega) (fun _ => rfl)) ?_) | (refine onSome.intro (load_F (l := [1, u]) (enc := ei) (i := q2) (v := .int .i64 num) rfl (by omega) (by simp; omega) (by rw [hna]; rfl)) ?_) | (refine onSome.intro (idx_F (l := [1, 20, d]) (enc := ei) (n := q3) rfl rfl (by omega) (by simp; omega) (fun _ => rfl)) ?_) | (refine onSome.intro (load_F (l := [1, 20, d]) (enc := ei) (i := q3) (v := .int .i64 den) rfl (by omega) (by simp; omega) (by rw [hda]; rfl)) ?_) | (first | refine condP.dec (fun h => ?_) (fun h => ?_) | refine condP.eq (fun h => ?_) (fun h => ?_) | refine condP.ne (fun h => ?_) (fun h => ?_)) | (refine .i64 (by omega) (by omega) ?_) | (refine onSome.intro (idx_fs rfl rfl (by omega) (by omega) (fun _ => rfl)) ?_) | (refine onSome.intro (load_fs rfl (by omega) (by omega) rfl) ?_) | (refine And.intro rfl ?_))
            conv => whnf
            refine .snocM (enc := Tap.R) (l := tp) (b := 9) ⟨k, num, den⟩ rfl rfl rfl rfl (fun c hc => by simp [Tap.R] at hc; rcases hc with rfl | rfl | rfl <;> rfl) (by omega) ?_
            (repeat ((conv => whnf); refine And.intro rfl ?_)); conv => whnf
            refine .i64 (by omega) (by omega) ?_
            conv => whnf
            exact .more (k + 1, tp ++ [⟨k, num, den⟩], t5) [0, 1, 2, 3, 4, 5, 6, 7, 8, 10] rfl ⟨by dsimp only; omega, htp.snoc h4 (by omega) hn.1 hn.2 hd.1 hd.2⟩ (by dsimp only; omega) rfl ⟨.pt rfl, .same (.bool _), .pt rfl, .pt rfl, .same (.int _ _), .same (.int _ _), .pt rfl, .same (.int _ _), .nn (.int _ _) (frz_int (by dsimp only; omega)), trivial⟩
              ⟨.same (S1_no _), .same (noS_row (nn_cons .nilslice (nn_cons (.int _ _) (nn_cons .nilslice nn_none)))), .same (noS_map Fam.R_no), .row (.cons (.ms rfl) (.cons (.same (.int _ _)) (.cons (.omsl rfl) .nil))), .same (noS_map Fam.R_no), .same (noS_map Fam.R_no), .same (lsS_no Stg.R_no), .same (noS_row2 a1 a2), .row (.cons (.same (.int _ _)) (.cons (.same (.int _ _)) (.cons (.same (.int _ _)) (.cons (.same (.int _ _)) (.cons (.same (.int _ _)) (.cons (.same (.int _ _)) (.cons (.same (.int _ _)) (.cons (.grown rfl (by simp) (by simp)) .nil)))))))), .lsM (by simp) Tap.R_no, trivial⟩
        · have hnew : ∀ j : Nat, j < i + 1 → MadeS 2 (ins + many) fw (ins + j) (at' (ss ++ [(⟨tb, su, ld, bi, tp⟩ : Stg)]) (j : Int)) := fun j hj => by
            rcases Nat.lt_or_ge j i with c | c
            · rw [at'_left (by omega)]; exact hall j c
            · obtain rfl : j = i := by omega
              rw [← hl, at'_last]
              exact ⟨⟨tb0, by dsimp only; omega, hsu, hld, hbi, ⟨htp.len, htp.ok, htp.asc⟩⟩, fun hf k2 hk2 => by have := htp.lt k2 hk2; have := hla hf; dsimp only at this ⊢; omega, by dsimp only; omega, by dsimp only; omega⟩
          by_cases hk2 : (k : Int) < last
          · have hgo : 4 ≤ tp.length := by
              rcases Nat.lt_or_ge tp.length 4 with c | c
              · exact absurd ⟨hk2, c⟩ hgo
              · exact c
            rcases tp with _ | ⟨t0, tp⟩
            · simp at hgo
            · rw [List.length_cons] at hgo
              repeat' ((conv => whnf); first | (refine force_om ?_) | (refine forceC_om ?_) | (refine condP.dec (fun _ => ?_) (fun h => absurd (by omega) h)) | (refine condP.dec (fun h => absurd h (by omega)) (fun _ => ?_)) | (refine onSome.intro (len_om rfl) ?_) | (first | refine condP.dec (fun h => ?_) (fun h => ?_) | refine condP.eq (fun h => ?_) (fun h => ?_) | refine condP.ne (fun h => ?_) (fun h => ?_)) | (refine .i64 (by omega) (by omega) ?_) | (refine onSome.intro (idx_fs rfl rfl (by omega) (by omega) (fun _ => rfl)) ?_) | (refine onSome.intro (load_fs rfl (by omega) (by omega) rfl) ?_) | (refine And.intro rfl ?_))
              refine .done (by simp) ?_
              repeat' ((conv => whnf); first | (refine force_om ?_) | (refine forceC_om ?_) | (refine condP.dec (fun _ => ?_) (fun h => absurd (by omega) h)) | (refine condP.dec (fun h => absurd h (by omega)) (fun _ => ?_)) | (refine onSome.intro (len_om rfl) ?_) | (first | refine condP.dec (fun h => ?_) (fun h => ?_) | refine condP.eq (fun h => ?_) (fun h => ?_) | refine condP.ne (fun h => ?_) (fun h => ?_)) | (refine .i64 (by omega) (by omega) ?_) | (refine onSome.intro (idx_fs rfl rfl (by omega) (by omega) (fun _ => rfl)) ?_) | (refine onSome.intro (load_fs rfl (by omega) (by omega) rfl) ?_) | (refine And.intro rfl ?_))
              conv => whnf
              refine .snoc (enc := Stg.R) (l := ss) (b := 6) (r := [.int .i64 tb, .int .i64 su.lo, .int .i64 su.hi, .int .i64 ld.lo, .int .i64 ld.hi, .int .i64 bi.lo, .int .i64 bi.hi, .mslice 9 0 (tp.length + 1) (tp.length + 1) false]) rfl rfl rfl rfl (fun c hc => by simp at hc; rcases hc with rfl | rfl | rfl | rfl | rfl | rfl | rfl | rfl <;> rfl) (by omega) ?_
              (repeat ((conv => whnf); refine And.intro rfl ?_)); conv => whnf
              refine .i64 (by omega) (by omega) ?_
              conv => whnf
              exact .more (i + 1, ss ++ [⟨tb, su, ld, bi, (t0 :: tp)⟩], s) [0, 1, 2, 3, 4, 5, 11] rfl ⟨by dsimp only; omega, by simp; omega, hnew⟩ (by dsimp only; omega) rfl ⟨.pt rfl, .same (.bool _), .pt rfl, .pt rfl, .same (.int _ _), .nn (.int _ _) (frz_int (by dsimp only; omega)), trivial⟩
                ⟨.same (S1_no _), .same (noS_row (nn_cons .nilslice (nn_cons (.int _ _) (nn_cons .nilslice nn_none)))), .same (noS_map Fam.R_no), .row (.cons (.ms rfl) (.cons (.same (.int _ _)) (.cons (.grown rfl (by simp) (by simp)) .nil))), .same (noS_map Fam.R_no), .same (noS_map Fam.R_no), .snocL (enc := Stg.R) (a := ⟨tb, su, ld, bi, (t0 :: tp)⟩) Stg.R_no (.cons (.same (.int _ _)) (.cons (.same (.int _ _)) (.cons (.same (.int _ _)) (.cons (.same (.int _ _)) (.cons (.same (.int _ _)) (.cons (.same (.int _ _)) (.cons (.same (.int _ _)) (.cons (.nn (tapsI_no (t0 :: tp)) (Frz.taps (b := 9) (l := t0 :: tp) rfl (fun _ _ h => by cases h) rfl)) .nil)))))))), trivial⟩
          · rcases tp with _ | ⟨t0, tp⟩
            · skip
              repeat' ((conv => whnf); first | (refine force_om ?_) | (refine forceC_om ?_) | (refine condP.dec (fun _ => ?_) (fun h => absurd (by omega) h)) | (refine condP.dec (fun h => absurd h (by omega)) (fun _ => ?_)) | (refine onSome.intro (len_om rfl) ?_) | (first | refine condP.dec (fun h => ?_) (fun h => ?_) | refine condP.eq (fun h => ?_) (fun h => ?_) | refine condP.ne (fun h => ?_) (fun h => ?_)) | (refine .i64 (by omega) (by omega) ?_) | (refine onSome.intro (idx_fs rfl rfl (by omega) (by omega) (fun _ => rfl)) ?_) | (refine onSome.intro (load_fs rfl (by omega) (by omega) rfl) ?_) | (refine And.intro rfl ?_))
              refine .done (by simp) ?_
              repeat' ((conv => whnf); first | (refine force_om ?_) | (refine forceC_om ?_) | (refine condP.dec (fun _ => ?_) (fun h => absurd (by omega) h)) | (refine condP.dec (fun h => absurd h (by omega)) (fun _ => ?_)) | (refine onSome.intro (len_om rfl) ?_) | (first | refine condP.dec (fun h => ?_) (fun h => ?_) | refine condP.eq (fun h => ?_) (fun h => ?_) | refine condP.ne (fun h => ?_) (fun h => ?_)) | (refine .i64 (by omega) (by omega) ?_) | (refine onSome.intro (idx_fs rfl rfl (by omega) (by omega) (fun _ => rfl)) ?_) | (refine onSome.intro (load_fs rfl (by omega) (by omega) rfl) ?_) | (refine And.intro rfl ?_))
              conv => whnf
              refine .snoc (enc := Stg.R) (l := ss) (b := 6) (r := [.int .i64 tb, .int .i64 su.lo, .int .i64 su.hi, .int .i64 ld.lo, .int .i64 ld.hi, .int .i64 bi.lo, .int .i64 bi.hi, .nilslice]) rfl rfl rfl rfl (fun c hc => by simp at hc; rcases hc with rfl | rfl | rfl | rfl | rfl | rfl | rfl | rfl <;> rfl) (by omega) ?_
              (repeat ((conv => whnf); refine And.intro rfl ?_)); conv => whnf
              refine .i64 (by omega) (by omega) ?_
              conv => whnf
              exact .more (i + 1, ss ++ [⟨tb, su, ld, bi, []⟩], s) [0, 1, 2, 3, 4, 5, 11] rfl ⟨by dsimp only; omega, by simp; omega, hnew⟩ (by dsimp only; omega) rfl ⟨.pt rfl, .same (.bool _), .pt rfl, .pt rfl, .same (.int _ _), .nn (.int _ _) (frz_int (by dsimp only; omega)), trivial⟩
                ⟨.same (S1_no _), .same (noS_row (nn_cons .nilslice (nn_cons (.int _ _) (nn_cons .nilslice nn_none)))), .same (noS_map Fam.R_no), .row (.cons (.ms rfl) (.cons (.same (.int _ _)) (.cons (.grown rfl (by simp) (by simp)) .nil))), .same (noS_map Fam.R_no), .same (noS_map Fam.R_no), .snocL (enc := Stg.R) (a := ⟨tb, su, ld, bi, []⟩) Stg.R_no (.cons (.same (.int _ _)) (.cons (.same (.int _ _)) (.cons (.same (.int _ _)) (.cons (.same (.int _ _)) (.cons (.same (.int _ _)) (.cons (.same (.int _ _)) (.cons (.same (.int _ _)) (.cons (.nn (tapsI_no []) .nil) .nil)))))))), trivial⟩
            · rw [List.length_cons] at htl
              repeat' ((conv => whnf); first | (refine force_om ?_) | (refine forceC_om ?_) | (refine condP.dec (fun _ => ?_) (fun h => absurd (by omega) h)) | (refine condP.dec (fun h => absurd h (by omega)) (fun _ => ?_)) | (refine onSome.intro (len_om rfl) ?_) | (first | refine condP.dec (fun h => ?_) (fun h => ?_) | refine condP.eq (fun h => ?_) (fun h => ?_) | refine condP.ne (fun h => ?_) (fun h => ?_)) | (refine .i64 (by omega) (by omega) ?_) | (refine onSome.intro (idx_fs rfl rfl (by omega) (by omega) (fun _ => rfl)) ?_) | (refine onSome.intro (load_fs rfl (by omega) (by omega) rfl) ?_) | (refine And.intro rfl ?_))
              refine .done (by simp) ?_
              repeat' ((conv => whnf); first | (refine force_om ?_) | (refine forceC_om ?_) | (refine condP.dec (fun _ => ?_) (fun h => absurd (by omega) h)) | (refine condP.dec (fun h => absurd h (by omega)) (fun _ => ?_)) | (refine onSome.intro (len_om rfl) ?_) | (first | refine condP.dec (fun h => ?_) (fun h => ?_) | refine condP.eq (fun h => ?_) (fun h => ?_) | refine condP.ne (fun h => ?_) (fun h => ?_)) | (refine .i64 (by omega) (by omega) ?_) | (refine onSome.intro (idx_fs rfl rfl (by omega) (by omega) (fun _ => rfl)) ?_) | (refine onSome.intro (load_fs rfl (by omega) (by omega) rfl) ?_) | (refine And.intro rfl ?_))
              conv => whnf
              refine .snoc (enc := Stg.R) (l := ss) (b := 6) (r := [.int .i64 tb, .int .i64 su.lo, .int .i64 su.hi, .int .i64 ld.lo, .int .i64 ld.hi, .int .i64 bi.lo, .int .i64 bi.hi, .mslice 9 0 (tp.length + 1) (tp.length + 1) false]) rfl rfl rfl rfl (fun c hc => by simp at hc; rcases hc with rfl | rfl | rfl | rfl | rfl | rfl | rfl | rfl <;> rfl) (by omega) ?_
              (repeat ((conv => whnf); refine And.intro rfl ?_)); conv => whnf
              refine .i64 (by omega) (by omega) ?_
              conv => whnf
              exact .more (i + 1, ss ++ [⟨tb, su, ld, bi, (t0 :: tp)⟩], s) [0, 1, 2, 3, 4, 5, 11] rfl ⟨by dsimp only; omega, by simp; omega, hnew⟩ (by dsimp only; omega) rfl ⟨.pt rfl, .same (.bool _), .pt rfl, .pt rfl, .same (.int _ _), .nn (.int _ _) (frz_int (by dsimp only; omega)), trivial⟩
                ⟨.same (S1_no _), .same (noS_row (nn_cons .nilslice (nn_cons (.int _ _) (nn_cons .nilslice nn_none)))), .same (noS_map Fam.R_no), .row (.cons (.ms rfl) (.cons (.same (.int _ _)) (.cons (.grown rfl (by simp) (by simp)) .nil))), .same (noS_map Fam.R_no), .same (noS_map Fam.R_no), .snocL (enc := Stg.R) (a := ⟨tb, su, ld, bi, (t0 :: tp)⟩) Stg.R_no (.cons (.same (.int _ _)) (.cons (.same (.int _ _)) (.cons (.same (.int _ _)) (.cons (.same (.int _ _)) (.cons (.same (.int _ _)) (.cons (.same (.int _ _)) (.cons (.same (.int _ _)) (.cons (.nn (tapsI_no (t0 :: tp)) (Frz.taps (b := 9) (l := t0 :: tp) rfl (fun _ _ h => by cases h) rfl)) .nil)))))))), trivial⟩

    )
  obtain ⟨v, z, ⟨n, s', rfl, rfl, h1⟩, _, _, k⟩ := key
  exact ⟨n, s', h1, fun H b hb => k H b hb⟩

end Go.Proofs.YtlfaglkkeahamaaGreat.I
