/- Nets at corners. -/
import Derived.Test.YtlfaglkkeahamaaGreatNcopy
set_option linter.unusedVariables false
set_option maxHeartbeats 16000000
set_option linter.unusedSimpArgs false
namespace Go.Proofs.YtlfaglkkeahamaaGreat.I
open Go.Ideal

theorem and1 (a : Nat) (h : a < 4611686018427387904) : IntKind.i64.wrap ((BitVec.ofInt IntKind.i64.bits (a : Int) &&& BitVec.ofInt IntKind.i64.bits 1).toNat : Int) = ((a % 2 : Nat) : Int) := by
  have e : (BitVec.ofInt IntKind.i64.bits (a : Int) &&& BitVec.ofInt IntKind.i64.bits 1).toNat = a % 2 := by
    rw [BitVec.toNat_and]
    have h1 : (BitVec.ofInt IntKind.i64.bits (a : Int)).toNat = a := by
      rw [BitVec.toNat_ofInt]
      simp [IntKind.bits]
      omega
    have h2 : (BitVec.ofInt IntKind.i64.bits 1).toNat = 1 := by decide
    rw [h1, h2, Nat.and_one_is_mod]
  rw [e]
  exact wrap_in (by simp [IntKind.min, IntKind.signed, IntKind.bits]; omega) (by simp [IntKind.max, IntKind.signed, IntKind.bits]; omega)
theorem shr1 (a : Nat) : (a : Int).fdiv (2 ^ (min (Int.toNat 1) IntKind.i64.bits)) = ((a / 2 : Nat) : Int) := by
  rw [show ((2 : Int) ^ (min (Int.toNat 1) IntKind.i64.bits)) = 2 by decide, Int.fdiv_eq_ediv_of_nonneg _ (by omega)]
  omega

def bitN (c k : Nat) : Bool := decide (c / 2 ^ k % 2 = 1)
def sideR (r : Rg) (b : Bool) : Rg := match b with
  | true => ⟨r.hi, r.hi⟩
  | false => ⟨r.lo, r.lo⟩
def Fam.side (F : Fam) (b : Bool) : Fam := match b with
  | true => ⟨F.g, F.p, F.hi, F.hi⟩
  | false => ⟨F.g, F.p, F.lo, F.lo⟩
def Stg.side (s : Stg) (x y z : Bool) : Stg := ⟨s.tube, sideR s.su x, sideR s.ld y, sideR s.bi z, s.taps⟩
def tubeC (l : List Fam) (c : Nat) : Nat → List Fam
  | 0 => l
  | i + 1 => (tubeC l c i).set i ((at' (tubeC l c i) (i : Int)).side (bitN c i))
def stgC (l : List Stg) (c k : Nat) : Nat → List Stg
  | 0 => l
  | i + 1 => (stgC l c k i).set i ((at' (stgC l c k i) (i : Int)).side (bitN c (k + 3 * i)) (bitN c (k + 3 * i + 1)) (bitN c (k + 3 * i + 2)))
def insC (l : List Rg) (c k : Nat) : Nat → List Rg
  | 0 => l
  | i + 1 => (insC l c k i).set i (sideR (at' (insC l c k i) (i : Int)) (bitN c (k + i)))
def Net.corner (n : Net) (c : Nat) : Net := ⟨tubeC n.tubes c n.tubes.length, n.ins, stgC n.stages c n.tubes.length n.stages.length⟩
def Net.cornerIn (n : Net) (l : List Rg) (c : Nat) : List Rg := insC l c (n.tubes.length + 3 * n.stages.length) l.length
theorem tubeC_len (l : List Fam) (c : Nat) : ∀ i, (tubeC l c i).length = l.length
  | 0 => rfl
  | i + 1 => by rw [tubeC, List.length_set, tubeC_len l c i]
theorem stgC_len (l : List Stg) (c k : Nat) : ∀ i, (stgC l c k i).length = l.length
  | 0 => rfl
  | i + 1 => by rw [stgC, List.length_set, stgC_len l c k i]
theorem insC_len (l : List Rg) (c k : Nat) : ∀ i, (insC l c k i).length = l.length
  | 0 => rfl
  | i + 1 => by rw [insC, List.length_set, insC_len l c k i]
theorem tubeC_high (l : List Fam) (c : Nat) {i j : Nat} (h : i ≤ j) : at' (tubeC l c i) (j : Int) = at' l (j : Int) := by
  induction i with
  | zero => rfl
  | succ i ih => rw [tubeC, at'_set, if_neg (by omega), ih (by omega)]
theorem bit_next (c k : Nat) : c / 2 ^ k / 2 = c / 2 ^ (k + 1) := by rw [Nat.div_div_eq_div_mul, Nat.pow_succ]
theorem Fam.Ok.side {F : Fam} (h : F.Ok) (b : Bool) : (F.side b).Ok := by
  cases b
  · exact ⟨h.g, h.p, h.g0, h.g1, h.p0, h.p1, h.tl, h.tl, fun i k a b => by have := h.cell i k a b; exact ⟨this.1, Int.le_refl _, Int.le_trans this.2.1 this.2.2⟩, fun i k a b => ⟨(h.upG i k a b).1, (h.upG i k a b).1⟩, fun i k a b => ⟨(h.upP i k a b).1, (h.upP i k a b).1⟩⟩
  · exact ⟨h.g, h.p, h.g0, h.g1, h.p0, h.p1, h.th, h.th, fun i k a b => by have := h.cell i k a b; exact ⟨Int.le_trans this.1 this.2.1, Int.le_refl _, this.2.2⟩, fun i k a b => ⟨(h.upG i k a b).2, (h.upG i k a b).2⟩, fun i k a b => ⟨(h.upP i k a b).2, (h.upP i k a b).2⟩⟩
theorem stage_anew {kept : List Nat} {H1 H2 : Heap} {l : List Stg} {i b : Nat} {s : Stg} {hi : i < l.length} (hs : l[i] = s) {e' : List IV} (he : e' = [.int .i64 s.tube, .int .i64 s.su.lo, .int .i64 s.su.hi, .int .i64 s.ld.lo, .int .i64 s.ld.hi, .int .i64 s.bi.lo, .int .i64 s.bi.hi, omsl b s.taps])
    (hb : H1 b = lsS 3 Tap.R s.taps) (hb' : ∀ sz e, H2 b ≠ .live sz e) : MvS kept H1 H2 (.live 8 ((l.map Stg.R).set i e')) (.live 8 (l.map Stg.R)) := by
  subst he
  refine .nn (noS_map Stg.R_no) (FzE.slot (fzE_set fun h => ?_))
  rw [List.getElem_map, hs]
  exact .cons (.refl _) (.cons (.refl _) (.cons (.refl _) (.cons (.refl _) (.cons (.refl _) (.cons (.refl _) (.cons (.refl _) (.cons (.oml hb hb') .nil)))))))
/-- The blocks of a corner in the making. -/
def CNl (n : Net) (l : List Rg) (cc : Nat) (ys : List Fam) (ss : List Stg) (nt ns : Nat) : List Slot := [.live 3 [n.R], .live 1 [[.int .i64 cc]], .live 3 [[.nilslice, .int .i64 0, .nilslice]], .live 3 [[.mslice 5 0 nt nt false, .int .i64 n.ins, .mslice 6 0 ns ns false]], .live 3 [[.mslice 5 0 nt nt false, .int .i64 n.ins, .mslice 6 0 ns ns false]],
  .live 4 (ys.map Fam.R), .live 8 (ss.map Stg.R), lsS 2 Rg.R l, .live 3 [[.mslice 5 0 nt nt false, .int .i64 n.ins, .mslice 6 0 ns ns false]], .live 1 [[.func (.func 151) [] [.ptr 1 0 0]]]]
def CNm (n : Net) (xs : List Rg) (cc : Nat) (ys : List Fam) (ss : List Stg) (nt ns : Nat) : List Slot := [.live 3 [n.R], .live 1 [[.int .i64 cc]], .live 3 [[.nilslice, .int .i64 0, .nilslice]], .live 3 [[.mslice 5 0 nt nt false, .int .i64 n.ins, .mslice 6 0 ns ns false]], .live 3 [[.mslice 5 0 nt nt false, .int .i64 n.ins, .mslice 6 0 ns ns false]],
  .live 4 (ys.map Fam.R), .live 8 (ss.map Stg.R), .live 2 (xs.map Rg.R), .live 3 [[.mslice 5 0 nt nt false, .int .i64 n.ins, .mslice 6 0 ns ns false]], .live 1 [[.func (.func 151) [] [.ptr 1 0 0]]]]
theorem CNm_chk (n : Net) (xs : List Rg) (cc : Nat) (ys : List Fam) (ss : List Stg) (nt ns : Nat) : chkS (fun b => b < 10) (CNm n xs cc ys ss nt ns) := by
  refine ⟨row_inn n.R_no, row_inn (nn_cons (.int _ _) nn_none), row_inn (nn_cons .nilslice (nn_cons (.int _ _) (nn_cons .nilslice nn_none))), ?_, ?_, ms_inn Fam.R_no _, ms_inn Stg.R_no _, ms_inn Rg.R_no _, ?_, ?_, trivial⟩
  · exact inn_row (in_cons (.mslice _ _ _ _ _ (by decide)) (in_cons (.int _ _) (in_one (.mslice _ _ _ _ _ (by decide)))))
  · exact inn_row (in_cons (.mslice _ _ _ _ _ (by decide)) (in_cons (.int _ _) (in_one (.mslice _ _ _ _ _ (by decide)))))
  · exact inn_row (in_cons (.mslice _ _ _ _ _ (by decide)) (in_cons (.int _ _) (in_one (.mslice _ _ _ _ _ (by decide)))))
  · exact inn_row (in_one (inn_func (in_one (.ptr _ _ _ (by decide)))))
theorem setS {l : List Stg} {i : Nat} (h : i < l.length) (a : Stg) : ∃ m, m = l.set i a ∧ m.length = l.length ∧ at' m (i : Int) = a ∧ ∀ b, m.set i b = l.set i b :=
  ⟨_, rfl, List.length_set .., by rw [at'_set, if_pos ⟨rfl, h⟩], fun b => List.set_set ..⟩
theorem omsl_cells {α : Type} (b : Nat) (l : List α) : (omsl b l).cells = [omsl b l] := by cases l <;> rfl
theorem omsl_inn {S : Nat → Prop} {α : Type} {b : Nat} (h : S b) (l : List α) : Inn S (omsl b l) := by
  cases l with
  | nil => exact .nilslice
  | cons a l => exact .mslice _ _ _ _ _ h
theorem CNl_chk (n : Net) (l : List Rg) (cc : Nat) (ys : List Fam) (ss : List Stg) (nt ns : Nat) : chkS (fun b => b < 10) (CNl n l cc ys ss nt ns) := by
  refine ⟨row_inn n.R_no, row_inn (nn_cons (.int _ _) nn_none), row_inn (nn_cons .nilslice (nn_cons (.int _ _) (nn_cons .nilslice nn_none))), ?_, ?_, ms_inn Fam.R_no _, ms_inn Stg.R_no _, lsS_inn Rg.R_no ⟨?_, ?_, trivial⟩⟩
  · exact inn_row (in_cons (.mslice _ _ _ _ _ (by decide)) (in_cons (.int _ _) (in_one (.mslice _ _ _ _ _ (by decide)))))
  · exact inn_row (in_cons (.mslice _ _ _ _ _ (by decide)) (in_cons (.int _ _) (in_one (.mslice _ _ _ _ _ (by decide)))))
  · exact inn_row (in_cons (.mslice _ _ _ _ _ (by decide)) (in_cons (.int _ _) (in_one (.mslice _ _ _ _ _ (by decide)))))
  · exact inn_row (in_one (inn_func (in_one (.ptr _ _ _ (by decide)))))
theorem c9corner_ok {n : Net} (hn : n.Ok) {l : List Rg} (hl : (l.length : Int) = n.ins) {v : IV} (hv : RArg v l) {c : Nat} (hc : c < 4611686018427387904)
    (hT : ∀ i : Nat, i < n.stages.length → Clones 170 3 Tap.R (tapsI (at' n.stages (i : Int)).taps) (at' n.stages (i : Int)).taps) (H : Heap) :
    Ev T (.call (.func (.func 98) [] []) [n.I, v, .int .i64 c] H) (.call (.tuple [(n.corner c).I, rgsI (n.cornerIn l c)]) H) := by
  refine run_pure T98 (nn_tuple (nn_cons (Net.I_no _) (nn_cons (rgsI_no _) nn_none))) (nn_cons n.I_no (nn_cons hv.no (nn_cons (nn_int _ _) nn_none))) ?_ H
  have t0 := hn.t0
  have t1 := hn.t1
  have s0 := hn.s0
  have s1 := hn.s1
  have i1 := hn.i1
  have e1 : (n.tubes.map Fam.R).length = n.tubes.length := List.length_map ..
  have e2 : (n.stages.map Stg.R).length = n.stages.length := List.length_map ..
  have nt : n.tubes ≠ [] := fun q => by rw [q] at t0; simp at t0
  have ns : n.stages ≠ [] := fun q => by rw [q] at s0; simp at s0
  have kF : ∀ (H : Heap) (b : Nat), H b = .free → Ev T (.call (.func (.func 168) [] []) [famsI n.tubes] H) (.call (.mslice b 0 n.tubes.length n.tubes.length false) (H.set b (.live 4 (n.tubes.map Fam.R)))) := fun H b hb => by
    have := cloneF_ok n.tubes nt (by omega) H b hb
    rw [omsl_ne nt, lsS_ne nt] at this
    exact this
  have kS : ∀ (H : Heap) (b : Nat), H b = .free → Ev T (.call (.func (.func 169) [] []) [stgsI n.stages] H) (.call (.mslice b 0 n.stages.length n.stages.length false) (H.set b (.live 8 (n.stages.map Stg.R)))) := fun H b hb => by
    have := cloneS_ok n.stages ns (by omega) H b hb
    rw [omsl_ne ns, lsS_ne ns] at this
    exact this
  have kI : ∀ (H : Heap) (b : Nat), H b = .free → Ev T (.call (.func (.func 136) [] []) [v] H) (.call (omsl b l) (H.set b (lsS 2 Rg.R l))) := hv.clone
  repeat' ((conv => whnf); first | (refine forceC_in (v := v) ?_) | (refine force_in (v := v) ?_) | (refine CallP.inl T119 rfl ?_) | (refine CallP.new kF ?_) | (first | refine condP.dec (fun h => ?_) (fun h => ?_) | refine condP.eq (fun h => ?_) (fun h => ?_) | refine condP.ne (fun h => ?_) (fun h => ?_)) | (refine .i64 (by omega) (by omega) ?_) | (refine onSome.intro (idx_fs rfl rfl (by omega) (by omega) (fun _ => rfl)) ?_) | (refine onSome.intro (load_fs rfl (by omega) (by omega) rfl) ?_) | (refine And.intro rfl ?_))
  refine loop_rule (X := Nat) (fun i => [(1, .ptr 3 0 0), (2, .ptr 4 0 0), (15, .mslice 5 0 n.tubes.length n.tubes.length false), (16, .int .i64 n.tubes.length), (17, .int .i64 i)])
    (fun _ => [.live 3 [n.R], .live 1 [[.int .i64 c]], .live 3 [[.nilslice, .int .i64 0, .nilslice]], .live 3 [[.mslice 5 0 n.tubes.length n.tubes.length false, .int .i64 n.ins, stgsI n.stages]], .live 3 [[.nilslice, .int .i64 0, .nilslice]], .live 4 (n.tubes.map Fam.R)])
    (fun i => n.tubes.length - i) (fun i => i ≤ n.tubes.length) 0 (Nat.zero_le _) ⟨rfl, rfl, rfl, rfl, rfl, trivial⟩ rfl (fun _ _ => rfl) (fun i hi => ?_)
  rcases Nat.lt_or_ge i n.tubes.length with hlt | hge
  · have kC := Copy_ok (hn.fam i hlt)
    have hf : at' n.tubes (i : Int) = n.tubes[i] := at'_get hlt
    rw [hf] at kC
    repeat' ((conv => whnf); first | (refine condP.dec (fun _ => ?_) (fun h => absurd (by omega) h)) | (refine onSome.intro (idx_ms (n := (i : Int)) rfl rfl rfl (by omega) (by omega)) ?_) | (refine onSome.intro (load_ms (l := n.tubes) (enc := Fam.R) (i := (i : Int)) (v := n.tubes[i].I) rfl rfl (by omega) (by omega) (by rw [hf]; rfl)) ?_) | (refine CallP.pure kC ?_) | (refine And.intro (idx_ms (n := (i : Int)) rfl rfl rfl (by omega) (by omega)) ?_) | (first | refine condP.dec (fun h => ?_) (fun h => ?_) | refine condP.eq (fun h => ?_) (fun h => ?_) | refine condP.ne (fun h => ?_) (fun h => ?_)) | (refine .i64 (by omega) (by omega) ?_) | (refine onSome.intro (idx_fs rfl rfl (by omega) (by omega) (fun _ => rfl)) ?_) | (refine onSome.intro (load_fs rfl (by omega) (by omega) rfl) ?_) | (refine And.intro rfl ?_))
    conv => whnf
    refine onSome.intro (get_enc (i := i) (by omega)) ?_
    conv => whnf
    refine store_enc (enc := Fam.R) (a := n.tubes[i]) (l' := n.tubes) rfl (List.set_getElem_self _) ?_
    (repeat ((conv => whnf); refine And.intro rfl ?_)); conv => whnf
    refine .i64 (by omega) (by omega) ?_
    conv => whnf
    exact .more (i + 1) rfl (by omega) (by omega) ⟨rfl, rfl, rfl, rfl, rfl, trivial⟩ rfl ⟨.ptr _ _ _ (by simp), .ptr _ _ _ (by simp), .mslice _ _ _ _ _ (by simp), .int _ _, .int _ _, trivial⟩
      ⟨row_inn n.R_no, row_inn (nn_cons (.int _ _) nn_none), row_inn (nn_cons .nilslice (nn_cons (.int _ _) (nn_cons .nilslice nn_none))), inn_row (in_cons (.mslice _ _ _ _ _ (by simp)) (in_cons (.int _ _) (in_one ((stgsI_no _).inn _)))), row_inn (nn_cons .nilslice (nn_cons (.int _ _) (nn_cons .nilslice nn_none))), ms_inn Fam.R_no _, trivial⟩
  obtain rfl : i = n.tubes.length := by omega
  repeat' ((conv => whnf); first | (refine condP.dec (fun h => absurd h (by omega)) (fun _ => ?_)) | (first | refine condP.dec (fun h => ?_) (fun h => ?_) | refine condP.eq (fun h => ?_) (fun h => ?_) | refine condP.ne (fun h => ?_) (fun h => ?_)) | (refine .i64 (by omega) (by omega) ?_) | (refine onSome.intro (idx_fs rfl rfl (by omega) (by omega) (fun _ => rfl)) ?_) | (refine onSome.intro (load_fs rfl (by omega) (by omega) rfl) ?_) | (refine And.intro rfl ?_))
  refine .done (by simp) ?_
  repeat' ((conv => whnf); first | (refine CallP.new kS ?_) | (first | refine condP.dec (fun h => ?_) (fun h => ?_) | refine condP.eq (fun h => ?_) (fun h => ?_) | refine condP.ne (fun h => ?_) (fun h => ?_)) | (refine .i64 (by omega) (by omega) ?_) | (refine onSome.intro (idx_fs rfl rfl (by omega) (by omega) (fun _ => rfl)) ?_) | (refine onSome.intro (load_fs rfl (by omega) (by omega) rfl) ?_) | (refine And.intro rfl ?_))
  refine loop_grow (X := Nat) (fun i => [(1, .ptr 3 0 0), (2, .ptr 4 0 0), (38, .mslice 6 0 n.stages.length n.stages.length false), (39, .int .i64 n.stages.length), (40, .int .i64 i)])
    (fun _ => [.live 3 [n.R], .live 1 [[.int .i64 c]], .live 3 [[.nilslice, .int .i64 0, .nilslice]], .live 3 [[.mslice 5 0 n.tubes.length n.tubes.length false, .int .i64 n.ins, .mslice 6 0 n.stages.length n.stages.length false]], .live 3 [[.nilslice, .int .i64 0, .nilslice]], .live 4 (n.tubes.map Fam.R), .live 8 (n.stages.map Stg.R)])
    (fun i => n.stages.length - i) (fun i => i ≤ n.stages.length) 0 (Nat.zero_le _) ⟨rfl, rfl, rfl, rfl, rfl, trivial⟩ rfl (fun i hi => ?_)
  rcases Nat.lt_or_ge i n.stages.length with hlt | hge
  · have hf : at' n.stages (i : Int) = n.stages[i] := at'_get hlt
    have kT := hT i hlt
    rw [hf] at kT
    generalize hs : n.stages[i] = s at *
    have kT' : ∀ (H : Heap) (b : Nat), H b = .free → Ev T (.call (.func (.func 170) [] []) [tapsI s.taps] H) (.call (omsl b s.taps) (H.set b (lsS 3 Tap.R s.taps))) := kT
    repeat' ((conv => whnf); first | (refine force_om ?_) | (refine forceC_om ?_) | (refine condP.dec (fun _ => ?_) (fun h => absurd (by omega) h)) | (refine onSome.intro (idx_ms (n := (i : Int)) rfl rfl rfl (by omega) (by omega)) ?_) | (refine onSome.intro (load_ms (l := n.stages) (enc := Stg.R) (i := (i : Int)) (v := s.I) rfl rfl (by omega) (by omega) (by rw [hf]; rfl)) ?_) | (refine CallP.new kT' ?_) | (refine And.intro (idx_ms (n := (i : Int)) rfl rfl rfl (by omega) (by omega)) ?_) | (first | refine condP.dec (fun h => ?_) (fun h => ?_) | refine condP.eq (fun h => ?_) (fun h => ?_) | refine condP.ne (fun h => ?_) (fun h => ?_)) | (refine .i64 (by omega) (by omega) ?_) | (refine onSome.intro (idx_fs rfl rfl (by omega) (by omega) (fun _ => rfl)) ?_) | (refine onSome.intro (load_fs rfl (by omega) (by omega) rfl) ?_) | (refine And.intro rfl ?_))
    conv => whnf
    refine onSome.intro (get_enc (i := i) (by omega)) ?_
    rw [hs]
    conv => whnf
    refine onTrue.intro (by cases s.taps <;> rfl) ?_
    refine store_sym ?_
    (repeat ((conv => whnf); refine And.intro rfl ?_)); conv => whnf
    refine .i64 (by omega) (by omega) ?_
    conv => whnf
    exact .more (i + 1) [0, 1, 2, 3, 4, 5, 6] rfl (by omega) (by omega) rfl ⟨.pt rfl, .pt rfl, .ms rfl, .same (.int _ _), .same (.int _ _), trivial⟩
      ⟨.same (noS_row n.R_no), .same (noS_row (nn_cons (.int _ _) nn_none)), .same (noS_row (nn_cons .nilslice (nn_cons (.int _ _) (nn_cons .nilslice nn_none)))), .row (.cons (.ms rfl) (.cons (.same (.int _ _)) (.cons (.ms rfl) .nil))), .same (noS_row (nn_cons .nilslice (nn_cons (.int _ _) (nn_cons .nilslice nn_none)))), .same (noS_map Fam.R_no),
        stage_anew (b := 8) (s := s) hs (by show overlay s.R (0 + 7) (omsl 8 s.taps).cells = _; rw [omsl_cells]; rfl) rfl (fun _ _ q => by cases q), trivial⟩
  obtain rfl : i = n.stages.length := by omega
  repeat' ((conv => whnf); first | (refine condP.dec (fun h => absurd h (by omega)) (fun _ => ?_)) | (first | refine condP.dec (fun h => ?_) (fun h => ?_) | refine condP.eq (fun h => ?_) (fun h => ?_) | refine condP.ne (fun h => ?_) (fun h => ?_)) | (refine .i64 (by omega) (by omega) ?_) | (refine onSome.intro (idx_fs rfl rfl (by omega) (by omega) (fun _ => rfl)) ?_) | (refine onSome.intro (load_fs rfl (by omega) (by omega) rfl) ?_) | (refine And.intro rfl ?_))
  refine .done (by simp) ?_
  repeat' ((conv => whnf); first | (refine force_om ?_) | (refine forceC_om ?_) | (refine forceC_in (v := v) ?_) | (refine force_in (v := v) ?_) | (refine CallP.new kI ?_) | (first | refine condP.dec (fun h => ?_) (fun h => ?_) | refine condP.eq (fun h => ?_) (fun h => ?_) | refine condP.ne (fun h => ?_) (fun h => ?_)) | (refine .i64 (by omega) (by omega) ?_) | (refine onSome.intro (idx_fs rfl rfl (by omega) (by omega) (fun _ => rfl)) ?_) | (refine onSome.intro (load_fs rfl (by omega) (by omega) rfl) ?_) | (refine And.intro rfl ?_))
  refine loop_rule (X := Nat × List Fam × Nat) (fun x => [(6, .ptr 2 0 0), (8, .ptr 8 0 0), (9, omsl 7 l), (10, .ptr 9 0 0), (11, .func (.func 152) [] [.ptr 9 0 0]), (25, .int .i64 n.tubes.length), (26, .int .i64 x.1)])
    (fun x => CNl n l x.2.2 x.2.1 n.stages n.tubes.length n.stages.length) (fun x => n.tubes.length - x.1) (fun x => x.1 ≤ n.tubes.length ∧ x.2.1 = tubeC n.tubes c x.1 ∧ x.2.2 = c / 2 ^ x.1) (0, n.tubes, c) ⟨Nat.zero_le _, rfl, by simp⟩ ⟨rfl, rfl, rfl, rfl, rfl, rfl, rfl, trivial⟩ rfl (fun _ _ => rfl) (fun x hx => ?_)
  obtain ⟨i, ys, cc⟩ := x
  obtain ⟨hi, hy, hcc⟩ := hx
  dsimp only at hi hy hcc ⊢
  have hyl : ys.length = n.tubes.length := by rw [hy, tubeC_len]
  have hcb : cc ≤ c := by rw [hcc]; exact Nat.div_le_self _ _
  rcases Nat.lt_or_ge i n.tubes.length with hlt | hge
  · have hat : at' ys (i : Int) = at' n.tubes (i : Int) := by rw [hy, tubeC_high _ _ (Nat.le_refl _)]
    have hFo := hn.fam i hlt
    have kC := Copy_ok hFo
    have hst : tubeC n.tubes c (i + 1) = ys.set i ((at' ys (i : Int)).side (bitN c i)) := by rw [tubeC, hy]
    rw [hat] at hst
    have hbn : bitN c i = decide (cc % 2 = 1) := by rw [hcc]; rfl
    have hnx : cc / 2 = c / 2 ^ (i + 1) := by rw [hcc, bit_next]
    generalize hf : at' n.tubes (i : Int) = f at *
    have hb : cc % 2 = 0 ∨ cc % 2 = 1 := by omega
    rcases hb with hb | hb
    all_goals repeat' ((conv => whnf); first | (refine force_om ?_) | (refine forceC_om ?_) | ((rw [and1 _ (by omega)])) | ((rw [shr1])) | (refine condP.eq (fun h => absurd h (by omega)) (fun _ => ?_)) | (refine condP.eq (fun _ => ?_) (fun h => absurd (by omega) h)) | (refine condP.dec (fun _ => ?_) (fun h => absurd (by omega) h)) | (refine onSome.intro (idx_ms (n := (i : Int)) rfl rfl rfl (by omega) (by omega)) ?_) | (refine onSome.intro (load_ms (l := ys) (enc := Fam.R) (i := (i : Int)) (v := f.I) rfl rfl (by omega) (by omega) (by rw [hat]; rfl)) ?_) | (refine CallP.inl T151 (by simp only [CNl, List.all_cons, List.all_nil, Slot.used, Bool.true_and, Bool.and_true]; cases l <;> rfl) ?_) | (refine CallP.pure kC ?_) | (first | refine condP.dec (fun h => ?_) (fun h => ?_) | refine condP.eq (fun h => ?_) (fun h => ?_) | refine condP.ne (fun h => ?_) (fun h => ?_)) | (refine .i64 (by omega) (by omega) ?_) | (refine onSome.intro (idx_fs rfl rfl (by omega) (by omega) (fun _ => rfl)) ?_) | (refine onSome.intro (load_fs rfl (by omega) (by omega) rfl) ?_) | (refine And.intro rfl ?_))
    all_goals conv => whnf
    all_goals refine onSome.intro (get_enc (i := i) (by omega)) ?_
    all_goals rw [show ys[i]'(by omega) = f by rw [← hat, at'_get (by omega)]]
    all_goals conv => whnf
    · refine store_enc (enc := Fam.R) (a := f.side false) (l' := ys.set i (f.side false)) rfl rfl ?_
      (repeat ((conv => whnf); refine And.intro rfl ?_)); conv => whnf
      refine .i64 (by omega) (by omega) ?_
      conv => whnf
      rw [show bitN c i = false by rw [hbn]; exact decide_eq_false (by omega)] at hst
      exact .more (i + 1, ys.set i (f.side false), cc / 2) rfl ⟨by dsimp only; omega, hst.symm, hnx⟩ (by dsimp only; omega) ⟨rfl, rfl, rfl, rfl, rfl, rfl, rfl, trivial⟩ rfl ⟨.ptr _ _ _ (by simp [CNl]), .ptr _ _ _ (by simp [CNl]), omsl_inn (by simp [CNl]) _, .ptr _ _ _ (by simp [CNl]), inn_func (in_one (.ptr _ _ _ (by simp [CNl]))), .int _ _, .int _ _, trivial⟩ (CNl_chk ..)
    · refine store_enc (enc := Fam.R) (a := f.side true) (l' := ys.set i (f.side true)) rfl rfl ?_
      (repeat ((conv => whnf); refine And.intro rfl ?_)); conv => whnf
      refine .i64 (by omega) (by omega) ?_
      conv => whnf
      rw [show bitN c i = true by rw [hbn]; exact decide_eq_true (by omega)] at hst
      exact .more (i + 1, ys.set i (f.side true), cc / 2) rfl ⟨by dsimp only; omega, hst.symm, hnx⟩ (by dsimp only; omega) ⟨rfl, rfl, rfl, rfl, rfl, rfl, rfl, trivial⟩ rfl ⟨.ptr _ _ _ (by simp [CNl]), .ptr _ _ _ (by simp [CNl]), omsl_inn (by simp [CNl]) _, .ptr _ _ _ (by simp [CNl]), inn_func (in_one (.ptr _ _ _ (by simp [CNl]))), .int _ _, .int _ _, trivial⟩ (CNl_chk ..)
  obtain rfl : i = n.tubes.length := by omega
  repeat' ((conv => whnf); first | (refine force_om ?_) | (refine forceC_om ?_) | (refine condP.dec (fun h => absurd h (by omega)) (fun _ => ?_)) | (first | refine condP.dec (fun h => ?_) (fun h => ?_) | refine condP.eq (fun h => ?_) (fun h => ?_) | refine condP.ne (fun h => ?_) (fun h => ?_)) | (refine .i64 (by omega) (by omega) ?_) | (refine onSome.intro (idx_fs rfl rfl (by omega) (by omega) (fun _ => rfl)) ?_) | (refine onSome.intro (load_fs rfl (by omega) (by omega) rfl) ?_) | (refine And.intro rfl ?_))
  refine .done (by simp) ?_
  repeat' ((conv => whnf); first | (refine force_om ?_) | (refine forceC_om ?_) | (first | refine condP.dec (fun h => ?_) (fun h => ?_) | refine condP.eq (fun h => ?_) (fun h => ?_) | refine condP.ne (fun h => ?_) (fun h => ?_)) | (refine .i64 (by omega) (by omega) ?_) | (refine onSome.intro (idx_fs rfl rfl (by omega) (by omega) (fun _ => rfl)) ?_) | (refine onSome.intro (load_fs rfl (by omega) (by omega) rfl) ?_) | (refine And.intro rfl ?_))
  generalize hys : tubeC n.tubes c n.tubes.length = YS at *
  subst hy
  refine loop_rule (X := Nat × List Stg × Nat) (fun x => [(6, .ptr 2 0 0), (8, .ptr 8 0 0), (9, omsl 7 l), (11, .func (.func 152) [] [.ptr 9 0 0]), (56, .int .i64 n.stages.length), (57, .int .i64 x.1)])
    (fun x => CNl n l x.2.2 ys x.2.1 n.tubes.length n.stages.length) (fun x => n.stages.length - x.1) (fun x => x.1 ≤ n.stages.length ∧ x.2.1 = stgC n.stages c n.tubes.length x.1 ∧ x.2.2 = c / 2 ^ (n.tubes.length + 3 * x.1)) (0, n.stages, cc) ⟨Nat.zero_le _, rfl, by dsimp only; rw [Nat.mul_zero, Nat.add_zero]; exact hcc⟩ ⟨rfl, rfl, rfl, rfl, rfl, rfl, trivial⟩ rfl (fun _ _ => rfl) (fun x hx => ?_)
  clear hcc hcb
  obtain ⟨i, ss, cc⟩ := x
  obtain ⟨hi, hs, hcc⟩ := hx
  dsimp only at hi hs hcc ⊢
  have hsl : ss.length = n.stages.length := by rw [hs, stgC_len]
  have hcb : cc ≤ c := by rw [hcc]; exact Nat.div_le_self _ _
  rcases Nat.lt_or_ge i n.stages.length with hlt | hge
  · have hst : stgC n.stages c n.tubes.length (i + 1) = ss.set i ((at' ss (i : Int)).side (bitN c (n.tubes.length + 3 * i)) (bitN c (n.tubes.length + 3 * i + 1)) (bitN c (n.tubes.length + 3 * i + 2))) := by rw [stgC, hs]
    have b0 : bitN c (n.tubes.length + 3 * i) = decide (cc % 2 = 1) := by rw [hcc]; rfl
    have b1 : bitN c (n.tubes.length + 3 * i + 1) = decide (cc / 2 % 2 = 1) := by rw [hcc, bit_next]; rfl
    have b2 : bitN c (n.tubes.length + 3 * i + 2) = decide (cc / 2 / 2 % 2 = 1) := by rw [hcc, bit_next, bit_next]; rfl
    have hnx : cc / 2 / 2 / 2 = c / 2 ^ (n.tubes.length + 3 * (i + 1)) := by rw [hcc, bit_next, bit_next, bit_next]; congr 1
    rw [b0, b1, b2] at hst
    generalize hf : at' ss (i : Int) = f at *
    obtain ⟨tb, ⟨u0, u1⟩, ⟨v0, v1⟩, ⟨w0, w1⟩, tp⟩ := f
    have a0 := hf
    -- stages begin
    rcases (show (cc) % 2 = 0 ∨ (cc) % 2 = 1 by omega) with q0 | q0
    · repeat' ((conv => whnf); first | (refine force_om ?_) | (refine forceC_om ?_) | ((rw [and1 _ (by omega)])) | ((rw [shr1])) | (refine condP.eq (fun h => absurd h (by omega)) (fun _ => ?_)) | (refine condP.eq (fun _ => ?_) (fun h => absurd (by omega) h)) | (refine condP.dec (fun _ => ?_) (fun h => absurd (by omega) h)) | (refine onSome.intro (idx_ms (n := (i : Int)) rfl rfl rfl (by omega) (by omega)) ?_) | (refine onSome.intro (load_ms (l := ss) (enc := Stg.R) (i := (i : Int)) (v := .int .i64 u0) rfl rfl (by omega) (by omega) (by rw [a0]; rfl)) ?_) | (refine CallP.inl T152 (by simp only [CNl, List.all_cons, List.all_nil, Slot.used, Bool.true_and, Bool.and_true]; cases l <;> rfl) ?_) | (refine CallP.inl T151 (by simp only [CNl, List.all_cons, List.all_nil, Slot.used, Bool.true_and, Bool.and_true]; cases l <;> rfl) ?_) | (first | refine condP.dec (fun h => ?_) (fun h => ?_) | refine condP.eq (fun h => ?_) (fun h => ?_) | refine condP.ne (fun h => ?_) (fun h => ?_)) | (refine .i64 (by omega) (by omega) ?_) | (refine onSome.intro (idx_fs rfl rfl (by omega) (by omega) (fun _ => rfl)) ?_) | (refine onSome.intro (load_fs rfl (by omega) (by omega) rfl) ?_) | (refine And.intro rfl ?_))
      conv => whnf
      refine onSome.intro (get_enc (i := i) (by omega)) ?_
      rw [show ss[i]'(by omega) = ⟨tb, ⟨u0, u1⟩, ⟨v0, v1⟩, ⟨w0, w1⟩, tp⟩ by rw [← a0, at'_get (by omega)]]
      conv => whnf
      have hset := setS (l := ss) (i := i) (by omega) ⟨tb, ⟨u0, u0⟩, ⟨v0, v1⟩, ⟨w0, w1⟩, tp⟩
      obtain ⟨s1, e1, l1, a1, z1'⟩ := hset
      have z1 : ∀ b, s1.set i b = ss.set i b := fun b => (z1' b)
      refine store_enc (enc := Stg.R) (a := ⟨tb, ⟨u0, u0⟩, ⟨v0, v1⟩, ⟨w0, w1⟩, tp⟩) (l' := s1) rfl e1.symm ?_
      rcases (show (cc / 2) % 2 = 0 ∨ (cc / 2) % 2 = 1 by omega) with q1 | q1
      · repeat' ((conv => whnf); first | (refine force_om ?_) | (refine forceC_om ?_) | ((rw [and1 _ (by omega)])) | ((rw [shr1])) | (refine condP.eq (fun h => absurd h (by omega)) (fun _ => ?_)) | (refine condP.eq (fun _ => ?_) (fun h => absurd (by omega) h)) | (refine condP.dec (fun _ => ?_) (fun h => absurd (by omega) h)) | (refine onSome.intro (idx_ms (n := (i : Int)) rfl rfl rfl (by omega) (by omega)) ?_) | (refine onSome.intro (load_ms (l := s1) (enc := Stg.R) (i := (i : Int)) (v := .int .i64 v0) rfl rfl (by omega) (by omega) (by rw [a1]; rfl)) ?_) | (refine CallP.inl T152 (by simp only [CNl, List.all_cons, List.all_nil, Slot.used, Bool.true_and, Bool.and_true]; cases l <;> rfl) ?_) | (refine CallP.inl T151 (by simp only [CNl, List.all_cons, List.all_nil, Slot.used, Bool.true_and, Bool.and_true]; cases l <;> rfl) ?_) | (first | refine condP.dec (fun h => ?_) (fun h => ?_) | refine condP.eq (fun h => ?_) (fun h => ?_) | refine condP.ne (fun h => ?_) (fun h => ?_)) | (refine .i64 (by omega) (by omega) ?_) | (refine onSome.intro (idx_fs rfl rfl (by omega) (by omega) (fun _ => rfl)) ?_) | (refine onSome.intro (load_fs rfl (by omega) (by omega) rfl) ?_) | (refine And.intro rfl ?_))
        conv => whnf
        refine onSome.intro (get_enc (i := i) (by omega)) ?_
        rw [show s1[i]'(by omega) = ⟨tb, ⟨u0, u0⟩, ⟨v0, v1⟩, ⟨w0, w1⟩, tp⟩ by rw [← a1, at'_get (by omega)]]
        conv => whnf
        have hset := setS (l := s1) (i := i) (by omega) ⟨tb, ⟨u0, u0⟩, ⟨v0, v0⟩, ⟨w0, w1⟩, tp⟩
        obtain ⟨s2, e2, l2, a2, z2'⟩ := hset
        have z2 : ∀ b, s2.set i b = ss.set i b := fun b => (z2' b).trans (z1 b)
        refine store_enc (enc := Stg.R) (a := ⟨tb, ⟨u0, u0⟩, ⟨v0, v0⟩, ⟨w0, w1⟩, tp⟩) (l' := s2) rfl e2.symm ?_
        rcases (show (cc / 2 / 2) % 2 = 0 ∨ (cc / 2 / 2) % 2 = 1 by omega) with q2 | q2
        · repeat' ((conv => whnf); first | (refine force_om ?_) | (refine forceC_om ?_) | ((rw [and1 _ (by omega)])) | ((rw [shr1])) | (refine condP.eq (fun h => absurd h (by omega)) (fun _ => ?_)) | (refine condP.eq (fun _ => ?_) (fun h => absurd (by omega) h)) | (refine condP.dec (fun _ => ?_) (fun h => absurd (by omega) h)) | (refine onSome.intro (idx_ms (n := (i : Int)) rfl rfl rfl (by omega) (by omega)) ?_) | (refine onSome.intro (load_ms (l := s2) (enc := Stg.R) (i := (i : Int)) (v := .int .i64 w0) rfl rfl (by omega) (by omega) (by rw [a2]; rfl)) ?_) | (refine CallP.inl T152 (by simp only [CNl, List.all_cons, List.all_nil, Slot.used, Bool.true_and, Bool.and_true]; cases l <;> rfl) ?_) | (refine CallP.inl T151 (by simp only [CNl, List.all_cons, List.all_nil, Slot.used, Bool.true_and, Bool.and_true]; cases l <;> rfl) ?_) | (first | refine condP.dec (fun h => ?_) (fun h => ?_) | refine condP.eq (fun h => ?_) (fun h => ?_) | refine condP.ne (fun h => ?_) (fun h => ?_)) | (refine .i64 (by omega) (by omega) ?_) | (refine onSome.intro (idx_fs rfl rfl (by omega) (by omega) (fun _ => rfl)) ?_) | (refine onSome.intro (load_fs rfl (by omega) (by omega) rfl) ?_) | (refine And.intro rfl ?_))
          conv => whnf
          refine onSome.intro (get_enc (i := i) (by omega)) ?_
          rw [show s2[i]'(by omega) = ⟨tb, ⟨u0, u0⟩, ⟨v0, v0⟩, ⟨w0, w1⟩, tp⟩ by rw [← a2, at'_get (by omega)]]
          conv => whnf
          have hset := setS (l := s2) (i := i) (by omega) ⟨tb, ⟨u0, u0⟩, ⟨v0, v0⟩, ⟨w0, w0⟩, tp⟩
          obtain ⟨s3, e3, l3, a3, z3'⟩ := hset
          have z3 : ∀ b, s3.set i b = ss.set i b := fun b => (z3' b).trans (z2 b)
          refine store_enc (enc := Stg.R) (a := ⟨tb, ⟨u0, u0⟩, ⟨v0, v0⟩, ⟨w0, w0⟩, tp⟩) (l' := s3) rfl e3.symm ?_
          (repeat ((conv => whnf); refine And.intro rfl ?_)); conv => whnf
          refine .i64 (by omega) (by omega) ?_
          conv => whnf
          rw [decide_eq_false (show ¬ cc % 2 = 1 by omega), decide_eq_false (show ¬ cc / 2 % 2 = 1 by omega), decide_eq_false (show ¬ cc / 2 / 2 % 2 = 1 by omega)] at hst
          exact .more (i + 1, s3, cc / 2 / 2 / 2) rfl ⟨by dsimp only; omega, by dsimp only; rw [hst]; exact e3.trans (z2 _), hnx⟩ (by dsimp only; omega) ⟨rfl, rfl, rfl, rfl, rfl, rfl, trivial⟩ rfl ⟨.ptr _ _ _ (by simp [CNl]), .ptr _ _ _ (by simp [CNl]), omsl_inn (by simp [CNl]) _, inn_func (in_one (.ptr _ _ _ (by simp [CNl]))), .int _ _, .int _ _, trivial⟩ (CNl_chk ..)
        · repeat' ((conv => whnf); first | (refine force_om ?_) | (refine forceC_om ?_) | ((rw [and1 _ (by omega)])) | ((rw [shr1])) | (refine condP.eq (fun h => absurd h (by omega)) (fun _ => ?_)) | (refine condP.eq (fun _ => ?_) (fun h => absurd (by omega) h)) | (refine condP.dec (fun _ => ?_) (fun h => absurd (by omega) h)) | (refine onSome.intro (idx_ms (n := (i : Int)) rfl rfl rfl (by omega) (by omega)) ?_) | (refine onSome.intro (load_ms (l := s2) (enc := Stg.R) (i := (i : Int)) (v := .int .i64 w1) rfl rfl (by omega) (by omega) (by rw [a2]; rfl)) ?_) | (refine CallP.inl T152 (by simp only [CNl, List.all_cons, List.all_nil, Slot.used, Bool.true_and, Bool.and_true]; cases l <;> rfl) ?_) | (refine CallP.inl T151 (by simp only [CNl, List.all_cons, List.all_nil, Slot.used, Bool.true_and, Bool.and_true]; cases l <;> rfl) ?_) | (first | refine condP.dec (fun h => ?_) (fun h => ?_) | refine condP.eq (fun h => ?_) (fun h => ?_) | refine condP.ne (fun h => ?_) (fun h => ?_)) | (refine .i64 (by omega) (by omega) ?_) | (refine onSome.intro (idx_fs rfl rfl (by omega) (by omega) (fun _ => rfl)) ?_) | (refine onSome.intro (load_fs rfl (by omega) (by omega) rfl) ?_) | (refine And.intro rfl ?_))
          conv => whnf
          refine onSome.intro (get_enc (i := i) (by omega)) ?_
          rw [show s2[i]'(by omega) = ⟨tb, ⟨u0, u0⟩, ⟨v0, v0⟩, ⟨w0, w1⟩, tp⟩ by rw [← a2, at'_get (by omega)]]
          conv => whnf
          have hset := setS (l := s2) (i := i) (by omega) ⟨tb, ⟨u0, u0⟩, ⟨v0, v0⟩, ⟨w1, w1⟩, tp⟩
          obtain ⟨s3, e3, l3, a3, z3'⟩ := hset
          have z3 : ∀ b, s3.set i b = ss.set i b := fun b => (z3' b).trans (z2 b)
          refine store_enc (enc := Stg.R) (a := ⟨tb, ⟨u0, u0⟩, ⟨v0, v0⟩, ⟨w1, w1⟩, tp⟩) (l' := s3) rfl e3.symm ?_
          (repeat ((conv => whnf); refine And.intro rfl ?_)); conv => whnf
          refine .i64 (by omega) (by omega) ?_
          conv => whnf
          rw [decide_eq_false (show ¬ cc % 2 = 1 by omega), decide_eq_false (show ¬ cc / 2 % 2 = 1 by omega), decide_eq_true (show cc / 2 / 2 % 2 = 1 by omega)] at hst
          exact .more (i + 1, s3, cc / 2 / 2 / 2) rfl ⟨by dsimp only; omega, by dsimp only; rw [hst]; exact e3.trans (z2 _), hnx⟩ (by dsimp only; omega) ⟨rfl, rfl, rfl, rfl, rfl, rfl, trivial⟩ rfl ⟨.ptr _ _ _ (by simp [CNl]), .ptr _ _ _ (by simp [CNl]), omsl_inn (by simp [CNl]) _, inn_func (in_one (.ptr _ _ _ (by simp [CNl]))), .int _ _, .int _ _, trivial⟩ (CNl_chk ..)
      · repeat' ((conv => whnf); first | (refine force_om ?_) | (refine forceC_om ?_) | ((rw [and1 _ (by omega)])) | ((rw [shr1])) | (refine condP.eq (fun h => absurd h (by omega)) (fun _ => ?_)) | (refine condP.eq (fun _ => ?_) (fun h => absurd (by omega) h)) | (refine condP.dec (fun _ => ?_) (fun h => absurd (by omega) h)) | (refine onSome.intro (idx_ms (n := (i : Int)) rfl rfl rfl (by omega) (by omega)) ?_) | (refine onSome.intro (load_ms (l := s1) (enc := Stg.R) (i := (i : Int)) (v := .int .i64 v1) rfl rfl (by omega) (by omega) (by rw [a1]; rfl)) ?_) | (refine CallP.inl T152 (by simp only [CNl, List.all_cons, List.all_nil, Slot.used, Bool.true_and, Bool.and_true]; cases l <;> rfl) ?_) | (refine CallP.inl T151 (by simp only [CNl, List.all_cons, List.all_nil, Slot.used, Bool.true_and, Bool.and_true]; cases l <;> rfl) ?_) | (first | refine condP.dec (fun h => ?_) (fun h => ?_) | refine condP.eq (fun h => ?_) (fun h => ?_) | refine condP.ne (fun h => ?_) (fun h => ?_)) | (refine .i64 (by omega) (by omega) ?_) | (refine onSome.intro (idx_fs rfl rfl (by omega) (by omega) (fun _ => rfl)) ?_) | (refine onSome.intro (load_fs rfl (by omega) (by omega) rfl) ?_) | (refine And.intro rfl ?_))
        conv => whnf
        refine onSome.intro (get_enc (i := i) (by omega)) ?_
        rw [show s1[i]'(by omega) = ⟨tb, ⟨u0, u0⟩, ⟨v0, v1⟩, ⟨w0, w1⟩, tp⟩ by rw [← a1, at'_get (by omega)]]
        conv => whnf
        have hset := setS (l := s1) (i := i) (by omega) ⟨tb, ⟨u0, u0⟩, ⟨v1, v1⟩, ⟨w0, w1⟩, tp⟩
        obtain ⟨s2, e2, l2, a2, z2'⟩ := hset
        have z2 : ∀ b, s2.set i b = ss.set i b := fun b => (z2' b).trans (z1 b)
        refine store_enc (enc := Stg.R) (a := ⟨tb, ⟨u0, u0⟩, ⟨v1, v1⟩, ⟨w0, w1⟩, tp⟩) (l' := s2) rfl e2.symm ?_
        rcases (show (cc / 2 / 2) % 2 = 0 ∨ (cc / 2 / 2) % 2 = 1 by omega) with q2 | q2
        · repeat' ((conv => whnf); first | (refine force_om ?_) | (refine forceC_om ?_) | ((rw [and1 _ (by omega)])) | ((rw [shr1])) | (refine condP.eq (fun h => absurd h (by omega)) (fun _ => ?_)) | (refine condP.eq (fun _ => ?_) (fun h => absurd (by omega) h)) | (refine condP.dec (fun _ => ?_) (fun h => absurd (by omega) h)) | (refine onSome.intro (idx_ms (n := (i : Int)) rfl rfl rfl (by omega) (by omega)) ?_) | (refine onSome.intro (load_ms (l := s2) (enc := Stg.R) (i := (i : Int)) (v := .int .i64 w0) rfl rfl (by omega) (by omega) (by rw [a2]; rfl)) ?_) | (refine CallP.inl T152 (by simp only [CNl, List.all_cons, List.all_nil, Slot.used, Bool.true_and, Bool.and_true]; cases l <;> rfl) ?_) | (refine CallP.inl T151 (by simp only [CNl, List.all_cons, List.all_nil, Slot.used, Bool.true_and, Bool.and_true]; cases l <;> rfl) ?_) | (first | refine condP.dec (fun h => ?_) (fun h => ?_) | refine condP.eq (fun h => ?_) (fun h => ?_) | refine condP.ne (fun h => ?_) (fun h => ?_)) | (refine .i64 (by omega) (by omega) ?_) | (refine onSome.intro (idx_fs rfl rfl (by omega) (by omega) (fun _ => rfl)) ?_) | (refine onSome.intro (load_fs rfl (by omega) (by omega) rfl) ?_) | (refine And.intro rfl ?_))
          conv => whnf
          refine onSome.intro (get_enc (i := i) (by omega)) ?_
          rw [show s2[i]'(by omega) = ⟨tb, ⟨u0, u0⟩, ⟨v1, v1⟩, ⟨w0, w1⟩, tp⟩ by rw [← a2, at'_get (by omega)]]
          conv => whnf
          have hset := setS (l := s2) (i := i) (by omega) ⟨tb, ⟨u0, u0⟩, ⟨v1, v1⟩, ⟨w0, w0⟩, tp⟩
          obtain ⟨s3, e3, l3, a3, z3'⟩ := hset
          have z3 : ∀ b, s3.set i b = ss.set i b := fun b => (z3' b).trans (z2 b)
          refine store_enc (enc := Stg.R) (a := ⟨tb, ⟨u0, u0⟩, ⟨v1, v1⟩, ⟨w0, w0⟩, tp⟩) (l' := s3) rfl e3.symm ?_
          (repeat ((conv => whnf); refine And.intro rfl ?_)); conv => whnf
          refine .i64 (by omega) (by omega) ?_
          conv => whnf
          rw [decide_eq_false (show ¬ cc % 2 = 1 by omega), decide_eq_true (show cc / 2 % 2 = 1 by omega), decide_eq_false (show ¬ cc / 2 / 2 % 2 = 1 by omega)] at hst
          exact .more (i + 1, s3, cc / 2 / 2 / 2) rfl ⟨by dsimp only; omega, by dsimp only; rw [hst]; exact e3.trans (z2 _), hnx⟩ (by dsimp only; omega) ⟨rfl, rfl, rfl, rfl, rfl, rfl, trivial⟩ rfl ⟨.ptr _ _ _ (by simp [CNl]), .ptr _ _ _ (by simp [CNl]), omsl_inn (by simp [CNl]) _, inn_func (in_one (.ptr _ _ _ (by simp [CNl]))), .int _ _, .int _ _, trivial⟩ (CNl_chk ..)
        · repeat' ((conv => whnf); first | (refine force_om ?_) | (refine forceC_om ?_) | ((rw [and1 _ (by omega)])) | ((rw [shr1])) | (refine condP.eq (fun h => absurd h (by omega)) (fun _ => ?_)) | (refine condP.eq (fun _ => ?_) (fun h => absurd (by omega) h)) | (refine condP.dec (fun _ => ?_) (fun h => absurd (by omega) h)) | (refine onSome.intro (idx_ms (n := (i : Int)) rfl rfl rfl (by omega) (by omega)) ?_) | (refine onSome.intro (load_ms (l := s2) (enc := Stg.R) (i := (i : Int)) (v := .int .i64 w1) rfl rfl (by omega) (by omega) (by rw [a2]; rfl)) ?_) | (refine CallP.inl T152 (by simp only [CNl, List.all_cons, List.all_nil, Slot.used, Bool.true_and, Bool.and_true]; cases l <;> rfl) ?_) | (refine CallP.inl T151 (by simp only [CNl, List.all_cons, List.all_nil, Slot.used, Bool.true_and, Bool.and_true]; cases l <;> rfl) ?_) | (first | refine condP.dec (fun h => ?_) (fun h => ?_) | refine condP.eq (fun h => ?_) (fun h => ?_) | refine condP.ne (fun h => ?_) (fun h => ?_)) | (refine .i64 (by omega) (by omega) ?_) | (refine onSome.intro (idx_fs rfl rfl (by omega) (by omega) (fun _ => rfl)) ?_) | (refine onSome.intro (load_fs rfl (by omega) (by omega) rfl) ?_) | (refine And.intro rfl ?_))
          conv => whnf
          refine onSome.intro (get_enc (i := i) (by omega)) ?_
          rw [show s2[i]'(by omega) = ⟨tb, ⟨u0, u0⟩, ⟨v1, v1⟩, ⟨w0, w1⟩, tp⟩ by rw [← a2, at'_get (by omega)]]
          conv => whnf
          have hset := setS (l := s2) (i := i) (by omega) ⟨tb, ⟨u0, u0⟩, ⟨v1, v1⟩, ⟨w1, w1⟩, tp⟩
          obtain ⟨s3, e3, l3, a3, z3'⟩ := hset
          have z3 : ∀ b, s3.set i b = ss.set i b := fun b => (z3' b).trans (z2 b)
          refine store_enc (enc := Stg.R) (a := ⟨tb, ⟨u0, u0⟩, ⟨v1, v1⟩, ⟨w1, w1⟩, tp⟩) (l' := s3) rfl e3.symm ?_
          (repeat ((conv => whnf); refine And.intro rfl ?_)); conv => whnf
          refine .i64 (by omega) (by omega) ?_
          conv => whnf
          rw [decide_eq_false (show ¬ cc % 2 = 1 by omega), decide_eq_true (show cc / 2 % 2 = 1 by omega), decide_eq_true (show cc / 2 / 2 % 2 = 1 by omega)] at hst
          exact .more (i + 1, s3, cc / 2 / 2 / 2) rfl ⟨by dsimp only; omega, by dsimp only; rw [hst]; exact e3.trans (z2 _), hnx⟩ (by dsimp only; omega) ⟨rfl, rfl, rfl, rfl, rfl, rfl, trivial⟩ rfl ⟨.ptr _ _ _ (by simp [CNl]), .ptr _ _ _ (by simp [CNl]), omsl_inn (by simp [CNl]) _, inn_func (in_one (.ptr _ _ _ (by simp [CNl]))), .int _ _, .int _ _, trivial⟩ (CNl_chk ..)
    · repeat' ((conv => whnf); first | (refine force_om ?_) | (refine forceC_om ?_) | ((rw [and1 _ (by omega)])) | ((rw [shr1])) | (refine condP.eq (fun h => absurd h (by omega)) (fun _ => ?_)) | (refine condP.eq (fun _ => ?_) (fun h => absurd (by omega) h)) | (refine condP.dec (fun _ => ?_) (fun h => absurd (by omega) h)) | (refine onSome.intro (idx_ms (n := (i : Int)) rfl rfl rfl (by omega) (by omega)) ?_) | (refine onSome.intro (load_ms (l := ss) (enc := Stg.R) (i := (i : Int)) (v := .int .i64 u1) rfl rfl (by omega) (by omega) (by rw [a0]; rfl)) ?_) | (refine CallP.inl T152 (by simp only [CNl, List.all_cons, List.all_nil, Slot.used, Bool.true_and, Bool.and_true]; cases l <;> rfl) ?_) | (refine CallP.inl T151 (by simp only [CNl, List.all_cons, List.all_nil, Slot.used, Bool.true_and, Bool.and_true]; cases l <;> rfl) ?_) | (first | refine condP.dec (fun h => ?_) (fun h => ?_) | refine condP.eq (fun h => ?_) (fun h => ?_) | refine condP.ne (fun h => ?_) (fun h => ?_)) | (refine .i64 (by omega) (by omega) ?_) | (refine onSome.intro (idx_fs rfl rfl (by omega) (by omega) (fun _ => rfl)) ?_) | (refine onSome.intro (load_fs rfl (by omega) (by omega) rfl) ?_) | (refine And.intro rfl ?_))
      conv => whnf
      refine onSome.intro (get_enc (i := i) (by omega)) ?_
      rw [show ss[i]'(by omega) = ⟨tb, ⟨u0, u1⟩, ⟨v0, v1⟩, ⟨w0, w1⟩, tp⟩ by rw [← a0, at'_get (by omega)]]
      conv => whnf
      have hset := setS (l := ss) (i := i) (by omega) ⟨tb, ⟨u1, u1⟩, ⟨v0, v1⟩, ⟨w0, w1⟩, tp⟩
      obtain ⟨s1, e1, l1, a1, z1'⟩ := hset
      have z1 : ∀ b, s1.set i b = ss.set i b := fun b => (z1' b)
      refine store_enc (enc := Stg.R) (a := ⟨tb, ⟨u1, u1⟩, ⟨v0, v1⟩, ⟨w0, w1⟩, tp⟩) (l' := s1) rfl e1.symm ?_
      rcases (show (cc / 2) % 2 = 0 ∨ (cc / 2) % 2 = 1 by omega) with q1 | q1
      · repeat' ((conv => whnf); first | (refine force_om ?_) | (refine forceC_om ?_) | ((rw [and1 _ (by omega)])) | ((rw [shr1])) | (refine condP.eq (fun h => absurd h (by omega)) (fun _ => ?_)) | (refine condP.eq (fun _ => ?_) (fun h => absurd (by omega) h)) | (refine condP.dec (fun _ => ?_) (fun h => absurd (by omega) h)) | (refine onSome.intro (idx_ms (n := (i : Int)) rfl rfl rfl (by omega) (by omega)) ?_) | (refine onSome.intro (load_ms (l := s1) (enc := Stg.R) (i := (i : Int)) (v := .int .i64 v0) rfl rfl (by omega) (by omega) (by rw [a1]; rfl)) ?_) | (refine CallP.inl T152 (by simp only [CNl, List.all_cons, List.all_nil, Slot.used, Bool.true_and, Bool.and_true]; cases l <;> rfl) ?_) | (refine CallP.inl T151 (by simp only [CNl, List.all_cons, List.all_nil, Slot.used, Bool.true_and, Bool.and_true]; cases l <;> rfl) ?_) | (first | refine condP.dec (fun h => ?_) (fun h => ?_) | refine condP.eq (fun h => ?_) (fun h => ?_) | refine condP.ne (fun h => ?_) (fun h => ?_)) | (refine .i64 (by omega) (by omega) ?_) | (refine onSome.intro (idx_fs rfl rfl (by omega) (by omega) (fun _ => rfl)) ?_) | (refine onSome.intro (load_fs rfl (by omega) (by omega) rfl) ?_) | (refine And.intro rfl ?_))
        conv => whnf
        refine onSome.intro (get_enc (i := i) (by omega)) ?_
        rw [show s1[i]'(by omega) = ⟨tb, ⟨u1, u1⟩, ⟨v0, v1⟩, ⟨w0, w1⟩, tp⟩ by rw [← a1, at'_get (by omega)]]
        conv => whnf
        have hset := setS (l := s1) (i := i) (by omega) ⟨tb, ⟨u1, u1⟩, ⟨v0, v0⟩, ⟨w0, w1⟩, tp⟩
        obtain ⟨s2, e2, l2, a2, z2'⟩ := hset
        have z2 : ∀ b, s2.set i b = ss.set i b := fun b => (z2' b).trans (z1 b)
        refine store_enc (enc := Stg.R) (a := ⟨tb, ⟨u1, u1⟩, ⟨v0, v0⟩, ⟨w0, w1⟩, tp⟩) (l' := s2) rfl e2.symm ?_
        rcases (show (cc / 2 / 2) % 2 = 0 ∨ (cc / 2 / 2) % 2 = 1 by omega) with q2 | q2
        · repeat' ((conv => whnf); first | (refine force_om ?_) | (refine forceC_om ?_) | ((rw [and1 _ (by omega)])) | ((rw [shr1])) | (refine condP.eq (fun h => absurd h (by omega)) (fun _ => ?_)) | (refine condP.eq (fun _ => ?_) (fun h => absurd (by omega) h)) | (refine condP.dec (fun _ => ?_) (fun h => absurd (by omega) h)) | (refine onSome.intro (idx_ms (n := (i : Int)) rfl rfl rfl (by omega) (by omega)) ?_) | (refine onSome.intro (load_ms (l := s2) (enc := Stg.R) (i := (i : Int)) (v := .int .i64 w0) rfl rfl (by omega) (by omega) (by rw [a2]; rfl)) ?_) | (refine CallP.inl T152 (by simp only [CNl, List.all_cons, List.all_nil, Slot.used, Bool.true_and, Bool.and_true]; cases l <;> rfl) ?_) | (refine CallP.inl T151 (by simp only [CNl, List.all_cons, List.all_nil, Slot.used, Bool.true_and, Bool.and_true]; cases l <;> rfl) ?_) | (first | refine condP.dec (fun h => ?_) (fun h => ?_) | refine condP.eq (fun h => ?_) (fun h => ?_) | refine condP.ne (fun h => ?_) (fun h => ?_)) | (refine .i64 (by omega) (by omega) ?_) | (refine onSome.intro (idx_fs rfl rfl (by omega) (by omega) (fun _ => rfl)) ?_) | (refine onSome.intro (load_fs rfl (by omega) (by omega) rfl) ?_) | (refine And.intro rfl ?_))
          conv => whnf
          refine onSome.intro (get_enc (i := i) (by omega)) ?_
          rw [show s2[i]'(by omega) = ⟨tb, ⟨u1, u1⟩, ⟨v0, v0⟩, ⟨w0, w1⟩, tp⟩ by rw [← a2, at'_get (by omega)]]
          conv => whnf
          have hset := setS (l := s2) (i := i) (by omega) ⟨tb, ⟨u1, u1⟩, ⟨v0, v0⟩, ⟨w0, w0⟩, tp⟩
          obtain ⟨s3, e3, l3, a3, z3'⟩ := hset
          have z3 : ∀ b, s3.set i b = ss.set i b := fun b => (z3' b).trans (z2 b)
          refine store_enc (enc := Stg.R) (a := ⟨tb, ⟨u1, u1⟩, ⟨v0, v0⟩, ⟨w0, w0⟩, tp⟩) (l' := s3) rfl e3.symm ?_
          (repeat ((conv => whnf); refine And.intro rfl ?_)); conv => whnf
          refine .i64 (by omega) (by omega) ?_
          conv => whnf
          rw [decide_eq_true (show cc % 2 = 1 by omega), decide_eq_false (show ¬ cc / 2 % 2 = 1 by omega), decide_eq_false (show ¬ cc / 2 / 2 % 2 = 1 by omega)] at hst
          exact .more (i + 1, s3, cc / 2 / 2 / 2) rfl ⟨by dsimp only; omega, by dsimp only; rw [hst]; exact e3.trans (z2 _), hnx⟩ (by dsimp only; omega) ⟨rfl, rfl, rfl, rfl, rfl, rfl, trivial⟩ rfl ⟨.ptr _ _ _ (by simp [CNl]), .ptr _ _ _ (by simp [CNl]), omsl_inn (by simp [CNl]) _, inn_func (in_one (.ptr _ _ _ (by simp [CNl]))), .int _ _, .int _ _, trivial⟩ (CNl_chk ..)
        · repeat' ((conv => whnf); first | (refine force_om ?_) | (refine forceC_om ?_) | ((rw [and1 _ (by omega)])) | ((rw [shr1])) | (refine condP.eq (fun h => absurd h (by omega)) (fun _ => ?_)) | (refine condP.eq (fun _ => ?_) (fun h => absurd (by omega) h)) | (refine condP.dec (fun _ => ?_) (fun h => absurd (by omega) h)) | (refine onSome.intro (idx_ms (n := (i : Int)) rfl rfl rfl (by omega) (by omega)) ?_) | (refine onSome.intro (load_ms (l := s2) (enc := Stg.R) (i := (i : Int)) (v := .int .i64 w1) rfl rfl (by omega) (by omega) (by rw [a2]; rfl)) ?_) | (refine CallP.inl T152 (by simp only [CNl, List.all_cons, List.all_nil, Slot.used, Bool.true_and, Bool.and_true]; cases l <;> rfl) ?_) | (refine CallP.inl T151 (by simp only [CNl, List.all_cons, List.all_nil, Slot.used, Bool.true_and, Bool.and_true]; cases l <;> rfl) ?_) | (first | refine condP.dec (fun h => ?_) (fun h => ?_) | refine condP.eq (fun h => ?_) (fun h => ?_) | refine condP.ne (fun h => ?_) (fun h => ?_)) | (refine .i64 (by omega) (by omega) ?_) | (refine onSome.intro (idx_fs rfl rfl (by omega) (by omega) (fun _ => rfl)) ?_) | (refine onSome.intro (load_fs rfl (by omega) (by omega) rfl) ?_) | (refine And.intro rfl ?_))
          conv => whnf
          refine onSome.intro (get_enc (i := i) (by omega)) ?_
          rw [show s2[i]'(by omega) = ⟨tb, ⟨u1, u1⟩, ⟨v0, v0⟩, ⟨w0, w1⟩, tp⟩ by rw [← a2, at'_get (by omega)]]
          conv => whnf
          have hset := setS (l := s2) (i := i) (by omega) ⟨tb, ⟨u1, u1⟩, ⟨v0, v0⟩, ⟨w1, w1⟩, tp⟩
          obtain ⟨s3, e3, l3, a3, z3'⟩ := hset
          have z3 : ∀ b, s3.set i b = ss.set i b := fun b => (z3' b).trans (z2 b)
          refine store_enc (enc := Stg.R) (a := ⟨tb, ⟨u1, u1⟩, ⟨v0, v0⟩, ⟨w1, w1⟩, tp⟩) (l' := s3) rfl e3.symm ?_
          (repeat ((conv => whnf); refine And.intro rfl ?_)); conv => whnf
          refine .i64 (by omega) (by omega) ?_
          conv => whnf
          rw [decide_eq_true (show cc % 2 = 1 by omega), decide_eq_false (show ¬ cc / 2 % 2 = 1 by omega), decide_eq_true (show cc / 2 / 2 % 2 = 1 by omega)] at hst
          exact .more (i + 1, s3, cc / 2 / 2 / 2) rfl ⟨by dsimp only; omega, by dsimp only; rw [hst]; exact e3.trans (z2 _), hnx⟩ (by dsimp only; omega) ⟨rfl, rfl, rfl, rfl, rfl, rfl, trivial⟩ rfl ⟨.ptr _ _ _ (by simp [CNl]), .ptr _ _ _ (by simp [CNl]), omsl_inn (by simp [CNl]) _, inn_func (in_one (.ptr _ _ _ (by simp [CNl]))), .int _ _, .int _ _, trivial⟩ (CNl_chk ..)
      · repeat' ((conv => whnf); first | (refine force_om ?_) | (refine forceC_om ?_) | ((rw [and1 _ (by omega)])) | ((rw [shr1])) | (refine condP.eq (fun h => absurd h (by omega)) (fun _ => ?_)) | (refine condP.eq (fun _ => ?_) (fun h => absurd (by omega) h)) | (refine condP.dec (fun _ => ?_) (fun h => absurd (by omega) h)) | (refine onSome.intro (idx_ms (n := (i : Int)) rfl rfl rfl (by omega) (by omega)) ?_) | (refine onSome.intro (load_ms (l := s1) (enc := Stg.R) (i := (i : Int)) (v := .int .i64 v1) rfl rfl (by omega) (by omega) (by rw [a1]; rfl)) ?_) | (refine CallP.inl T152 (by simp only [CNl, List.all_cons, List.all_nil, Slot.used, Bool.true_and, Bool.and_true]; cases l <;> rfl) ?_) | (refine CallP.inl T151 (by simp only [CNl, List.all_cons, List.all_nil, Slot.used, Bool.true_and, Bool.and_true]; cases l <;> rfl) ?_) | (first | refine condP.dec (fun h => ?_) (fun h => ?_) | refine condP.eq (fun h => ?_) (fun h => ?_) | refine condP.ne (fun h => ?_) (fun h => ?_)) | (refine .i64 (by omega) (by omega) ?_) | (refine onSome.intro (idx_fs rfl rfl (by omega) (by omega) (fun _ => rfl)) ?_) | (refine onSome.intro (load_fs rfl (by omega) (by omega) rfl) ?_) | (refine And.intro rfl ?_))
        conv => whnf
        refine onSome.intro (get_enc (i := i) (by omega)) ?_
        rw [show s1[i]'(by omega) = ⟨tb, ⟨u1, u1⟩, ⟨v0, v1⟩, ⟨w0, w1⟩, tp⟩ by rw [← a1, at'_get (by omega)]]
        conv => whnf
        have hset := setS (l := s1) (i := i) (by omega) ⟨tb, ⟨u1, u1⟩, ⟨v1, v1⟩, ⟨w0, w1⟩, tp⟩
        obtain ⟨s2, e2, l2, a2, z2'⟩ := hset
        have z2 : ∀ b, s2.set i b = ss.set i b := fun b => (z2' b).trans (z1 b)
        refine store_enc (enc := Stg.R) (a := ⟨tb, ⟨u1, u1⟩, ⟨v1, v1⟩, ⟨w0, w1⟩, tp⟩) (l' := s2) rfl e2.symm ?_
        rcases (show (cc / 2 / 2) % 2 = 0 ∨ (cc / 2 / 2) % 2 = 1 by omega) with q2 | q2
        · repeat' ((conv => whnf); first | (refine force_om ?_) | (refine forceC_om ?_) | ((rw [and1 _ (by omega)])) | ((rw [shr1])) | (refine condP.eq (fun h => absurd h (by omega)) (fun _ => ?_)) | (refine condP.eq (fun _ => ?_) (fun h => absurd (by omega) h)) | (refine condP.dec (fun _ => ?_) (fun h => absurd (by omega) h)) | (refine onSome.intro (idx_ms (n := (i : Int)) rfl rfl rfl (by omega) (by omega)) ?_) | (refine onSome.intro (load_ms (l := s2) (enc := Stg.R) (i := (i : Int)) (v := .int .i64 w0) rfl rfl (by omega) (by omega) (by rw [a2]; rfl)) ?_) | (refine CallP.inl T152 (by simp only [CNl, List.all_cons, List.all_nil, Slot.used, Bool.true_and, Bool.and_true]; cases l <;> rfl) ?_) | (refine CallP.inl T151 (by simp only [CNl, List.all_cons, List.all_nil, Slot.used, Bool.true_and, Bool.and_true]; cases l <;> rfl) ?_) | (first | refine condP.dec (fun h => ?_) (fun h => ?_) | refine condP.eq (fun h => ?_) (fun h => ?_) | refine condP.ne (fun h => ?_) (fun h => ?_)) | (refine .i64 (by omega) (by omega) ?_) | (refine onSome.intro (idx_fs rfl rfl (by omega) (by omega) (fun _ => rfl)) ?_) | (refine onSome.intro (load_fs rfl (by omega) (by omega) rfl) ?_) | (refine And.intro rfl ?_))
          conv => whnf
          refine onSome.intro (get_enc (i := i) (by omega)) ?_
          rw [show s2[i]'(by omega) = ⟨tb, ⟨u1, u1⟩, ⟨v1, v1⟩, ⟨w0, w1⟩, tp⟩ by rw [← a2, at'_get (by omega)]]
          conv => whnf
          have hset := setS (l := s2) (i := i) (by omega) ⟨tb, ⟨u1, u1⟩, ⟨v1, v1⟩, ⟨w0, w0⟩, tp⟩
          obtain ⟨s3, e3, l3, a3, z3'⟩ := hset
          have z3 : ∀ b, s3.set i b = ss.set i b := fun b => (z3' b).trans (z2 b)
          refine store_enc (enc := Stg.R) (a := ⟨tb, ⟨u1, u1⟩, ⟨v1, v1⟩, ⟨w0, w0⟩, tp⟩) (l' := s3) rfl e3.symm ?_
          (repeat ((conv => whnf); refine And.intro rfl ?_)); conv => whnf
          refine .i64 (by omega) (by omega) ?_
          conv => whnf
          rw [decide_eq_true (show cc % 2 = 1 by omega), decide_eq_true (show cc / 2 % 2 = 1 by omega), decide_eq_false (show ¬ cc / 2 / 2 % 2 = 1 by omega)] at hst
          exact .more (i + 1, s3, cc / 2 / 2 / 2) rfl ⟨by dsimp only; omega, by dsimp only; rw [hst]; exact e3.trans (z2 _), hnx⟩ (by dsimp only; omega) ⟨rfl, rfl, rfl, rfl, rfl, rfl, trivial⟩ rfl ⟨.ptr _ _ _ (by simp [CNl]), .ptr _ _ _ (by simp [CNl]), omsl_inn (by simp [CNl]) _, inn_func (in_one (.ptr _ _ _ (by simp [CNl]))), .int _ _, .int _ _, trivial⟩ (CNl_chk ..)
        · repeat' ((conv => whnf); first | (refine force_om ?_) | (refine forceC_om ?_) | ((rw [and1 _ (by omega)])) | ((rw [shr1])) | (refine condP.eq (fun h => absurd h (by omega)) (fun _ => ?_)) | (refine condP.eq (fun _ => ?_) (fun h => absurd (by omega) h)) | (refine condP.dec (fun _ => ?_) (fun h => absurd (by omega) h)) | (refine onSome.intro (idx_ms (n := (i : Int)) rfl rfl rfl (by omega) (by omega)) ?_) | (refine onSome.intro (load_ms (l := s2) (enc := Stg.R) (i := (i : Int)) (v := .int .i64 w1) rfl rfl (by omega) (by omega) (by rw [a2]; rfl)) ?_) | (refine CallP.inl T152 (by simp only [CNl, List.all_cons, List.all_nil, Slot.used, Bool.true_and, Bool.and_true]; cases l <;> rfl) ?_) | (refine CallP.inl T151 (by simp only [CNl, List.all_cons, List.all_nil, Slot.used, Bool.true_and, Bool.and_true]; cases l <;> rfl) ?_) | (first | refine condP.dec (fun h => ?_) (fun h => ?_) | refine condP.eq (fun h => ?_) (fun h => ?_) | refine condP.ne (fun h => ?_) (fun h => ?_)) | (refine .i64 (by omega) (by omega) ?_) | (refine onSome.intro (idx_fs rfl rfl (by omega) (by omega) (fun _ => rfl)) ?_) | (refine onSome.intro (load_fs rfl (by omega) (by omega) rfl) ?_) | (refine And.intro rfl ?_))
          conv => whnf
          refine onSome.intro (get_enc (i := i) (by omega)) ?_
          rw [show s2[i]'(by omega) = ⟨tb, ⟨u1, u1⟩, ⟨v1, v1⟩, ⟨w0, w1⟩, tp⟩ by rw [← a2, at'_get (by omega)]]
          conv => whnf
          have hset := setS (l := s2) (i := i) (by omega) ⟨tb, ⟨u1, u1⟩, ⟨v1, v1⟩, ⟨w1, w1⟩, tp⟩
          obtain ⟨s3, e3, l3, a3, z3'⟩ := hset
          have z3 : ∀ b, s3.set i b = ss.set i b := fun b => (z3' b).trans (z2 b)
          refine store_enc (enc := Stg.R) (a := ⟨tb, ⟨u1, u1⟩, ⟨v1, v1⟩, ⟨w1, w1⟩, tp⟩) (l' := s3) rfl e3.symm ?_
          (repeat ((conv => whnf); refine And.intro rfl ?_)); conv => whnf
          refine .i64 (by omega) (by omega) ?_
          conv => whnf
          rw [decide_eq_true (show cc % 2 = 1 by omega), decide_eq_true (show cc / 2 % 2 = 1 by omega), decide_eq_true (show cc / 2 / 2 % 2 = 1 by omega)] at hst
          exact .more (i + 1, s3, cc / 2 / 2 / 2) rfl ⟨by dsimp only; omega, by dsimp only; rw [hst]; exact e3.trans (z2 _), hnx⟩ (by dsimp only; omega) ⟨rfl, rfl, rfl, rfl, rfl, rfl, trivial⟩ rfl ⟨.ptr _ _ _ (by simp [CNl]), .ptr _ _ _ (by simp [CNl]), omsl_inn (by simp [CNl]) _, inn_func (in_one (.ptr _ _ _ (by simp [CNl]))), .int _ _, .int _ _, trivial⟩ (CNl_chk ..)
    -- stages end
  obtain rfl : i = n.stages.length := by omega
  generalize hss : stgC n.stages c n.tubes.length n.stages.length = SS at *
  subst hs
  have hcor : n.corner c = ⟨ys, n.ins, ss⟩ := by unfold Net.corner; rw [hys, hss]
  rw [hcor]
  have hfz : ∀ {H H' : Heap}, H 5 = .live 4 (ys.map Fam.R) → H 6 = .live 8 (ss.map Stg.R) → (∀ sz e, H' 5 ≠ .live sz e) → (∀ sz e, H' 6 ≠ .live sz e) → Frz H H' (.agg [.mslice 5 0 n.tubes.length n.tubes.length false, .int .i64 n.ins, .mslice 6 0 n.stages.length n.stages.length false]) (Net.I ⟨ys, n.ins, ss⟩) := fun h1 h2 h3 h4 =>
    .aggL (.cons (.whole h1 h3 (by rw [List.length_map, hyl]) (.refl _)) (.cons (.refl _) (.cons (.whole h2 h4 (by rw [List.length_map, hsl]) (.refl _)) .nil)))
  repeat' ((conv => whnf); first | (refine force_om ?_) | (refine forceC_om ?_) | (refine condP.dec (fun h => absurd h (by omega)) (fun _ => ?_)) | (first | refine condP.dec (fun h => ?_) (fun h => ?_) | refine condP.eq (fun h => ?_) (fun h => ?_) | refine condP.ne (fun h => ?_) (fun h => ?_)) | (refine .i64 (by omega) (by omega) ?_) | (refine onSome.intro (idx_fs rfl rfl (by omega) (by omega) (fun _ => rfl)) ?_) | (refine onSome.intro (load_fs rfl (by omega) (by omega) rfl) ?_) | (refine And.intro rfl ?_))
  refine .done (by simp) ?_
  by_cases hl0 : l = []
  · subst hl0
    conv => whnf
    refine loop_step ?_
    conv => whnf
    exact .intro (.tuple [.agg [.mslice 5 0 n.tubes.length n.tubes.length false, .int .i64 n.ins, .mslice 6 0 n.stages.length n.stages.length false], .nilslice]) (.inl rfl) rfl (.tupleL (.cons (hfz rfl rfl (fun _ _ h => by cases h) (fun _ _ h => by cases h)) (.cons .nil .nil)))
  unfold CNl
  rw [omsl_ne hl0, lsS_ne hl0]
  conv => whnf
  refine loop_rule (X := Nat × List Rg × Nat) (fun x => [(6, .ptr 2 0 0), (8, .ptr 8 0 0), (9, .mslice 7 0 l.length l.length false), (11, .func (.func 152) [] [.ptr 9 0 0]), (86, .int .i64 l.length), (87, .int .i64 x.1)])
    (fun x => CNm n x.2.1 x.2.2 ys ss n.tubes.length n.stages.length) (fun x => l.length - x.1) (fun x => x.1 ≤ l.length ∧ x.2.1 = insC l c (n.tubes.length + 3 * n.stages.length) x.1 ∧ x.2.2 = c / 2 ^ (n.tubes.length + 3 * n.stages.length + x.1)) (0, l, cc) ⟨Nat.zero_le _, rfl, hcc⟩ ⟨rfl, rfl, rfl, rfl, rfl, rfl, trivial⟩ rfl (fun _ _ => rfl) (fun x hx => ?_)
  clear hcc hcb
  obtain ⟨i, xs, cc⟩ := x
  obtain ⟨hi, hx, hcc⟩ := hx
  dsimp only at hi hx hcc ⊢
  have hxl : xs.length = l.length := by rw [hx, insC_len]
  have hcb : cc ≤ c := by rw [hcc]; exact Nat.div_le_self _ _
  rcases Nat.lt_or_ge i l.length with hlt | hge
  · have hst : insC l c (n.tubes.length + 3 * n.stages.length) (i + 1) = xs.set i (sideR (at' xs (i : Int)) (bitN c (n.tubes.length + 3 * n.stages.length + i))) := by rw [insC, hx]
    have b0 : bitN c (n.tubes.length + 3 * n.stages.length + i) = decide (cc % 2 = 1) := by rw [hcc]; rfl
    have hnx : cc / 2 = c / 2 ^ (n.tubes.length + 3 * n.stages.length + (i + 1)) := by rw [hcc, bit_next]; rfl
    rw [b0] at hst
    generalize hf : at' xs (i : Int) = f at *
    obtain ⟨r0, r1⟩ := f
    rcases (show cc % 2 = 0 ∨ cc % 2 = 1 by omega) with q0 | q0
    · repeat' ((conv => whnf); first | ((rw [and1 _ (by omega)])) | ((rw [shr1])) | (refine condP.eq (fun h => absurd h (by omega)) (fun _ => ?_)) | (refine condP.eq (fun _ => ?_) (fun h => absurd (by omega) h)) | (refine condP.dec (fun _ => ?_) (fun h => absurd (by omega) h)) | (refine onSome.intro (idx_ms (n := (i : Int)) rfl rfl rfl (by omega) (by omega)) ?_) | (refine onSome.intro (load_ms (l := xs) (enc := Rg.R) (i := (i : Int)) (v := .int .i64 r0) rfl rfl (by omega) (by omega) (by rw [hf]; rfl)) ?_) | (refine CallP.inl T152 rfl ?_) | (refine CallP.inl T151 rfl ?_) | (first | refine condP.dec (fun h => ?_) (fun h => ?_) | refine condP.eq (fun h => ?_) (fun h => ?_) | refine condP.ne (fun h => ?_) (fun h => ?_)) | (refine .i64 (by omega) (by omega) ?_) | (refine onSome.intro (idx_fs rfl rfl (by omega) (by omega) (fun _ => rfl)) ?_) | (refine onSome.intro (load_fs rfl (by omega) (by omega) rfl) ?_) | (refine And.intro rfl ?_))
      conv => whnf
      refine onSome.intro (get_enc (i := i) (by omega)) ?_
      rw [show xs[i]'(by omega) = ⟨r0, r1⟩ by rw [← hf, at'_get (by omega)]]
      conv => whnf
      refine store_enc (enc := Rg.R) (a := ⟨r0, r0⟩) (l' := xs.set i ⟨r0, r0⟩) rfl rfl ?_
      (repeat ((conv => whnf); refine And.intro rfl ?_)); conv => whnf
      refine .i64 (by omega) (by omega) ?_
      conv => whnf
      rw [decide_eq_false (show ¬ cc % 2 = 1 by omega)] at hst
      exact .more (i + 1, xs.set i ⟨r0, r0⟩, cc / 2) rfl ⟨by dsimp only; omega, hst.symm, hnx⟩ (by dsimp only; omega) ⟨rfl, rfl, rfl, rfl, rfl, rfl, trivial⟩ rfl ⟨.ptr _ _ _ (by simp [CNm]), .ptr _ _ _ (by simp [CNm]), .mslice _ _ _ _ _ (by simp [CNm]), inn_func (in_one (.ptr _ _ _ (by simp [CNm]))), .int _ _, .int _ _, trivial⟩ (CNm_chk ..)
    · repeat' ((conv => whnf); first | ((rw [and1 _ (by omega)])) | ((rw [shr1])) | (refine condP.eq (fun h => absurd h (by omega)) (fun _ => ?_)) | (refine condP.eq (fun _ => ?_) (fun h => absurd (by omega) h)) | (refine condP.dec (fun _ => ?_) (fun h => absurd (by omega) h)) | (refine onSome.intro (idx_ms (n := (i : Int)) rfl rfl rfl (by omega) (by omega)) ?_) | (refine onSome.intro (load_ms (l := xs) (enc := Rg.R) (i := (i : Int)) (v := .int .i64 r1) rfl rfl (by omega) (by omega) (by rw [hf]; rfl)) ?_) | (refine CallP.inl T152 rfl ?_) | (refine CallP.inl T151 rfl ?_) | (first | refine condP.dec (fun h => ?_) (fun h => ?_) | refine condP.eq (fun h => ?_) (fun h => ?_) | refine condP.ne (fun h => ?_) (fun h => ?_)) | (refine .i64 (by omega) (by omega) ?_) | (refine onSome.intro (idx_fs rfl rfl (by omega) (by omega) (fun _ => rfl)) ?_) | (refine onSome.intro (load_fs rfl (by omega) (by omega) rfl) ?_) | (refine And.intro rfl ?_))
      conv => whnf
      refine onSome.intro (get_enc (i := i) (by omega)) ?_
      rw [show xs[i]'(by omega) = ⟨r0, r1⟩ by rw [← hf, at'_get (by omega)]]
      conv => whnf
      refine store_enc (enc := Rg.R) (a := ⟨r1, r1⟩) (l' := xs.set i ⟨r1, r1⟩) rfl rfl ?_
      (repeat ((conv => whnf); refine And.intro rfl ?_)); conv => whnf
      refine .i64 (by omega) (by omega) ?_
      conv => whnf
      rw [decide_eq_true (show cc % 2 = 1 by omega)] at hst
      exact .more (i + 1, xs.set i ⟨r1, r1⟩, cc / 2) rfl ⟨by dsimp only; omega, hst.symm, hnx⟩ (by dsimp only; omega) ⟨rfl, rfl, rfl, rfl, rfl, rfl, trivial⟩ rfl ⟨.ptr _ _ _ (by simp [CNm]), .ptr _ _ _ (by simp [CNm]), .mslice _ _ _ _ _ (by simp [CNm]), inn_func (in_one (.ptr _ _ _ (by simp [CNm]))), .int _ _, .int _ _, trivial⟩ (CNm_chk ..)
  obtain rfl : i = l.length := by omega
  repeat' ((conv => whnf); first | (refine condP.dec (fun h => absurd h (by omega)) (fun _ => ?_)) | (first | refine condP.dec (fun h => ?_) (fun h => ?_) | refine condP.eq (fun h => ?_) (fun h => ?_) | refine condP.ne (fun h => ?_) (fun h => ?_)) | (refine .i64 (by omega) (by omega) ?_) | (refine onSome.intro (idx_fs rfl rfl (by omega) (by omega) (fun _ => rfl)) ?_) | (refine onSome.intro (load_fs rfl (by omega) (by omega) rfl) ?_) | (refine And.intro rfl ?_))
  refine .done (by simp) ?_
  conv => whnf
  have hin : n.cornerIn l c = xs := by unfold Net.cornerIn; rw [hx]
  rw [hin]
  exact .intro (.tuple [.agg [.mslice 5 0 n.tubes.length n.tubes.length false, .int .i64 n.ins, .mslice 6 0 n.stages.length n.stages.length false], .mslice 7 0 l.length l.length false]) (.inl rfl) rfl (.tupleL (.cons (hfz rfl rfl (fun _ _ h => by cases h) (fun _ _ h => by cases h)) (.cons (.whole (sz := 2) (es := xs.map Rg.R) rfl (fun _ _ h => by cases h) (by rw [List.length_map, hxl]) (.refl _)) .nil)))

end Go.Proofs.YtlfaglkkeahamaaGreat.I
