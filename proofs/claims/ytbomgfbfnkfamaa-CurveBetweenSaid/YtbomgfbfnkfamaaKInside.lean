/- A family within another that has the same lines lies inside it, as the program tells it. -/
import Derived.Test.YtbomgfbfnkfamaaKcat
import Derived.Test.YtbomgfbfnkfamaaKat
import Derived.Test.YtbomgfbfnkfamaaMof
set_option linter.unusedVariables false
set_option maxHeartbeats 16000000
set_option linter.unusedSimpArgs false
namespace Go.Proofs.Ytbomgfbfnkfamaa.I
open Go.Ideal

def SP (a u o : Int) : Slot := .live 3 [[.int .i64 a, .int .i64 u, .int .i64 o]]
theorem SP_chk {S : Nat → Prop} (a u o : Int) {l : List Slot} (h : chkS S l) : chkS S (SP a u o :: l) := by
  refine ⟨fun j i hj hi => ?_, h⟩
  obtain rfl : j = 0 := by simpa using hj
  exact (nn_cons (nn_int .i64 a) (nn_cons (nn_int .i64 u) (nn_cons (nn_int .i64 o) nn_none)) _ (List.getElem_mem hi)).inn _
theorem mem_two {l : List Int} {i : Int} (h0 : 0 ≤ i) (h1 : i < ((l ++ l).length : Int)) : at' (l ++ l) i ∈ l := by
  have e : at' (l ++ l) i = (l ++ l)[i.toNat]'(by omega) := by
    unfold at'; rw [List.getD_eq_getElem?_getD, List.getElem?_eq_getElem (by omega), Option.getD_some]
  have := List.getElem_mem (l := l ++ l) (n := i.toNat) (by omega)
  rw [← e] at this
  rcases List.mem_append.mp this with h | h
  · exact h
  · exact h
theorem spot_line {l : List Int} {v a u o lo hi : Int} (h : LinesOk lo hi l) (hv : v ∈ l) (s : Spot l v a u o) : u = 0 ∧ o = 1 := by
  obtain ⟨i, h0, h1⟩ := mem_nth hv
  have := Spot.unique h.asc (by omega) s (.on i h0 h1)
  exact this.2
theorem Inside_in {g p : List Int} {lo hi lo' hi' : List (List Int)} (F : FamOk g p lo hi) (F' : FamOk g p lo' hi') (hin : ∀ i k, i < g.length → k < p.length → vc lo i k ≤ vc lo' i k ∧ vc hi' i k ≤ vc hi i k) (H : Heap) :
    Ev T (.call (.func (.func 44) [] []) [famI g p lo hi, famI g p lo' hi'] H) (.call (.bool true) H) := by
  refine run_pure T44 (.bool _) (nn_cons (famI_no ..) (nn_cons (famI_no ..) nn_none)) ?_ H
  have hg0 := F.g0
  have hg1 := F.g1
  have hp0 := F.p0
  have hp1 := F.p1
  have n1 := F.tl.len
  have n2 := F.th.len
  have n3 := F'.tl.len
  have n4 := F'.th.len
  have c1 := Check_ok g p lo hi (by omega) (by omega) (by omega) (by omega)
  have c2 := Check_ok g p lo' hi' (by omega) (by omega) (by omega) (by omega)
  rw [F.err] at c1
  rw [F'.err] at c2
  have cp := Concat_ok p p (by intro h; rw [h] at hp0; simp at hp0) (by omega) (by omega)
  have cg := Concat_ok g g (by intro h; rw [h] at hg0; simp at hg0) (by omega) (by omega)
  have bg : ∀ i : Int, 0 ≤ i → i < ((g ++ g).length : Int) → at' (g ++ g) i ∈ g := fun i => mem_two
  have bp : ∀ i : Int, 0 ≤ i → i < ((p ++ p).length : Int) → at' (p ++ p) i ∈ p := fun i => mem_two
  have lG : ∃ G, G = g ++ g := ⟨_, rfl⟩
  have lP : ∃ P, P = p ++ p := ⟨_, rfl⟩
  obtain ⟨G, hG⟩ := lG
  obtain ⟨P, hP⟩ := lP
  have lenG : G.length ≤ 80 := by rw [hG, List.length_append]; omega
  have lenP : P.length ≤ 80 := by rw [hP, List.length_append]; omega
  rw [← hG] at cg bg
  rw [← hP] at cp bp
  have lG : (G.map ei).length = G.length := List.length_map ..
  have lP : (P.map ei).length = P.length := List.length_map ..
  clear hG hP
  repeat' ((conv => whnf); first | (refine CallP.pure c1 ?_) | (refine CallP.pure c2 ?_) | (first | refine condP.dec (fun h => ?_) (fun h => ?_) | refine condP.eq (fun h => ?_) (fun h => ?_) | refine condP.ne (fun h => ?_) (fun h => ?_)) | (refine .i64 (by omega) (by omega) ?_) | (refine onSome.intro (idx_fs rfl rfl (by omega) (by omega) (fun _ => rfl)) ?_) | (refine onSome.intro (load_fs rfl (by omega) (by omega) rfl) ?_) | (refine And.intro rfl ?_))
  refine CallP.frz [2] rfl [sll [p, p]] (.cons (.whole (sz := 1) (es' := [p, p].map el) rfl (fun _ _ h => by cases h) rfl (.refl _)) .nil) ?_
  conv => whnf
  refine CallP.pure cp ?_
  (repeat ((conv => whnf); refine And.intro rfl ?_)); conv => whnf
  refine CallP.frz [3] rfl [sll [g, g]] (.cons (.whole (sz := 1) (es' := [g, g].map el) rfl (fun _ _ h => by cases h) rfl (.refl _)) .nil) ?_
  conv => whnf
  refine CallP.pure cg ?_
  conv => whnf
  refine loop_rule (X := Nat) (fun i => [(2, .ptr 0 0 0), (3, .ptr 1 0 0), (4, .bool false), (5, sl P), (35, sl G), (36, .int .i64 G.length), (37, .int .i64 i)]) (fun _ => [SF g p lo hi, SF g p lo' hi', .dead, .dead]) (fun i => G.length - i)
    (fun i => i ≤ G.length) 0 (Nat.zero_le _) ⟨rfl, rfl, rfl, rfl, rfl, by rw [← lG]; rfl, rfl, trivial⟩ rfl (fun _ _ => rfl) (fun i hiL => ?_)
  conv => whnf
  refine condP.dec (fun hlt => ?_) (fun hlt => ?_)
  rotate_left
  · conv => whnf
    refine .done (by simp) ?_
    conv => whnf
    exact .intro (.bool true) (.inl rfl) rfl (.refl _)
  have m1 := bg (i : Int) (by omega) (by omega)
  have b1 := LinesOk.mem F.g _ m1
  have wx := where_ok F.g (by omega) (by omega) b1.1 b1.2
  obtain ⟨xa, xu, xo, sx, kx⟩ := wx
  obtain ⟨x, xb⟩ := sx.plc F.g F.g0 (by omega)
  have x0 := spot_line F.g m1 sx
  obtain ⟨rfl, rfl⟩ := x0
  repeat' ((conv => whnf); first | (refine condP.dec (fun _ => ?_) (fun h => absurd (by omega) h)) | (refine .i64 (by omega) (by omega) ?_) | (refine onSome.intro (idx_fs rfl rfl (by omega) (by omega) (fun _ => rfl)) ?_) | (refine onSome.intro (load_fs rfl (by omega) (by omega) rfl) ?_) | (refine onSome.intro (idx_ms rfl rfl rfl (by omega) (by omega)) ?_) | (refine onSome.intro (load_ms rfl rfl (by omega) (by omega) rfl) ?_) | (refine And.intro rfl ?_) | (refine And.intro (load_fs rfl (by omega) (by omega) rfl) ?_) | (refine And.intro (idx_fs rfl rfl (by omega) (by omega) (fun _ => rfl)) ?_) | (refine And.intro (load_ms rfl rfl (by omega) (by omega) rfl) ?_) | (refine And.intro (idx_ms rfl rfl rfl (by omega) (by omega)) ?_))
  refine CallP.pure kx ?_
  (repeat ((conv => whnf); refine And.intro rfl ?_)); conv => whnf
  refine CallP.pure kx ?_
  (repeat ((conv => whnf); refine And.intro rfl ?_)); conv => whnf
  refine loop_rule (X := Nat) (fun k => [(2, .ptr 0 0 0), (3, .ptr 1 0 0), (4, .bool false), (5, sl P), (8, .ptr 4 0 0), (9, .ptr 5 0 0), (35, sl G), (36, .int .i64 G.length), (37, .int .i64 i), (49, sl P), (50, .int .i64 P.length), (51, .int .i64 k)]) (fun _ => [SF g p lo hi, SF g p lo' hi', .dead, .dead, SP xa 0 1, SP xa 0 1]) (fun k => P.length - k)
    (fun k => k ≤ P.length) 0 (Nat.zero_le _) ⟨rfl, rfl, rfl, rfl, rfl, rfl, rfl, rfl, rfl, rfl, by rw [← lP]; rfl, rfl, trivial⟩ rfl (fun _ _ => rfl) (fun k hkL => ?_)
  conv => whnf
  refine condP.dec (fun hkt => ?_) (fun hkt => ?_)
  rotate_left
  · conv => whnf
    refine .done (by simp) ?_
    conv => whnf
    refine .i64 (by omega) (by omega) ?_
    conv => whnf
    exact .more (i + 1) rfl (by omega) (by omega) ⟨rfl, rfl, rfl, rfl, rfl, rfl, rfl, trivial⟩ rfl ⟨.ptr _ _ _ (by simp), .ptr _ _ _ (by simp), .bool _, (sl_no _).inn _, (sl_no _).inn _, .int _ _, .int _ _, trivial⟩ (SF_chk _ _ _ _ (SF_chk _ _ _ _ trivial))
  have m2 := bp (k : Int) (by omega) (by omega)
  have b2 := LinesOk.mem F.p _ m2
  have wy := where_ok (F.p.wide (by omega) (by omega)) (by omega) (by omega) (v := at' P (k : Int)) (by omega) b2.2
  obtain ⟨ya, yu, yo, sy, ky⟩ := wy
  obtain ⟨y, yb⟩ := sy.plc F.p F.p0 (by omega)
  have y0 := spot_line F.p m2 sy
  obtain ⟨rfl, rfl⟩ := y0
  have k1 := value_ok F.tl (by omega) (by omega) F.cl x y (by omega) (by omega)
  have k2 := value_ok F.th (by omega) (by omega) F.ch x y (by omega) (by omega)
  have k3 := value_ok F'.tl (by omega) (by omega) F'.cl x y (by omega) (by omega)
  have k4 := value_ok F'.th (by omega) (by omega) F'.ch x y (by omega) (by omega)
  have v1 := vat_le (fun i k hi hk => (hin i k hi hk).1) x y
  have v2 := vat_le (fun i k hi hk => (hin i k hi hk).2) x y
  have w1 := vat_bounds F.cl x y
  have w2 := vat_bounds F.ch x y
  have w3 := vat_bounds F'.cl x y
  have w4 := vat_bounds F'.ch x y
  repeat' ((conv => whnf); first | (refine condP.dec (fun _ => ?_) (fun h => absurd (by omega) h)) | (refine .i64 (by omega) (by omega) ?_) | (refine onSome.intro (idx_fs rfl rfl (by omega) (by omega) (fun _ => rfl)) ?_) | (refine onSome.intro (load_fs rfl (by omega) (by omega) rfl) ?_) | (refine onSome.intro (idx_ms rfl rfl rfl (by omega) (by omega)) ?_) | (refine onSome.intro (load_ms rfl rfl (by omega) (by omega) rfl) ?_) | (refine And.intro rfl ?_) | (refine And.intro (load_fs rfl (by omega) (by omega) rfl) ?_) | (refine And.intro (idx_fs rfl rfl (by omega) (by omega) (fun _ => rfl)) ?_) | (refine And.intro (load_ms rfl rfl (by omega) (by omega) rfl) ?_) | (refine And.intro (idx_ms rfl rfl rfl (by omega) (by omega)) ?_))
  refine CallP.pure ky ?_
  (repeat ((conv => whnf); refine And.intro rfl ?_)); conv => whnf
  refine CallP.pure ky ?_
  (repeat ((conv => whnf); refine And.intro rfl ?_)); conv => whnf
  have hV : ∃ V1 V2 V3 V4, V1 = vat lo xa 0 1 ya 0 1 ∧ V2 = vat hi xa 0 1 ya 0 1 ∧ V3 = vat lo' xa 0 1 ya 0 1 ∧ V4 = vat hi' xa 0 1 ya 0 1 := ⟨_, _, _, _, rfl, rfl, rfl, rfl⟩
  obtain ⟨V1, V2, V3, V4, hV1, hV2, hV3, hV4⟩ := hV
  rw [← hV1] at k1 v1 w1
  rw [← hV2] at k2 v2 w2
  rw [← hV3] at k3 v1 w3
  rw [← hV4] at k4 v2 w4
  repeat' ((conv => whnf); first | (refine CallP.pure k1 ?_) | (refine CallP.pure k2 ?_) | (refine CallP.pure k3 ?_) | (refine CallP.pure k4 ?_) | (first | refine condP.dec (fun h => ?_) (fun h => ?_) | refine condP.eq (fun h => ?_) (fun h => ?_) | refine condP.ne (fun h => ?_) (fun h => ?_)) | (refine .i64 (by omega) (by omega) ?_) | (refine onSome.intro (idx_fs rfl rfl (by omega) (by omega) (fun _ => rfl)) ?_) | (refine onSome.intro (load_fs rfl (by omega) (by omega) rfl) ?_) | (refine And.intro rfl ?_))
  all_goals first | (exfalso; omega) | skip
  conv => whnf
  exact .more (k + 1) rfl (by omega) (by omega) ⟨rfl, rfl, rfl, rfl, rfl, rfl, rfl, rfl, rfl, rfl, rfl, rfl, trivial⟩ rfl ⟨.ptr _ _ _ (by simp), .ptr _ _ _ (by simp), .bool _, (sl_no _).inn _, .ptr _ _ _ (by simp), .ptr _ _ _ (by simp), (sl_no _).inn _, .int _ _, .int _ _, (sl_no _).inn _, .int _ _, .int _ _, trivial⟩ (SF_chk _ _ _ _ (SF_chk _ _ _ _ (SP_chk _ _ _ (SP_chk _ _ _ trivial))))
end Go.Proofs.Ytbomgfbfnkfamaa.I
