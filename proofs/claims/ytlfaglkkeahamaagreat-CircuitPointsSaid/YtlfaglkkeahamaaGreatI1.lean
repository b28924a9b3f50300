/- An ideal machine for Go code. Part 14: every operation but calls. -/
import Derived.Test.YtlfaglkkeahamaaGreatI0
import Derived.OrdersIn
set_option linter.unusedSimpArgs false
set_option linter.unusedVariables false
namespace Go.Ideal
open Go.RowKit

section
variable {P : Program} {n0 : Nat} {w0 : World} {Φ X : Frozen} {μ : Places} {nt : Nat} {E : Env} {a : Act} {H : Heap} {w : World}

theorem overlay_len {e cs : List IV} {off : Nat} (h : off + cs.length ≤ e.length) : (overlay e off cs).length = e.length := by
  simp [overlay]; omega

theorem sim_store (hW : WR n0 w0 Φ X μ H w) {t : TypeId} {n : Nat} {x v : IV} {vx vv : Value} (hn : Program.sizeT P t = some n) {b i off sz : Nat} {es : Els} {e : List IV} (hx : VR Φ μ x vx) (hxe : x = .ptr b i off) (hH : H b = .live sz es) (he : es[i]? = some e)
    (hv : VR Φ μ v vv) (hok : ∀ c ∈ v.cells, c.cellOk = true) (hvn : v.cells.length = n) (ho : off + n ≤ e.length) :
    Left P n0 w0 Φ X μ (H.set b (.live sz (es.set i (overlay e off v.cells)))) .undef w (do Instr.storeAt t vx vv; pure .skip) := by
  subst hxe
  cases hx with
  | ptr _ _ _ L hL =>
    obtain ⟨s1, s2, s3, s4, s5⟩ := hW.sz b sz es L hH hL
    obtain ⟨hi, rfl⟩ := List.getElem?_eq_some_iff.mp he
    have hu : v.isUndef = false := by
      cases v <;> first | rfl | (have := hok _ (by simp [IV.cells]; rfl); simp [IV.cellOk] at this)
    have hc := hv.cells hu
    have hsz : es[i].length = sz := s4 _ (List.getElem_mem hi)
    have hlt : i * sz + sz ≤ es.length * sz := by
      have : (i + 1) * sz ≤ es.length * sz := Nat.mul_le_mul_right _ hi
      rw [Nat.add_mul] at this; omega
    have hvs : vv.cells.size = n := by rw [← hc.1]; exact hvn
    have hone : ∀ u ∈ vv.cells.toList, u.oneCell' = true := by
      intro u hu
      obtain ⟨j, hj, rfl⟩ := List.getElem_of_mem hu
      simp only [Array.length_toList] at hj
      have hj' : j < v.cells.length := by omega
      have := (hc.2 j hj' hj).oneCell (hok _ (List.getElem_mem hj'))
      simpa using this
    have hst := run_storeCells_cells (P := P) L.rb (L.ro + i * L.sz + off) vv.cells.toList 0 w (fun j hj => by
      simp only [Array.length_toList, hvs] at hj
      obtain ⟨u, hu⟩ := hW.cell b sz es L hH hL (i * sz + off + j) (by omega)
      rw [show L.ro + i * L.sz + off + 0 + j = L.ro + (i * sz + off + j) by rw [s1]; omega, hu]; rfl) (fun j hj => hW.nofr _ _ s2) hone
    have hrun : (Instr.storeAt t (.pointer (some ⟨L.rb, L.ro + i * L.sz + off, none⟩)) vv).run P w = .ok () (w.setCells L.rb (L.ro + (i * sz + off)) vv.cells.toList) := by
      simp only [Instr.storeAt, Instr.sureAddr, storeVar, Sem.run_bind, Sem.run_pure, Result.andThen_ok, run_sizeOf' hn, hvs, ne_eq, not_true, if_false]
      rw [hst]
      simp only [Nat.add_zero, s1, Nat.add_assoc]
    have hov : off + v.cells.length ≤ es[i].length := by omega
    refine ⟨undef, w.setCells L.rb (L.ro + (i * sz + off)) vv.cells.toList, μ, .inr ⟨by simp [hrun], rfl⟩, hW.write hH hL (o := i * sz + off) (us := vv.cells.toList) (by simp [hvs]; omega) (fun e' he' => ?_) (by simpa using s5) (fun k j hk hj => ?_), .undef _, fun _ _ h => h⟩
    · rcases List.mem_or_eq_of_mem_set he' with q | q
      · exact s4 e' q
      · rw [q, overlay_len hov]; exact hsz
    · simp only [List.length_set] at hk
      by_cases q : i = k
      · subst q
        simp only [List.getElem_set_self] at hj ⊢
        rw [overlay_len hov] at hj
        by_cases q2 : off ≤ j ∧ j < off + v.cells.length
        · left
          have hjj : j - off < vv.cells.size := by omega
          refine ⟨by omega, by simp [hvs]; omega, vv.cells[j - off], ?_, ?_⟩
          · rw [show i * sz + j - (i * sz + off) = j - off by omega]; simp [hjj]
          · have := hc.2 (j - off) (by omega) hjj
            have e0 : (overlay es[i] off v.cells)[j]'(by rw [overlay_len hov]; exact hj) = v.cells[j - off] := by
              simp only [overlay]
              rw [List.getElem_append_left (by simp; omega), List.getElem_append_right (by simp; omega)]
              congr 1
              simp; omega
            rw [e0]; exact this
        · right
          refine ⟨by simp [hvs]; omega, hk, hj, ?_⟩
          simp only [overlay]
          rcases Nat.lt_or_ge j off with c | c
          · simp only [List.append_assoc]
            rw [List.getElem_append_left (by simp; omega)]
            simp
          · rw [List.getElem_append_right (by simp; omega)]
            simp only [List.getElem_drop]
            congr 1
            simp; omega
      · simp only [List.getElem_set_ne q] at hj ⊢
        right
        have hjs : j < sz := by rw [← s4 _ (List.getElem_mem hk)]; exact hj
        refine ⟨?_, hk, hj, trivial⟩
        simp only [Array.length_toList, hvs]
        rcases Nat.lt_or_ge k i with c | c
        · have : (k + 1) * sz ≤ i * sz := Nat.mul_le_mul_right _ c
          rw [Nat.add_mul] at this; omega
        · have : (i + 1) * sz ≤ k * sz := Nat.mul_le_mul_right _ (by omega)
          rw [Nat.add_mul] at this; omega

theorem ptr_new {b sz m : Nat} (μ : Places) (rb : Nat) : VR Φ (μ.put b ⟨rb, 0, sz, m⟩) (.ptr b 0 0) (.pointer (some ⟨rb, 0, none⟩)) := by
  have := VR.ptr (Φ := Φ) b 0 0 _ (Places.put_same μ b ⟨rb, 0, sz, m⟩)
  simpa using this

theorem mnGo_run : ∀ (xs : List Operand) (ys : List Opd) (k : IntKind) (n : Int) (v : IV), AR Φ μ nt E a → opdsI xs = some ys → mnGo k n (ys.map (Opd.ev E)) = some v →
    ∀ w, ∃ rv, ((xs.map a.eval).foldlM Builtin.min2 (.int k n) : Sem Value).run P w = .ok rv w ∧ VR Φ μ v rv
  | [], ys, k, n, v, hA, h, hm, w => by
    obtain rfl := Option.some.inj h
    obtain rfl := Option.some.inj hm
    exact ⟨_, rfl, .int _ _⟩
  | x :: xs, ys, k, n, v, hA, h, hm, w => by
    simp only [opdsI] at h
    split at h
    · rename_i y ys' hy hys
      obtain rfl := Option.some.inj h
      simp only [List.map_cons] at hm
      have hv := opd_vr hA hy
      cases hq : y.ev E with
      | int k' b =>
        rw [hq] at hm hv
        simp only [mnGo] at hm
        split at hm
        · rename_i hk
          subst hk
          obtain ⟨rv, h1, h2⟩ := mnGo_run xs ys' k _ v hA hys hm w
          refine ⟨rv, ?_, h2⟩
          simp only [List.map_cons, List.foldlM_cons, hv.int_inv, Builtin.min2, Sem.run_bind, Sem.run_pure, Result.andThen_ok]
          exact h1
        · cases hm
      | _ => rw [hq] at hm; simp [mnGo] at hm
    · cases h
theorem mxGo_run : ∀ (xs : List Operand) (ys : List Opd) (k : IntKind) (n : Int) (v : IV), AR Φ μ nt E a → opdsI xs = some ys → mxGo k n (ys.map (Opd.ev E)) = some v →
    ∀ w, ∃ rv, ((xs.map a.eval).foldlM Builtin.max2 (.int k n) : Sem Value).run P w = .ok rv w ∧ VR Φ μ v rv
  | [], ys, k, n, v, hA, h, hm, w => by
    obtain rfl := Option.some.inj h
    obtain rfl := Option.some.inj hm
    exact ⟨_, rfl, .int _ _⟩
  | x :: xs, ys, k, n, v, hA, h, hm, w => by
    simp only [opdsI] at h
    split at h
    · rename_i y ys' hy hys
      obtain rfl := Option.some.inj h
      simp only [List.map_cons] at hm
      have hv := opd_vr hA hy
      cases hq : y.ev E with
      | int k' b =>
        rw [hq] at hm hv
        simp only [mxGo] at hm
        split at hm
        · rename_i hk
          subst hk
          obtain ⟨rv, h1, h2⟩ := mxGo_run xs ys' k _ v hA hys hm w
          refine ⟨rv, ?_, h2⟩
          simp only [List.map_cons, List.foldlM_cons, hv.int_inv, Builtin.max2, Sem.run_bind, Sem.run_pure, Result.andThen_ok]
          exact h1
        · cases hm
      | _ => rw [hq] at hm; simp [mxGo] at hm
    · cases h
theorem sim_mn {xs : Array Operand} {ys : List Opd} {v : IV} (hA : AR Φ μ nt E a) (h : opdsI xs.toList = some ys) (hm : iop H E (.mn ys) = some v) (at' : Array TypeId) (ty : TypeId) (w : World) :
    ∃ rv, (Builtin.min_ at' ty (xs.map a.eval)).run P w = .ok rv w ∧ VR Φ μ v rv := by
  cases hx : xs.toList with
  | nil => rw [hx] at h; obtain rfl := Option.some.inj h; simp [iop, mnI] at hm
  | cons x r =>
    rw [hx] at h
    simp only [opdsI] at h
    split at h
    · rename_i y ys' hy hys
      obtain rfl := Option.some.inj h
      simp only [iop, List.map_cons] at hm
      have hv := opd_vr hA hy
      cases hq : y.ev E with
      | int k b =>
        rw [hq] at hm hv
        obtain ⟨rv, h1, h2⟩ := mnGo_run (P := P) r ys' k b v hA hys hm w
        refine ⟨rv, ?_, h2⟩
        have e : (xs.map a.eval).toList = .int k b :: r.map a.eval := by simp [hx, hv.int_inv]
        simp only [Builtin.min_, e]
        exact h1
      | _ => rw [hq] at hm; simp [mnI] at hm
    · cases h
theorem sim_mx {xs : Array Operand} {ys : List Opd} {v : IV} (hA : AR Φ μ nt E a) (h : opdsI xs.toList = some ys) (hm : iop H E (.mx ys) = some v) (at' : Array TypeId) (ty : TypeId) (w : World) :
    ∃ rv, (Builtin.max_ at' ty (xs.map a.eval)).run P w = .ok rv w ∧ VR Φ μ v rv := by
  cases hx : xs.toList with
  | nil => rw [hx] at h; obtain rfl := Option.some.inj h; simp [iop, mxI] at hm
  | cons x r =>
    rw [hx] at h
    simp only [opdsI] at h
    split at h
    · rename_i y ys' hy hys
      obtain rfl := Option.some.inj h
      simp only [iop, List.map_cons] at hm
      have hv := opd_vr hA hy
      cases hq : y.ev E with
      | int k b =>
        rw [hq] at hm hv
        obtain ⟨rv, h1, h2⟩ := mxGo_run (P := P) r ys' k b v hA hys hm w
        refine ⟨rv, ?_, h2⟩
        have e : (xs.map a.eval).toList = .int k b :: r.map a.eval := by simp [hx, hv.int_inv]
        simp only [Builtin.max_, e]
        exact h1
      | _ => rw [hq] at hm; simp [mxI] at hm
    · cases h

/-- Every operation but calls. -/
theorem sim_op {o : Oper} {io : IOp} {v : IV} {H' : Heap} (hc : compOp P o = some io) (hW : WR n0 w0 Φ X μ H w) (hA : AR Φ μ nt E a) (h : HOp H E io v H') : Left P n0 w0 Φ X μ H' v w (execOp a.eval o) := by
  obtain ⟨dst, op, type, pos, after, guard⟩ := o
  cases op <;> simp only [compOp, Option.map_eq_some_iff, Option.bind_eq_bind, Option.bind_eq_some_iff] at hc
  case move x =>
    obtain ⟨y, hy, rfl⟩ := hc
    cases h with | pure h =>
    obtain rfl := Option.some.inj h
    exact ⟨_, w, μ, .inl rfl, hW, opd_vr hA hy, fun _ _ h => h⟩
  case assign x =>
    obtain ⟨y, hy, rfl⟩ := hc
    cases h with | pure h =>
    obtain rfl := Option.some.inj h
    exact ⟨_, w, μ, .inl rfl, hW, opd_vr hA hy, fun _ _ h => h⟩
  case pick c x y =>
    obtain ⟨c', hc', x', hx', y', hy', e⟩ := hc
    obtain rfl := Option.some.inj e
    cases h with | pure h =>
    simp only [iop] at h
    split at h
    · rename_i t ht
      obtain rfl := Option.some.inj h
      have hv := opd_vr hA hc'
      rw [ht] at hv
      have e := hv.bool_inv
      refine ⟨if t then a.eval x else a.eval y, w, μ, .inl (by simp [execOp, e, asBool]), hW, ?_, fun _ _ h => h⟩
      cases t
      · exact opd_vr hA hy'
      · exact opd_vr hA hx'
    · cases h
  case load t x =>
    obtain ⟨ag, hag, n, hn, x', hx', e⟩ := hc
    obtain rfl := Option.some.inj e
    cases h with | pure h =>
    obtain ⟨rv, h1, h2⟩ := hW.load (P := P) (opd_vr hA hx') h hag hn
    exact Left.pure hW h1 h2
  case alloc t =>
    obtain ⟨z, hz, e⟩ := hc
    obtain rfl := Option.some.inj e
    obtain ⟨zv, hz1, hz2⟩ := zeroI_run hz
    cases h with
    | pure h => simp [iop] at h
    | box hb hx =>
      have h1 := hz2 Φ μ
      have hzl : (z.map Cst.iv).length = z.length := List.length_map ..
      have hF : FR Φ μ z.length [z.map Cst.iv] zv.cells := by
        refine ⟨by rw [← h1.1, hzl]; simp, fun e he => by simp at he; rw [he]; exact hzl, fun i j hi hj => ?_⟩
        obtain rfl : i = 0 := by simpa using hi
        simp only [List.getElem_cons_zero] at hj ⊢
        have hj' : j < zv.cells.size := by rw [← h1.1]; exact hj
        exact ⟨zv.cells[j], by simp [hj'], h1.2 j hj hj'⟩
      have hl := hW.lay hb hF #[] t
      simp only [Array.append_empty] at hl
      rw [← hzl] at hl
      refine ⟨.pointer (some ⟨w.heap.size, 0, none⟩), _, _, .inl ?_, hl, ?_, Places.put_le (hW.named_of hb)⟩
      · simp only [execOp, Instr.alloc, Sem.run_bind, hz1, Result.andThen_ok]
        rfl
      · exact ptr_new _ _
  case box t x =>
    obtain ⟨x', hx', e⟩ := hc
    obtain rfl := Option.some.inj e
    cases h with
    | pure h => simp [iop] at h
    | box hb hx =>
      obtain ⟨w', μ', h1, h2, h3, h4⟩ := sim_box (P := P) hW hb (opd_vr hA hx') hx t
      exact ⟨_, w', μ', .inl (by simp [execOp, Instr.box, h1]), h2, h3, h4⟩
  case build t parts =>
    obtain ⟨z, hz, hc⟩ := hc
    have key : ∀ ps, io = .build z ps → ((∃ fs pl, P.underlying t = some (.struct fs) ∧ placesOf P fs.toList = some pl ∧ partsI (pl[·]?) parts.toList = some ps) ∨
        ∃ len elem n, P.underlying t = some (.array len elem) ∧ Program.sizeT P elem = some n ∧ partsI (fun i => some (i * n, n)) parts.toList = some ps) → Left P n0 w0 Φ X μ H' v w (execOp a.eval ⟨dst, .build t parts, type, pos, after, guard⟩) := by
      intro ps e hq
      subst e
      cases h with | pure h =>
      simp only [iop] at h
      split at h
      · rename_i ds hds
        obtain rfl := Option.some.inj h
        obtain ⟨rv, h1, h2⟩ := sim_build hA hz hq hds w
        exact Left.pure hW h1 h2
      · cases h
    split at hc
    · rename_i fs hu
      simp only [Option.bind_eq_some_iff] at hc
      obtain ⟨pl, hpl, ps, hps, e⟩ := hc
      exact key ps (Option.some.inj e).symm (.inl ⟨fs, pl, hu, hpl, hps⟩)
    · rename_i len elem hu
      simp only [Option.bind_eq_some_iff] at hc
      obtain ⟨n, hn, ps, hps, e⟩ := hc
      exact key ps (Option.some.inj e).symm (.inr ⟨len, elem, n, hu, hn, hps⟩)
    · cases hc
  case buildSlice t len parts =>
    split at hc
    · rename_i elem hu
      simp only [Option.bind_eq_some_iff] at hc
      obtain ⟨n, hn, z, hz, ps, hps, e⟩ := hc
      split at e
      · rename_i hcond
        obtain rfl := Option.some.inj e
        cases h with
        | pure h => simp [iop] at h
        | buildSlice hb hf => exact sim_buildSlice hW hA hu hn hz hps hcond.1 hcond.2.1 hb hf
      · cases e
    · cases hc
  case store t x y =>
    obtain ⟨n, hn, x', hx', y', hy', e⟩ := hc
    obtain rfl := Option.some.inj e
    cases h with
    | pure h => simp [iop] at h
    | store hx hH he hu hn' ho => exact sim_store hW hn (opd_vr hA hx') hx hH he (opd_vr hA hy') hu hn' ho
  case nilCheck x =>
    obtain ⟨x', hx', e⟩ := hc
    obtain rfl := Option.some.inj e
    cases h with | pure h =>
    have hv := opd_vr hA hx'
    obtain ⟨rv, hrv⟩ : ∃ rv, rv = a.eval x := ⟨_, rfl⟩
    rw [← hrv] at hv
    simp only [iop] at h
    have fin : ∀ y, (some y = some v) → x'.ev E = y → (execOp a.eval ⟨dst, .nilCheck x, type, pos, after, guard⟩).run P w = .ok (.value rv) w → Left P n0 w0 Φ X μ H v w (execOp a.eval ⟨dst, .nilCheck x, type, pos, after, guard⟩) := by
      intro y h1 h2 h3
      obtain rfl := Option.some.inj h1
      exact ⟨rv, w, μ, .inl h3, hW, h2 ▸ hv, fun _ _ h => h⟩
    split at h
    · rename_i b i off hx
      refine fin _ h hx ?_
      rw [hx] at hv
      cases hv
      simp [execOp, ← hrv]
    · rename_i b i off hx
      refine fin _ h hx ?_
      rw [hx] at hv
      cases hv
      simp [execOp, ← hrv]
    · rename_i l hx
      refine fin _ h hx ?_
      rw [hx] at hv
      cases hv
      simp [execOp, ← hrv]
    · rename_i f fs cs hx
      refine fin _ h hx ?_
      rw [hx] at hv
      cases hv
      simp [execOp, ← hrv]
    · cases h
  case binOp op t x y yt =>
    obtain ⟨x', hx', y', hy', e⟩ := hc
    have vx := opd_vr hA hx'
    have vy := opd_vr hA hy'
    have bin : io = .bin op x' y' → Left P n0 w0 Φ X μ H' v w (execOp a.eval ⟨dst, .binOp op t x y yt, type, pos, after, guard⟩) := by
      intro e
      subst e
      cases h with | pure h =>
      obtain ⟨rv, h1, h2⟩ := sim_bin (P := P) (t := t) (x' := x) (y' := y) vx vy h w
      exact Left.pure hW h1 h2
    have eq : ∀ k, io = .eq (op == .neq) k x' y' → op = .eql ∨ op = .neq → ((k = .bool ∧ P.underlying t = some .bool) ∨ (k = .slice ∧ ∃ e, P.underlying t = some (.slice e)) ∨ (k = .func ∧ ∃ a b c, P.underlying t = some (.func a b c)) ∨
        (k = .ptr ∧ ∃ el n, P.underlying t = some (.pointer el) ∧ Program.sizeT P el = some (n + 1)) ∨ (∃ ks fs, k = .agg ks ∧ P.underlying t = some (.struct fs) ∧ kindsOf P 100 t = some ks ∧ P.eqGuardType P.depth t = false)) →
        Left P n0 w0 Φ X μ H' v w (execOp a.eval ⟨dst, .binOp op t x y yt, type, pos, after, guard⟩) := by
      intro k e hop ht
      subst e
      cases h with | pure h =>
      simp only [iop] at h
      split at h
      · rename_i r hr
        obtain rfl := Option.some.inj h
        have := sim_eq (P := P) (neg := op == .neq) (x' := x) (y' := y) vx vy hr ht w
        have eop : (if (op == .neq) = true then BinOp.neq else BinOp.eql) = op := by rcases hop with rfl | rfl <;> rfl
        rw [eop] at this
        exact Left.pure hW this (.bool _)
      · cases h
    split at e
    · split at e
      · exact bin (Option.some.inj e).symm
      · exact bin (Option.some.inj e).symm
      · rename_i hu; exact eq _ (Option.some.inj e).symm (.inl rfl) (.inl ⟨rfl, hu⟩)
      · rename_i hu; exact eq _ (Option.some.inj e).symm (.inl rfl) (.inr (.inl ⟨rfl, _, hu⟩))
      · rename_i hu; exact eq _ (Option.some.inj e).symm (.inl rfl) (.inr (.inr (.inl ⟨rfl, _, _, _, hu⟩)))
      · rename_i hu
        split at e
        · rename_i hn; exact eq _ (Option.some.inj e).symm (.inl rfl) (.inr (.inr (.inr (.inl ⟨rfl, _, _, hu, hn⟩))))
        · cases e
      · rename_i hu
        split at e
        · rename_i hk
          split at e
          · rename_i hg; exact eq _ (Option.some.inj e).symm (.inl rfl) (.inr (.inr (.inr (.inr ⟨_, _, rfl, hu, hk, hg⟩))))
          · cases e
        · cases e
      · cases e
    · split at e
      · exact bin (Option.some.inj e).symm
      · exact bin (Option.some.inj e).symm
      · rename_i hu; exact eq _ (Option.some.inj e).symm (.inr rfl) (.inl ⟨rfl, hu⟩)
      · rename_i hu; exact eq _ (Option.some.inj e).symm (.inr rfl) (.inr (.inl ⟨rfl, _, hu⟩))
      · rename_i hu; exact eq _ (Option.some.inj e).symm (.inr rfl) (.inr (.inr (.inl ⟨rfl, _, _, _, hu⟩)))
      · rename_i hu
        split at e
        · rename_i hn; exact eq _ (Option.some.inj e).symm (.inr rfl) (.inr (.inr (.inr (.inl ⟨rfl, _, _, hu, hn⟩))))
        · cases e
      · rename_i hu
        split at e
        · rename_i hk
          split at e
          · rename_i hg; exact eq _ (Option.some.inj e).symm (.inr rfl) (.inr (.inr (.inr (.inr ⟨_, _, rfl, hu, hk, hg⟩))))
          · cases e
        · cases e
      · cases e
    · exact bin (Option.some.inj e).symm
  case unOp op t x =>
    obtain ⟨x', hx', e⟩ := hc
    obtain rfl := Option.some.inj e
    cases h with | pure h =>
    have hv := opd_vr hA hx'
    cases op <;> simp only [iop] at h
    · split at h
      · rename_i k n hx
        obtain rfl := Option.some.inj h
        rw [hx] at hv
        have e := hv.int_inv
        exact Left.pure hW (s := Op.unary .neg (a.eval x)) (by rw [e]; rfl) (.int _ _)
      · cases h
    · cases h
    · split at h
      · rename_i b hx
        obtain rfl := Option.some.inj h
        rw [hx] at hv
        have e := hv.bool_inv
        exact Left.pure hW (s := Op.unary .not (a.eval x)) (by rw [e]; rfl) (.bool _)
      · cases h
    · cases h
  case convert s d x =>
    obtain ⟨x', hx', e⟩ := hc
    split at e
    · rename_i k1 k2 hs hd
      obtain rfl := Option.some.inj e
      cases h with | pure h =>
      have hv := opd_vr hA hx'
      simp only [iop] at h
      split at h
      · rename_i k n hx
        obtain rfl := Option.some.inj h
        rw [hx] at hv
        have e := hv.int_inv
        exact Left.pure hW (s := convert s d (a.eval x)) (by rw [e]; simp [convert, run_underlying' hs, run_underlying' hd, Conv.intToInt]) (.int _ _)
      · cases h
    · cases e
  case makeFunc fn fs cs =>
    obtain ⟨fs', hfs, cs', hcs, e⟩ := hc
    have key : io = .mkFunc fn fs' cs' → Left P n0 w0 Φ X μ H' v w (execOp a.eval ⟨dst, .makeFunc fn fs cs, type, pos, after, guard⟩) := by
      intro e
      subst e
      cases h with | pure h =>
      obtain rfl := Option.some.inj h
      have p1 := opds_pw hA hfs
      have p2 := opds_pw hA hcs
      exact Left.pure hW (s := Instr.makeFunc fn (fs.map a.eval) (cs.map a.eval)) rfl (.func _ _ _ _ _ p1.1 p2.1 p1.2 p2.2)
    split at e
    · exact key (Option.some.inj e).symm
    · exact key (Option.some.inj e).symm
    · exact key (Option.some.inj e).symm
    · cases e
  case makeSlice t l c =>
    obtain ⟨l', hl, c', hc', e⟩ := hc
    split at e
    · rename_i elem hu
      simp only [Option.bind_eq_some_iff] at e
      obtain ⟨i, hi, z, hz, e⟩ := e
      split at e
      · rename_i hcond
        obtain rfl := Option.some.inj e
        cases h with
        | pure h => simp [iop] at h
        | makeSlice hb hle hce hlc hn hbig =>
          have v1 := opd_vr hA hl
          have v2 := opd_vr hA hc'
          rw [hle] at v1
          rw [hce] at v2
          exact sim_makeSlice hW hu hi hz hcond.1 hb v1 v2 hlc hn hbig
      · cases e
    · cases e
  case slice t x lo hi mx =>
    obtain ⟨x', hx', lo', hlo, hi', hhi, mx', hmx, e⟩ := hc
    have hv := opd_vr hA hx'
    split at e
    · rename_i elem hu
      simp only [Option.bind_eq_some_iff] at e
      obtain ⟨n, hn, e⟩ := e
      split at e
      · cases e
      · rename_i hn0
        obtain rfl := Option.some.inj e
        cases h with | pure h =>
        simp only [iop] at h
        split at h
        · rename_i hs
          obtain ⟨rv, h1, h2⟩ := sim_slice (P := P) (t := t) hW hA hv hlo hhi hmx (.inl ⟨elem, hu, hn, by rw [hs]; simpa using hn0⟩) h
          exact Left.pure hW h1 h2
        · cases h
    · rename_i hu
      obtain rfl := Option.some.inj e
      cases h with | pure h =>
      simp only [iop] at h
      split at h
      · rename_i hs
        obtain ⟨rv, h1, h2⟩ := sim_slice (P := P) (t := t) hW hA hv hlo hhi hmx (.inr ⟨hu, by rw [hs]; rfl⟩) h
        exact Left.pure hW h1 h2
      · cases h
    · cases e
  case fieldAddr s x f =>
    obtain ⟨x', hx', e⟩ := hc
    split at e
    · rename_i fs hu
      simp only [Option.bind_eq_some_iff] at e
      obtain ⟨fd, hf, n, hn, e⟩ := e
      split at e
      · cases e
      · rename_i hn0
        obtain rfl := Option.some.inj e
        cases h with | pure h =>
        have hv := opd_vr hA hx'
        obtain ⟨rv, hrv⟩ : ∃ rv, rv = a.eval x := ⟨_, rfl⟩
        rw [← hrv] at hv
        have run : ∀ (b o : Nat) , rv = .pointer (some ⟨b, o, none⟩) → (Instr.fieldAt s (a.eval x) f).run P w = .ok (.pointer (some ⟨b, o + fd.offset, none⟩)) w := by
          intro b o e
          rw [← hrv, e]
          simp [Instr.fieldAt, run_underlying' hu, hf, Instr.sureAddr, fieldPlace, run_sizeOf' hn, hn0, addr_add]
        simp only [iop] at h
        split at h
        · rename_i b i off hx
          obtain rfl := Option.some.inj h
          rw [hx] at hv
          cases hv with
          | ptr _ _ _ L hL => exact Left.pure hW (run _ _ rfl) (by rw [Nat.add_assoc]; exact .ptr b i (off + fd.offset) L hL)
        · rename_i es i off hx
          obtain rfl := Option.some.inj h
          rw [hx] at hv
          cases hv with
          | cptr _ _ _ sz rb ro vs hs hf hv => exact Left.pure hW (run _ _ rfl) (by rw [Nat.add_assoc]; exact .cptr es i (off + fd.offset) sz rb ro vs hs hf hv)
        · cases h
    · cases e
  case field s x f =>
    obtain ⟨x', hx', e⟩ := hc
    split at e
    · rename_i fs hu
      simp only [Option.bind_eq_some_iff] at e
      obtain ⟨fd, hf, ag, hag, n, hn, e⟩ := e
      obtain rfl := Option.some.inj e
      cases h with | pure h =>
      simp only [iop] at h
      split at h
      · rename_i cs hx
        obtain ⟨rv, h1, h2⟩ := sim_field (opd_vr hA hx') hu hf hag hn hx h w
        exact Left.pure hW h1 h2
      · cases h
    · cases e
  case indexAddr t x i =>
    obtain ⟨x', hx', i', hi', e⟩ := hc
    have hv := opd_vr hA hx'
    have hvi := opd_vr hA hi'
    obtain ⟨rv, hrv⟩ : ∃ rv, rv = a.eval x := ⟨_, rfl⟩
    rw [← hrv] at hv
    split at e
    · rename_i elem hu
      simp only [Option.bind_eq_some_iff] at e
      obtain ⟨n, hn, e⟩ := e
      obtain rfl := Option.some.inj e
      cases h with | pure h =>
      have run : ∀ (b o len cap : Nat) (k : IntKind) (j : Int), rv = .slice (some ⟨b, o, none⟩) len cap → a.eval i = .int k j → 0 ≤ j → j < (len : Int) → (Instr.indexAt t (a.eval x) (a.eval i)).run P w = .ok (.pointer (some ⟨b, o + j.toNat * n, none⟩)) w := by
        intro b o len cap k j e1 e2 e3 e4
        rw [← hrv, e1, e2]
        simp [Instr.indexAt, asIntOf, run_underlying' hu, run_sizeOf' hn, addr_add, e3, e4]
      simp only [iop] at h
      split at h
      · rename_i es k j hx hj
        rw [hj] at hvi
        have ej := hvi.int_inv
        split at h
        · rename_i hcond
          obtain rfl := Option.some.inj h
          obtain ⟨h0, hl⟩ := hcond
          rw [Option.map_eq_some_iff] at hl
          obtain ⟨e1, he1, hl1⟩ := hl
          obtain ⟨hlt, hee⟩ := List.getElem?_eq_some_iff.mp he1
          rw [hx] at hv
          cases hv with
          | fnil _ => simp at hlt
          | fslice _ sz rb ro cap vs hs hc hf hv =>
            have hsz : sz = n := by rw [← hl1, ← hee]; exact (hs _ (List.getElem_mem hlt)).symm
            subst hsz
            have := VR.cptr (Φ := Φ) (μ := μ) es j.toNat 0 sz rb ro vs hs hf hv
            exact Left.pure hW (run _ _ _ _ _ _ rfl ej h0 (by omega)) (by simpa using this)
        · cases h
      · rename_i b off len lb ex k j hx hj
        rw [hj] at hvi
        have ej := hvi.int_inv
        split at h
        · rename_i sz' es hH
          split at h
          · rename_i hcond
            obtain rfl := Option.some.inj h
            rw [hx] at hv
            cases hv with
            | mslice _ _ _ _ _ L cap hL hlen hlb hex hext =>
              have s1 := (hW.sz b sz' es L hH hL).1
              have := VR.ptr (Φ := Φ) (μ := μ) b (off + j.toNat) 0 L hL
              refine Left.pure hW (run _ _ _ _ _ _ rfl ej hcond.1 hcond.2.1) ?_
              rw [← hcond.2.2, ← s1, show L.ro + off * L.sz + j.toNat * L.sz = L.ro + (off + j.toNat) * L.sz + 0 by rw [Nat.add_mul]; omega]
              exact this
          · cases h
        · cases h
      · cases h
    · rename_i len elem hu
      simp only [Option.bind_eq_some_iff] at e
      obtain ⟨n, hn, e⟩ := e
      obtain rfl := Option.some.inj e
      cases h with | pure h =>
      have run : ∀ (b o : Nat) (k : IntKind) (j : Int), rv = .pointer (some ⟨b, o, none⟩) → a.eval i = .int k j → 0 ≤ j → j < (len : Int) → (Instr.indexAt t (a.eval x) (a.eval i)).run P w = .ok (.pointer (some ⟨b, o + j.toNat * n, none⟩)) w := by
        intro b o k j e1 e2 e3 e4
        rw [← hrv, e1, e2]
        simp [Instr.indexAt, asIntOf, run_underlying' hu, run_sizeOf' hn, addr_add, e3, e4, Instr.sureAddr]
      simp only [iop] at h
      split at h
      · rename_i b j0 off k j hx hj
        rw [hj] at hvi
        have ej := hvi.int_inv
        split at h
        · rename_i hcond
          obtain rfl := Option.some.inj h
          rw [hx] at hv
          cases hv with
          | ptr _ _ _ L hL => exact Left.pure hW (run _ _ _ _ rfl ej hcond.1 hcond.2) (by rw [Nat.add_assoc]; exact .ptr b j0 (off + j.toNat * n) L hL)
        · cases h
      · rename_i es j0 off k j hx hj
        rw [hj] at hvi
        have ej := hvi.int_inv
        split at h
        · rename_i hcond
          obtain rfl := Option.some.inj h
          rw [hx] at hv
          cases hv with
          | cptr _ _ _ sz rb ro vs hs hf hv => exact Left.pure hW (run _ _ _ _ rfl ej hcond.1 hcond.2) (by rw [Nat.add_assoc]; exact .cptr es j0 (off + j.toNat * n) sz rb ro vs hs hf hv)
        · cases h
      · cases h
    · cases e
  case index t x i =>
    obtain ⟨x', hx', i', hi', e⟩ := hc
    have hv := opd_vr hA hx'
    have hvi := opd_vr hA hi'
    obtain ⟨rv, hrv⟩ : ∃ rv, rv = a.eval x := ⟨_, rfl⟩
    rw [← hrv] at hv
    split at e
    · rename_i len elem hu
      simp only [Option.bind_eq_some_iff] at e
      obtain ⟨ag, hag, n, hn, e⟩ := e
      obtain rfl := Option.some.inj e
      cases h with | pure h =>
      simp only [iop] at h
      split at h
      · rename_i cs k j hx hj
        rw [hj] at hvi
        have ej := hvi.int_inv
        split at h
        · rename_i hcond
          rw [hx] at hv
          cases hv with
          | agg _ cs' hc hv =>
            obtain ⟨v', h1, h2⟩ := run_part' (P := P) ⟨hc, hv⟩ hag hn h w
            refine Left.pure hW (s := Instr.index t (a.eval x) (a.eval i)) ?_ h2
            rw [← hrv, ej]
            simp [Instr.index, asIntOf, run_underlying' hu, hcond.1, hcond.2, run_sizeOf' hn, h1]
        · cases h
      · cases h
    · rename_i hu
      obtain rfl := Option.some.inj e
      cases h with | pure h =>
      simp only [iop] at h
      split at h
      · rename_i s k j hx hj
        rw [hj] at hvi
        have ej := hvi.int_inv
        rw [hx] at hv
        have es := hv.str_inv
        split at h
        · rename_i h0
          split at h
          · rename_i b hb
            obtain rfl := Option.some.inj h
            refine Left.pure hW (s := Instr.index t (a.eval x) (a.eval i)) ?_ (.int _ _)
            rw [← hrv, ej, es]
            simp [Instr.index, asIntOf, run_underlying' hu, h0, hb]
          · cases h
        · cases h
      · cases h
    · cases e
  case extract x i =>
    obtain ⟨x', hx', e⟩ := hc
    obtain rfl := Option.some.inj e
    cases h with | pure h =>
    have hv := opd_vr hA hx'
    obtain ⟨rv, hrv⟩ : ∃ rv, rv = a.eval x := ⟨_, rfl⟩
    rw [← hrv] at hv
    simp only [iop] at h
    split at h
    · rename_i vs hx
      rw [hx] at hv
      cases hv with
      | tuple _ vs' hc hv =>
        obtain ⟨hi, rfl⟩ := List.getElem?_eq_some_iff.mp h
        have hi' : i < vs'.size := by omega
        refine Left.pure hW (s := Instr.extract (a.eval x) i) ?_ (hv i hi hi')
        rw [← hrv]
        simp [Instr.extract, hi']
    · cases h
  case call c =>
    obtain ⟨callee, args, argTypes⟩ := c
    cases callee with
    | invoke r m => simp at hc
    | value f =>
      simp only [Option.bind_eq_bind, Option.bind_eq_some_iff] at hc
      obtain ⟨f', hf, xs, hxs, e⟩ := hc
      obtain rfl := Option.some.inj e
      cases h with | pure h => simp [iop] at h
    | builtin b =>
      have bi : ∀ (s : Sem Value), builtin b argTypes type (args.map fun | Operand.const _ => true | _ => false) (args.map a.eval) = (do pure (.value (← s))) → Left P n0 w0 Φ X μ H' v w (do pure (.value (← s))) →
          Left P n0 w0 Φ X μ H' v w (execOp a.eval ⟨dst, .call ⟨.builtin b, args, argTypes⟩, type, pos, after, guard⟩) := by
        intro s e1 e2
        have : execOp a.eval ⟨dst, .call ⟨.builtin b, args, argTypes⟩, type, pos, after, guard⟩ = builtin b argTypes type (args.map fun | Operand.const _ => true | _ => false) (args.map a.eval) := rfl
        rw [this, e1]
        exact e2
      cases b <;> (try (simp only [reduceCtorEq] at hc; done)) <;> simp only [Option.bind_eq_bind, Option.bind_eq_some_iff] at hc
      case append =>
        obtain ⟨s0, hs0, s, hs, x0, hx0, x, hx, t, ht, u, hu, hc⟩ := hc
        have eqa : Builtin.append_ argTypes type (args.map a.eval) = Builtin.append_ #[t, u] type #[a.eval s0, a.eval x0] := by
          simp [Builtin.append_, ht, hu, hs0, hx0]
        refine bi (Builtin.append_ #[t, u] type #[a.eval s0, a.eval x0]) (by rw [← eqa]; rfl) ?_
        have vs := opd_vr hA hs
        have vx := opd_vr hA hx
        have key : ∀ (elem : TypeId), P.underlying t = some (.slice elem) → ((∃ e', P.underlying u = some (.slice e')) ∨ P.underlying u = some .string) → ((P.info? elem).bind fun i => (Program.zeroI P elem).bind fun z => if z.length = i.size ∧ 0 < i.size ∧ i.bytes ≤ 2 ^ 20 then some (IOp.append z i.bytes s x) else none) = some io →
            Left P n0 w0 Φ X μ H' v w (do pure (.value (← Builtin.append_ #[t, u] type #[a.eval s0, a.eval x0]))) := by
          intro elem hut hk e
          simp only [Option.bind_eq_some_iff] at e
          obtain ⟨i, hi, z, hz, e⟩ := e
          split at e
          · rename_i hcond
            obtain rfl := Option.some.inj e
            obtain ⟨hzn, hpos, hby⟩ := hcond
            cases h with
            | pure h => simp [iop] at h
            | append0 h1 h2 => exact sim_append0 hW hut hi vs h1 vx h2 hk
            | appendNil hb hse hxe hne hz' hok hbig =>
              rename_i b' es'
              have hl : 0 < es'.length := List.length_pos_iff.mpr hne
              rcases hse with hse | hse
              · rw [hse] at vs
                obtain ⟨rv, hrv⟩ : ∃ rv, rv = a.eval s0 := ⟨_, rfl⟩
                rw [← hrv] at vs ⊢
                cases vs
                have := sim_anew (ty := type) hW hut hi hz hzn hby hb (s := .nilslice) (es := []) .nilslice rfl rfl (fun e he => by cases he) vx hxe hz' hok hk (by omega) (by simpa using hbig)
                simpa using this
              · rw [hse] at vs
                obtain ⟨rv, hrv⟩ : ∃ rv, rv = a.eval s0 := ⟨_, rfl⟩
                rw [← hrv] at vs ⊢
                cases vs with
                | eslice ad =>
                  have := sim_anew (ty := type) hW hut hi hz hzn hby hb (s := .eslice) (es := []) (.eslice ad) rfl rfl (fun e he => by cases he) vx hxe hz' hok hk (by omega) (by simpa using hbig)
                  simpa using this
            | appendFull hb hse hH hl hxe hne hz' hok hbig =>
              rename_i b0 b' off len es es'
              have hl' : 0 < es'.length := List.length_pos_iff.mpr hne
              rw [hse] at vs
              obtain ⟨rv, hrv⟩ : ∃ rv, rv = a.eval s0 := ⟨_, rfl⟩
              rw [← hrv] at vs ⊢
              have vs0 := vs
              cases vs with
              | mslice _ _ _ _ _ L cap hL hlen hlb hex hext =>
                have hcap := hex rfl
                have h4 := (hW.sz _ _ _ _ hH hL).2.2.2.1
                exact sim_anew (ty := type) hW hut hi hz hzn hby hb (es := (es.drop off).take len) vs0 (by simp [elsOf, hH, hl]) (by simp; omega) (fun e he => h4 e (List.mem_of_mem_drop (List.mem_of_mem_take he))) vx hxe hz' hok hk (by omega) hbig
            | append hb hse hH hl hxe hne hz' hok hbig =>
              rename_i b0 b' off len lb ex0 es es'
              have hl' : 0 < es'.length := List.length_pos_iff.mpr hne
              rw [hse] at vs
              obtain ⟨rv, hrv⟩ : ∃ rv, rv = a.eval s0 := ⟨_, rfl⟩
              rw [← hrv] at vs ⊢
              have vs0 := vs
              cases vs with
              | mslice _ _ _ _ _ L cap hL hlen hlb hex hext =>
                obtain ⟨q1, q2, q3, q4, q5⟩ := hW.sz _ _ _ _ hH hL
                have hbb : b' ≠ b0 := fun e => by subst e; rw [hH] at hb; cases hb
                rcases Nat.lt_or_ge cap (len + es'.length) with hc | hc
                · have := sim_anew (ty := type) hW hut hi hz hzn hby hb (es := es.drop off) vs0 (by
                    simp only [elsOf, hH]
                    rw [if_pos (by omega)]
                    rw [List.take_of_length_le (by simp; omega)]) (by simp; omega) (fun e he => q4 e (List.mem_of_mem_drop he)) vx hxe hz' hok hk hc hbig
                  obtain ⟨rv', w', μ', r1, r2, r3, r4⟩ := this
                  refine ⟨rv', w', μ', r1, ?_, r3, r4⟩
                  have := r2.kill (b := b0) (by rw [Heap.set_ne _ _ (Ne.symm hbb), hH]; simp)
                  rw [Heap.set_comm _ _ _ hbb] at this
                  exact this
                · obtain ⟨news, n1, n2⟩ := els_src (P := P) hW vx hxe (n := i.size) (by rw [← hzn]; exact hz') hok hk
                  have hH' : H b0 = .live i.size es := by rw [← hzn]; exact hH
                  have hrun := run_inplace (ty := type) hW hut hi hH' hL (by rw [← hzn, ← q1]; exact hext) n1 n2.size hc
                  have hren := hW.rename hH hL hb (off := off) (by omega)
                  have hF : FR Φ (μ.put b' ⟨L.rb, L.ro + off * z.length, z.length, L.ext - off * z.length⟩) z.length es' news := by
                    rw [← hzn] at n2
                    exact ⟨n2.size, n2.len, fun i j hi hj => let ⟨v, e1, e2⟩ := n2.val i j hi hj; ⟨v, e1, e2.mono (fun _ _ _ h => h) (Places.put_le (hW.named_of hb))⟩⟩
                  have hdl : (es.drop off).length = len := by simp; omega
                  have hext2 : (len + es'.length) * z.length + off * z.length ≤ L.ext := by
                    rw [← Nat.add_mul]
                    refine Nat.le_trans (Nat.mul_le_mul_right _ ?_) (by rw [← q1]; exact hext)
                    omega
                  have hov := hren.over (b := b') (Heap.set_same _ _ _) (Places.put_same _ _ _) (o := len) (by omega) hF (by simp only; omega)
                  have e1 : (es.drop off).take len ++ es' ++ (es.drop off).drop (len + es'.length) = es.drop off ++ es' := by
                    rw [List.take_of_length_le (by omega), show (es.drop off).drop (len + es'.length) = [] from List.drop_eq_nil_of_le (by rw [hdl]; omega)]; simp
                  rw [Heap.set_set, e1] at hov
                  simp only at hov
                  refine ⟨.slice (some ⟨L.rb, L.ro + off * L.sz, none⟩) (len + es'.length) cap, _, _, .inl ?_, hov, ?_, Places.put_le (hW.named_of hb)⟩
                  · have e2 : L.ro + off * z.length + len * z.length = L.ro + (off + len) * i.size := by rw [hzn, Nat.add_mul]; omega
                    rw [e2, show L.sz = i.size by rw [q1, hzn]]
                    simp [hrun]
                  · have := VR.mslice (Φ := Φ) b' 0 (len + es'.length) (len + es'.length) false _ cap (Places.put_same μ b' ⟨L.rb, L.ro + off * z.length, z.length, L.ext - off * z.length⟩) hc hc (fun q => by cases q) (by
                      simp only [Nat.zero_add]
                      have : cap * z.length + off * z.length ≤ L.ext := by
                        rw [← Nat.add_mul, Nat.add_comm]; rw [← q1]; exact hext
                      omega)
                    simpa [q1] using this
            | appendIn hse hH hl hlb hxe hz' hok =>
              rename_i b0 off len lb ex es es'
              rw [hse] at vs
              obtain ⟨rv, hrv⟩ : ∃ rv, rv = a.eval s0 := ⟨_, rfl⟩
              rw [← hrv] at vs ⊢
              cases vs with
              | mslice _ _ _ _ _ L cap hL hlen hlb' hex hext =>
                obtain ⟨q1, q2, q3, q4, q5⟩ := hW.sz _ _ _ _ hH hL
                obtain ⟨news, n1, n2⟩ := els_src (P := P) hW vx hxe (n := i.size) (by rw [← hzn]; exact hz') hok hk
                have hH' : H b0 = .live i.size es := by rw [← hzn]; exact hH
                have hrun := run_inplace (ty := type) (len := len) (cap := cap) (off := off) (es' := es') hW hut hi hH' hL (by rw [← hzn, ← q1]; exact hext) n1 n2.size (by omega)
                have hov := hW.over hH hL (o := off + len) (by omega) (hzn ▸ n2) (by
                  refine Nat.le_trans (Nat.mul_le_mul_right _ ?_) (by rw [← q1]; exact hext)
                  omega)
                refine ⟨.slice (some ⟨L.rb, L.ro + off * L.sz, none⟩) (len + es'.length) cap, _, _, .inl ?_, hov, VR.mslice b0 off (len + es'.length) lb ex L cap hL (by omega) hlb' hex hext, fun _ _ h => h⟩
                rw [show L.sz = i.size by rw [q1, hzn]]
                simp [hrun, hzn]
          · cases e
        split at hc
        · rename_i elem e' hut huu
          exact key elem hut (.inl ⟨e', huu⟩) hc
        · rename_i elem hut huu
          exact key elem hut (.inr huu) hc
        · rename_i elem kk hut huu
          simp only [Option.bind_eq_some_iff] at hc
          obtain ⟨i, hi, z, hz, hc⟩ := hc
          split at hc
          · rename_i hcond
            obtain rfl := Option.some.inj hc
            obtain ⟨hzn, hpos, hby⟩ := hcond
            cases h with
            | pure h => simp [iop] at h
            | appendZ hb hse hxe hn hbig =>
              rw [hse] at vs
              rw [hxe] at vx
              exact sim_appendZ hW hut huu hi hz hzn hpos hby hb vs vx hn hbig
          · cases hc
        · cases hc
      case len =>
        obtain ⟨x0, hx0, x, hx, t, ht, hc⟩ := hc
        have vx := opd_vr hA hx
        have eqa : Builtin.len_ argTypes type (args.map a.eval) = Builtin.len_ #[t] type #[a.eval x0] := by
          simp [Builtin.len_, ht, hx0]
        refine bi (Builtin.len_ #[t] type #[a.eval x0]) (by rw [← eqa]; rfl) ?_
        obtain ⟨rv, hrv⟩ : ∃ rv, rv = a.eval x0 := ⟨_, rfl⟩
        rw [← hrv] at vx ⊢
        split at hc
        · rename_i e hu
          obtain rfl := Option.some.inj hc
          cases h with | pure h =>
          simp only [iop] at h
          split at h
          · rename_i es hxe
            obtain rfl := Option.some.inj h
            rw [hxe] at vx
            cases vx <;> exact Left.pure hW (by simp [Builtin.len_, run_underlying' hu, goInt]) (.int _ _)
          · rename_i hxe
            obtain rfl := Option.some.inj h
            rw [hxe] at vx
            cases vx; exact Left.pure hW (by simp [Builtin.len_, run_underlying' hu, goInt]) (.int _ _)
          · rename_i hxe
            obtain rfl := Option.some.inj h
            rw [hxe] at vx
            cases vx; exact Left.pure hW (by simp [Builtin.len_, run_underlying' hu, goInt]) (.int _ _)
          · rename_i hxe
            obtain rfl := Option.some.inj h
            rw [hxe] at vx
            cases vx; exact Left.pure hW (by simp [Builtin.len_, run_underlying' hu, goInt]) (.int _ _)
          · cases h
        · rename_i hu
          obtain rfl := Option.some.inj hc
          cases h with | pure h =>
          simp only [iop] at h
          split at h
          · rename_i s hxe
            obtain rfl := Option.some.inj h
            rw [hxe] at vx
            obtain rfl := vx.str_inv
            exact Left.pure hW (by simp [Builtin.len_, run_underlying' hu, goInt]) (.int _ _)
          · cases h
        · rename_i n e hu
          obtain rfl := Option.some.inj hc
          cases h with | pure h =>
          simp only [iop] at h
          obtain rfl := Option.some.inj h
          exact Left.pure hW (by simp [Builtin.len_, run_underlying' hu, goInt]) (.int _ _)
        · cases hc
      case cap =>
        obtain ⟨x0, hx0, x, hx, t, ht, hc⟩ := hc
        have vx := opd_vr hA hx
        have eqa : Builtin.cap_ argTypes type (args.map a.eval) = Builtin.cap_ #[t] type #[a.eval x0] := by
          simp [Builtin.cap_, ht, hx0]
        refine bi (Builtin.cap_ #[t] type #[a.eval x0]) (by rw [← eqa]; rfl) ?_
        obtain ⟨rv, hrv⟩ : ∃ rv, rv = a.eval x0 := ⟨_, rfl⟩
        rw [← hrv] at vx ⊢
        split at hc
        · rename_i e hu
          obtain rfl := Option.some.inj hc
          cases h with | pure h =>
          simp only [iop] at h
          split at h
          · rename_i hxe
            obtain rfl := Option.some.inj h
            rw [hxe] at vx
            cases vx; exact Left.pure hW (by simp [Builtin.cap_, run_underlying' hu, goInt]) (.int _ _)
          · rename_i hxe
            obtain rfl := Option.some.inj h
            rw [hxe] at vx
            cases vx; exact Left.pure hW (by simp [Builtin.cap_, run_underlying' hu, goInt]) (.int _ _)
          · rename_i b off len lb hxe
            obtain rfl := Option.some.inj h
            rw [hxe] at vx
            cases vx with
            | mslice _ _ _ _ _ L cap hL hlen hlb hex hext =>
              obtain rfl := hex rfl
              exact Left.pure hW (by simp [Builtin.cap_, run_underlying' hu, goInt]) (.int _ _)
          · cases h
        · cases hc
      case min =>
        obtain ⟨xs, hxs, e⟩ := hc
        obtain rfl := Option.some.inj e
        cases h with | pure h =>
        obtain ⟨rv, h1, h2⟩ := sim_mn hA hxs h argTypes type w
        exact bi _ rfl (Left.pure hW h1 h2)
      case max =>
        obtain ⟨xs, hxs, e⟩ := hc
        obtain rfl := Option.some.inj e
        cases h with | pure h =>
        obtain ⟨rv, h1, h2⟩ := sim_mx hA hxs h argTypes type w
        exact bi _ rfl (Left.pure hW h1 h2)
  all_goals cases hc

end
end Go.Ideal

/- An ideal machine for Go code. Part 15: what an operation looks at. -/
namespace Go.Ideal

def Opd.temps : Opd → List Nat
  | .tmp t => [t]
  | _ => []
def optTemps : Option Opd → List Nat
  | some x => x.temps
  | none => []
def listTemps : List Opd → List Nat
  | [] => []
  | x :: xs => x.temps ++ listTemps xs
def IOp.temps : IOp → List Nat
  | .mv x | .box _ x | .load _ _ x | .loadF _ _ x | .nilCheck x | .un _ x | .conv _ x | .fieldAddr x _ | .field _ x _ _ | .extract x _ | .len x | .lenS x | .cap x => x.temps
  | .pick c a b => c.temps ++ a.temps ++ b.temps
  | .build _ ps => listTemps (ps.map (·.2.2))
  | .buildSlice _ _ ps | .buildF _ _ ps => listTemps (ps.map (·.2))
  | .store _ x v | .bin _ x v | .eq _ _ x v | .makeSlice _ _ x v | .indexAddr _ x v | .indexAddrA _ _ x v | .indexA _ _ _ x v | .indexStr x v | .append _ _ x v | .appendZ _ _ x v | .indexF _ x v => x.temps ++ v.temps
  | .mkFunc _ a b => listTemps a ++ listTemps b
  | .slice _ x lo hi m3 => x.temps ++ optTemps lo ++ optTemps hi ++ optTemps m3
  | .mn xs | .mx xs => listTemps xs
  | .call f xs => f.temps ++ listTemps xs
  | .bad => []
def IOper.temps (o : IOper) : List Nat := o.op.temps ++ (match o.guard with | some (t, _) => [t] | none => [])

theorem Opd.ev_congr {E E' : Env} {x : Opd} (h : ∀ t ∈ x.temps, E t = E' t) : x.ev E = x.ev E' := by
  cases x with
  | tmp t => exact h t (by simp [Opd.temps])
  | const v => rfl
  | agg cs => rfl

theorem list_congr {E E' : Env} : ∀ {xs : List Opd}, (∀ t ∈ listTemps xs, E t = E' t) → xs.map (Opd.ev E) = xs.map (Opd.ev E')
  | [], _ => rfl
  | x :: xs, h => by
    simp only [listTemps, List.mem_append] at h
    rw [List.map_cons, List.map_cons, Opd.ev_congr (fun t ht => h t (.inl ht)), list_congr (fun t ht => h t (.inr ht))]
theorem parts_congr {α : Type} {E E' : Env} (f : α → Opd) : ∀ {ps : List α}, (∀ t ∈ listTemps (ps.map f), E t = E' t) → ∀ p ∈ ps, (f p).ev E = (f p).ev E'
  | [], _, p, hp => by cases hp
  | q :: ps, h, p, hp => by
    simp only [List.map_cons, listTemps, List.mem_append] at h
    rcases List.mem_cons.mp hp with rfl | hp
    · exact Opd.ev_congr (fun t ht => h t (.inl ht))
    · exact parts_congr f (fun t ht => h t (.inr ht)) p hp
theorem bound_congr {E E' : Env} {x : Option Opd} (h : ∀ t ∈ optTemps x, E t = E' t) (d y : Nat) : bound? E x d y = bound? E' x d y := by
  cases x with
  | none => rfl
  | some x => simp only [bound?, Opd.ev_congr (x := x) (E := E) (E' := E') h]

theorem iop_congr {H : Heap} {E E' : Env} {op : IOp} (h : ∀ t ∈ op.temps, E t = E' t) : iop H E op = iop H E' op := by
  cases op with
  | build zero ps =>
    have := parts_congr (fun p : Nat × Nat × Opd => p.2.2) h
    have e : ps.map (fun p => (p.1, p.2.1, p.2.2.ev E)) = ps.map (fun p => (p.1, p.2.1, p.2.2.ev E')) := List.map_congr_left (fun p hp => by rw [this p hp])
    simp only [iop, e]
  | mkFunc fn a b =>
    simp only [IOp.temps, List.mem_append] at h
    simp only [iop, list_congr (xs := a) (fun t ht => h t (.inl ht)), list_congr (xs := b) (fun t ht => h t (.inr ht))]
  | mn xs => simp only [iop, list_congr (xs := xs) h]
  | mx xs => simp only [iop, list_congr (xs := xs) h]
  | pick c a b =>
    simp only [IOp.temps, List.mem_append] at h
    simp only [iop, Opd.ev_congr (x := c) (fun t ht => h t (.inl (.inl ht))), Opd.ev_congr (x := a) (fun t ht => h t (.inl (.inr ht))), Opd.ev_congr (x := b) (fun t ht => h t (.inr ht))]
  | slice sz x lo hi mx =>
    simp only [IOp.temps, List.mem_append] at h
    have e1 := Opd.ev_congr (x := x) (fun t ht => h t (.inl (.inl (.inl ht))))
    have e2 := bound_congr (x := lo) (fun t ht => h t (.inl (.inl (.inr ht))))
    have e3 := bound_congr (x := hi) (fun t ht => h t (.inl (.inr ht)))
    have e4 := bound_congr (x := mx) (fun t ht => h t (.inr ht))
    simp only [iop, e1, sliceI, e2, e3, e4]
  | un op x => cases op <;> simp only [iop, Opd.ev_congr (x := x) h]
  | mv x | load _ _ x | loadF _ _ x | nilCheck x | conv _ x | fieldAddr x _ | field _ x _ _ | extract x _ | len x | lenS x | cap x => simp only [iop, Opd.ev_congr (x := x) h]
  | bin _ x v | eq _ _ x v | indexAddr _ x v | indexAddrA _ _ x v | indexA _ _ _ x v | indexStr x v | indexF _ x v =>
    simp only [IOp.temps, List.mem_append] at h
    simp only [iop, Opd.ev_congr (x := x) (fun t ht => h t (.inl ht)), Opd.ev_congr (x := v) (fun t ht => h t (.inr ht))]
  | buildF zero n ps =>
    have := parts_congr (fun p : Nat × Opd => p.2) h
    have e : ps.map (fun p => (p.1, p.2.ev E)) = ps.map (fun p => (p.1, p.2.ev E')) := List.map_congr_left (fun p hp => by rw [this p hp])
    simp only [iop, e]
  | box _ _ | buildSlice _ _ _ | store _ _ _ | makeSlice _ _ _ _ | append _ _ _ _ | appendZ _ _ _ _ | call _ _ | bad => rfl

theorem HOp.congr {H H' : Heap} {E E' : Env} {op : IOp} {v : IV} (h : ∀ t ∈ op.temps, E t = E' t) (hh : HOp H E op v H') : HOp H E' op v H' := by
  cases hh with
  | pure hp => exact .pure (by rw [← iop_congr h]; exact hp)
  | box hb hx =>
    have e := Opd.ev_congr h
    rw [e] at hx ⊢
    exact .box hb hx
  | buildSlice hb hf =>
    rename_i zero len parts b es
    have := parts_congr (fun p : Nat × Opd => p.2) h
    have e : parts.map (fun p => (p.1, p.2.ev E)) = parts.map (fun p => (p.1, p.2.ev E')) := List.map_congr_left (fun p hp => by rw [this p hp])
    exact .buildSlice hb (by rw [← e]; exact hf)
  | makeSlice hb hl hc hle hn hbig =>
    simp only [IOp.temps, List.mem_append] at h
    exact .makeSlice hb (by rw [← Opd.ev_congr (fun t ht => h t (.inl ht))]; exact hl) (by rw [← Opd.ev_congr (fun t ht => h t (.inr ht))]; exact hc) hle hn hbig
  | appendZ hb hs hx hn hbig =>
    simp only [IOp.temps, List.mem_append] at h
    exact .appendZ hb (by rw [← Opd.ev_congr (fun t ht => h t (.inl ht))]; exact hs) (by rw [← Opd.ev_congr (fun t ht => h t (.inr ht))]; exact hx) hn hbig
  | store hx hH he hu hn ho =>
    simp only [IOp.temps, List.mem_append] at h
    have e2 := Opd.ev_congr (fun t ht => h t (.inr ht))
    rw [e2] at hu hn ⊢
    exact .store (by rw [← Opd.ev_congr (fun t ht => h t (.inl ht))]; exact hx) hH he hu hn ho
  | append0 hs hx =>
    simp only [IOp.temps, List.mem_append] at h
    have e1 := Opd.ev_congr (fun t ht => h t (.inl ht))
    rw [e1] at hs ⊢
    exact .append0 hs (by rw [← Opd.ev_congr (fun t ht => h t (.inr ht))]; exact hx)
  | appendNil hb hs hx hne hz hok hbig =>
    simp only [IOp.temps, List.mem_append] at h
    exact .appendNil hb (by rw [← Opd.ev_congr (fun t ht => h t (.inl ht))]; exact hs) (by rw [← Opd.ev_congr (fun t ht => h t (.inr ht))]; exact hx) hne hz hok hbig
  | appendFull hb hs hH hl hx hne hz hok hbig =>
    simp only [IOp.temps, List.mem_append] at h
    exact .appendFull hb (by rw [← Opd.ev_congr (fun t ht => h t (.inl ht))]; exact hs) hH hl (by rw [← Opd.ev_congr (fun t ht => h t (.inr ht))]; exact hx) hne hz hok hbig
  | append hb hs hH hl hx hne hz hok hbig =>
    simp only [IOp.temps, List.mem_append] at h
    exact .append hb (by rw [← Opd.ev_congr (fun t ht => h t (.inl ht))]; exact hs) hH hl (by rw [← Opd.ev_congr (fun t ht => h t (.inr ht))]; exact hx) hne hz hok hbig
  | appendIn hs hH hl hlb hx hz hok =>
    simp only [IOp.temps, List.mem_append] at h
    exact .appendIn (by rw [← Opd.ev_congr (fun t ht => h t (.inl ht))]; exact hs) hH hl hlb (by rw [← Opd.ev_congr (fun t ht => h t (.inr ht))]; exact hx) hz hok

theorem guard_congr {E E' : Env} {o : IOper} (h : ∀ t ∈ o.temps, E t = E' t) {t : Nat} {w : Bool} (hg : o.guard = some (t, w)) : E t = E' t :=
  h t (by simp [IOper.temps, hg])

theorem step_congr {T : Sys} {o : IOper} {E E' : Env} {H H' : Heap} {v : IV} (h : ∀ t ∈ o.temps, E t = E' t) (hs : Ev T (.step o E H) (.step v H')) : Ev T (.step o E' H) (.step v H') := by
  have hop : ∀ t ∈ o.op.temps, E t = E' t := fun t ht => h t (by simp [IOper.temps, ht])
  cases hs with
  | pass hg hb hw => exact .pass hg (by rw [← guard_congr h hg]; exact hb) hw
  | op hg ho => exact .op (fun t w e => by rw [← guard_congr h e]; exact hg t w e) (ho.congr hop)
  | callOp hg ho hc =>
    rw [ho] at hop
    simp only [IOp.temps, List.mem_append] at hop
    refine .callOp (fun t w e => by rw [← guard_congr h e]; exact hg t w e) ho ?_
    rw [← Opd.ev_congr (fun t ht => hop t (.inl ht)), ← list_congr (fun t ht => hop t (.inr ht))]
    exact hc

/-- The memory does not matter to most operations. -/
theorem iop_pure {H H' : Heap} {E : Env} {op : IOp} (h : op.cls = .pure) : iop H E op = iop H' E op := by
  cases op <;> first | rfl | simp [IOp.cls] at h
  case un op x => cases op <;> rfl
theorem HOp.of_pure {H H' : Heap} {E : Env} {op : IOp} {v : IV} (hc : op.cls = .pure ∨ op.cls = .read) (h : HOp H E op v H') : iop H E op = some v ∧ H' = H := by
  cases h with
  | pure hp => exact ⟨hp, rfl⟩
  | _ => simp [IOp.cls] at hc

/-- A new block does not matter to what is read. -/
theorem iop_alloc {H : Heap} {E : Env} {op : IOp} {v : IV} {b : Nat} {s : Slot} (hb : H b = .free) (h : iop H E op = some v) : iop (H.set b s) E op = some v := by
  have key : ∀ {c sz es}, H c = .live sz es → (H.set b s) c = .live sz es := by
    intro c sz es hc
    rw [Heap.set_ne]
    · exact hc
    · intro e; subst e; rw [hb] at hc; cases hc
  by_cases hc : op.cls = .read
  · cases op <;> simp [IOp.cls] at hc
    case load ag n x =>
      simp only [iop, loadI] at h ⊢
      split at h
      · split at h
        · rename_i sz es hH
          rw [key hH]; exact h
        · cases h
      · exact h
      · cases h
    case indexAddr sz x i =>
      simp only [iop] at h ⊢
      split at h
      · exact h
      · split at h
        · rename_i sz es hH
          rw [key hH]; exact h
        · cases h
      · cases h
    case slice sz x lo hi mx =>
      simp only [iop] at h ⊢
      split at h
      · rename_i hs
        rw [if_pos hs]
        simp only [sliceI] at h ⊢
        split at h
        · exact h
        · exact h
        · exact h
        · exact h
        · split at h
          · rename_i hm
            rw [if_pos hm]; exact h
          · rename_i hm
            rw [if_neg hm]
            split at h
            · rename_i e1
              split at h
              · rename_i e2
                try simp only [e2]
                split at h
                · rename_i sz' es hH
                  rw [key hH]; exact h
                · cases h
              · cases h
            · cases h
        · cases h
      · cases h
  · by_cases hp : op.cls = .pure
    · rw [← iop_pure (H := H) hp]; exact h
    · cases op <;> first | (simp [iop] at h; done) | (simp [IOp.cls] at hp hc; done)

end Go.Ideal

/- An ideal machine for Go code. Part 16: names: a run stays within what it was given and what it makes. -/
namespace Go.Ideal

theorem Cst.inn {S : Nat → Prop} (c : Cst) : Inn S c.iv := by
  cases c <;> first | exact .bool _ | exact .int _ _ | exact .str _ | exact .nilptr | exact .nilslice | exact .nilfunc | exact .func _ _ _ (fun i h => by simp at h) (fun i h => by simp at h)
theorem csts_inn {S : Nat → Prop} (cs : List Cst) (i : Nat) (h : i < (cs.map Cst.iv).length) : Inn S (cs.map Cst.iv)[i] := by
  rw [List.getElem_map]; exact Cst.inn _

/-- All that an environment holds is named. -/
def Env.inn (E : Env) (H : Heap) : Prop := ∀ t, Inn H.named (E t)
theorem Opd.inn {E : Env} {S : Nat → Prop} (h : ∀ t, Inn S (E t)) (x : Opd) : Inn S (x.ev E) := by
  cases x with
  | tmp t => exact h t
  | const c => exact Cst.inn c
  | agg cs => exact .agg _ (csts_inn cs)
theorem Env.inn_put {E : Env} {S : Nat → Prop} (h : ∀ t, Inn S (E t)) {v : IV} (hv : Inn S v) (d : Option Nat) : ∀ t, Inn S ((E.putO d v) t) := by
  intro t
  cases d with
  | none => exact h t
  | some d =>
    simp only [Env.putO, Env.put]
    split
    · exact hv
    · exact h t

theorem Inn.cells {S : Nat → Prop} {x : IV} (h : Inn S x) (i : Nat) (hi : i < x.cells.length) : Inn S x.cells[i] := by
  have one : ∀ {y : IV}, y.cells = [y] → Inn S y → ∀ (i : Nat) (hi : i < y.cells.length), Inn S y.cells[i] := by
    intro y e hy i hi
    have : i = 0 := by rw [e] at hi; simpa using hi
    subst this
    simp only [e]
    exact hy
  cases x with
  | agg cs => cases h with | agg _ h => exact h i hi
  | _ => exact one rfl h i hi

theorem readCells_inn {S : Nat → Prop} {ag : Bool} {e : List IV} {off n : Nat} {v : IV} (he : ∀ (j : Nat) (h : j < e.length), Inn S e[j]) (h : readCells ag e off n = some v) : Inn S v := by
  unfold readCells at h
  split at h
  · split at h
    · obtain rfl := Option.some.inj h
      refine .agg _ (fun i hi => ?_)
      simp only [List.getElem_take, List.getElem_drop]
      exact he _ _
    · cases h
  · obtain ⟨hi, rfl⟩ := List.getElem?_eq_some_iff.mp h
    exact he _ _

theorem fillI_inn {S : Nat → Prop} : ∀ {ps : List (Nat × Nat × IV)} {cs ds : List IV}, (∀ (j : Nat) (h : j < cs.length), Inn S cs[j]) → (∀ p ∈ ps, Inn S p.2.2) → fillI cs ps = some ds → ∀ (j : Nat) (h : j < ds.length), Inn S ds[j]
  | [], cs, ds, hc, _, h => by obtain rfl := Option.some.inj h; exact hc
  | (off, n, v) :: ps, cs, ds, hc, hp, h => by
    simp only [fillI] at h
    split at h
    · cases h
    · split at h
      · rename_i hl
        refine fillI_inn ?_ (fun p hq => hp p (by simp [hq])) h
        have hv := (hp (off, n, v) (by simp)).cells
        intro j hj
        rcases Nat.lt_or_ge j off with c | c
        · simp only [List.append_assoc]
          rw [List.getElem_append_left (by simp; omega)]
          simp only [List.getElem_take]; exact hc _ _
        · rcases Nat.lt_or_ge j (off + v.cells.length) with c2 | c2
          · rw [List.getElem_append_left (by simp; omega), List.getElem_append_right (by simp; omega)]
            exact hv _ _
          · rw [List.getElem_append_right (by simp; omega)]
            simp only [List.getElem_drop]; exact hc _ _
      · cases h
theorem fillE_inn {S : Nat → Prop} {n : Nat} : ∀ {ps : List (Nat × IV)} {es ds : Els}, (∀ (j k : Nat) (h : j < es.length) (h' : k < es[j].length), Inn S es[j][k]) → (∀ p ∈ ps, Inn S p.2) → fillE n es ps = some ds → ∀ (j k : Nat) (h : j < ds.length) (h' : k < ds[j].length), Inn S ds[j][k]
  | [], es, ds, hc, _, h => by obtain rfl := Option.some.inj h; exact hc
  | (i, v) :: ps, es, ds, hc, hp, h => by
    simp only [fillE] at h
    split at h
    · cases h
    · split at h
      · refine fillE_inn ?_ (fun p hq => hp p (by simp [hq])) h
        have hv := (hp (i, v) (by simp)).cells
        intro j k hj hk
        by_cases e : i = j
        · subst e
          simp only [List.getElem_set_self] at hk ⊢
          exact hv _ _
        · simp only [List.getElem_set_ne e] at hk ⊢
          exact hc _ _ _ _
      · cases h

theorem Heap.closed.ld {H : Heap} (hc : H.closed) {ag : Bool} {n : Nat} {x v : IV} (hx : Inn H.named x) (h : loadI H ag n x = some v) : Inn H.named v := by
  unfold loadI at h
  split at h
  · split at h
    · rename_i sz es hH
      split at h
      · rename_i e he
        obtain ⟨hi, rfl⟩ := List.getElem?_eq_some_iff.mp he
        exact readCells_inn (fun j hj => hc.live _ _ _ hH _ j hi hj) h
      · cases h
    · cases h
  · split at h
    · rename_i e he
      obtain ⟨hi, rfl⟩ := List.getElem?_eq_some_iff.mp he
      cases hx with
      | cptr _ _ _ hh => exact readCells_inn (fun j hj => hh _ j hi hj) h
    · cases h
  · cases h

theorem mnGo_int {k : IntKind} : ∀ {l : List IV} {a : Int} {v : IV}, mnGo k a l = some v → ∃ n, v = .int k n
  | [], a, v, h => ⟨a, (Option.some.inj h).symm⟩
  | x :: l, a, v, h => by
    cases x <;> simp only [mnGo] at h <;> try cases h
    split at h
    · exact mnGo_int h
    · cases h
theorem mxGo_int {k : IntKind} : ∀ {l : List IV} {a : Int} {v : IV}, mxGo k a l = some v → ∃ n, v = .int k n
  | [], a, v, h => ⟨a, (Option.some.inj h).symm⟩
  | x :: l, a, v, h => by
    cases x <;> simp only [mxGo] at h <;> try cases h
    split at h
    · exact mxGo_int h
    · cases h

theorem sliceI_inn {H : Heap} {S : Nat → Prop} {sz : Nat} {x v : IV} {E : Env} {lo hi mx : Option Opd} (hx : Inn S x) (h : sliceI H sz x E lo hi mx = some v) : Inn S v := by
  have fs : ∀ {es : Els}, Inn S (.fslice es) → ∀ l n, Inn S (.fslice ((es.drop l).take n)) := by
    intro es hx l n
    cases hx with
    | fslice _ hh =>
      refine .fslice _ (fun j k hj hk => ?_)
      simp only [List.getElem_take, List.getElem_drop] at hk ⊢
      exact hh _ _ _ _
  have ms : ∀ {b o l m : Nat} {e : Bool}, Inn S (.mslice b o l m e) → ∀ o' l' m', Inn S (.mslice b o' l' m' e) := by
    intro b o l m e hx o' l' m'
    cases hx with
    | mslice _ _ _ _ _ hb => exact .mslice _ _ _ _ _ hb
  unfold sliceI at h
  repeat' (split at h)
  all_goals first
    | (obtain rfl := Option.some.inj h; first | exact .str _ | exact .eslice | exact .nilslice | exact fs hx _ _ | exact ms hx _ _ _)
    | (cases h; done)

theorem binI_flat {S : Nat → Prop} {op : BinOp} {x y v : IV} (h : binI op x y = some v) : Inn S v := by
  unfold binI at h
  repeat' (split at h)
  all_goals first
    | (obtain rfl := Option.some.inj h; first | exact .int _ _ | exact .bool _ | exact .str _)
    | (cases h; done)

theorem iop_inn {H : Heap} {E : Env} {op : IOp} {v : IV} (hc : H.closed) (hE : E.inn H) (h : iop H E op = some v) : Inn H.named v := by
  have hx : ∀ x : Opd, Inn H.named (x.ev E) := Opd.inn hE
  cases op with
  | mv x => obtain rfl := Option.some.inj h; exact hx x
  | pick c a b =>
    simp only [iop] at h
    split at h
    · obtain rfl := Option.some.inj h
      split
      · exact hx a
      · exact hx b
    · cases h
  | build zero ps =>
    simp only [iop] at h
    split at h
    · rename_i cs hcs
      obtain rfl := Option.some.inj h
      exact .agg _ (fillI_inn (csts_inn zero) (fun p hp => by
        obtain ⟨q, _, rfl⟩ := List.mem_map.mp hp
        exact hx _) hcs)
    · cases h
  | load ag n x => exact hc.ld (hx x) h
  | nilCheck x =>
    have := hx x
    simp only [iop] at h
    split at h <;> first | (rename_i e; obtain rfl := Option.some.inj h; rw [e] at this; exact this) | (cases h; done)
  | bin op x y => exact binI_flat h
  | eq neg k x y =>
    simp only [iop] at h
    split at h
    · obtain rfl := Option.some.inj h; exact .bool _
    · cases h
  | un op x =>
    cases op <;> simp only [iop] at h <;> (try split at h) <;> first | (obtain rfl := Option.some.inj h; first | exact .int _ _ | exact .bool _) | (cases h; done)
  | conv k x =>
    simp only [iop] at h
    split at h
    · obtain rfl := Option.some.inj h; exact .int _ _
    · cases h
  | mkFunc fn a b =>
    obtain rfl := Option.some.inj h
    exact .func _ _ _ (fun i hi => by rw [List.getElem_map]; exact hx _) (fun i hi => by rw [List.getElem_map]; exact hx _)
  | slice sz x lo hi mx =>
    simp only [iop] at h
    split at h
    · exact sliceI_inn (hx x) h
    · cases h
  | fieldAddr x off =>
    have := hx x
    simp only [iop] at h
    split at h
    · rename_i e; obtain rfl := Option.some.inj h; rw [e] at this; cases this with | ptr _ _ _ hb => exact .ptr _ _ _ hb
    · rename_i e; obtain rfl := Option.some.inj h; rw [e] at this; cases this with | cptr _ _ _ hh => exact .cptr _ _ _ hh
    · cases h
  | field ag x off n =>
    have := hx x
    simp only [iop] at h
    split at h
    · rename_i e; rw [e] at this; cases this with | agg _ hh => exact readCells_inn hh h
    · cases h
  | indexAddr sz x i =>
    have := hx x
    simp only [iop] at h
    split at h
    · rename_i e _
      split at h
      · obtain rfl := Option.some.inj h; rw [e] at this; cases this with | fslice _ hh => exact .cptr _ _ _ hh
      · cases h
    · rename_i e _
      split at h
      · split at h
        · obtain rfl := Option.some.inj h; rw [e] at this; cases this with | mslice _ _ _ _ _ hb => exact .ptr _ _ _ hb
        · cases h
      · cases h
    · cases h
  | indexAddrA len sz x i =>
    have := hx x
    simp only [iop] at h
    split at h
    · rename_i e _
      split at h
      · obtain rfl := Option.some.inj h; rw [e] at this; cases this with | ptr _ _ _ hb => exact .ptr _ _ _ hb
      · cases h
    · rename_i e _
      split at h
      · obtain rfl := Option.some.inj h; rw [e] at this; cases this with | cptr _ _ _ hh => exact .cptr _ _ _ hh
      · cases h
    · cases h
  | indexA ag len sz x i =>
    have := hx x
    simp only [iop] at h
    split at h
    · rename_i e _
      split at h
      · rw [e] at this; cases this with | agg _ hh => exact readCells_inn hh h
      · cases h
    · cases h
  | indexStr x i =>
    simp only [iop] at h
    split at h
    · split at h
      · split at h
        · obtain rfl := Option.some.inj h; exact .int _ _
        · cases h
      · cases h
    · cases h
  | extract x i =>
    have := hx x
    simp only [iop] at h
    split at h
    · rename_i e
      rw [e] at this
      cases this with
      | tuple _ hh =>
        obtain ⟨hi, rfl⟩ := List.getElem?_eq_some_iff.mp h
        exact hh _ _
    · cases h
  | len x =>
    simp only [iop] at h
    split at h <;> first | (obtain rfl := Option.some.inj h; exact .int _ _) | (cases h; done)
  | lenS x =>
    simp only [iop] at h
    split at h <;> first | (obtain rfl := Option.some.inj h; exact .int _ _) | (cases h; done)
  | cap x =>
    simp only [iop] at h
    split at h <;> first | (obtain rfl := Option.some.inj h; exact .int _ _) | (cases h; done)
  | mn xs =>
    simp only [iop, mnI] at h
    split at h
    · obtain ⟨n, rfl⟩ := mnGo_int h; exact .int _ _
    · cases h
  | mx xs =>
    simp only [iop, mxI] at h
    split at h
    · obtain ⟨n, rfl⟩ := mxGo_int h; exact .int _ _
    · cases h
  | buildF zero n ps =>
    simp only [iop] at h
    split at h
    · rename_i es hes
      obtain rfl := Option.some.inj h
      refine .fslice _ (fillE_inn (fun j k hj hk => ?_) (fun p hp => ?_) hes)
      · simp only [List.getElem_replicate] at hk ⊢; exact csts_inn _ _ _
      · obtain ⟨q, _, rfl⟩ := List.mem_map.mp hp; exact hx _
    · cases h
  | indexF sz x i =>
    have := hx x
    simp only [iop] at h
    split at h
    · rename_i e _
      split at h
      · obtain rfl := Option.some.inj h; rw [e] at this; cases this with | fslice _ hh => exact .cptr _ _ _ hh
      · cases h
    · cases h
  | loadF ag n x =>
    have := hx x
    simp only [iop] at h
    split at h
    · rename_i e
      rw [e] at this
      split at h
      · rename_i c he
        obtain ⟨hi, rfl⟩ := List.getElem?_eq_some_iff.mp he
        cases this with | cptr _ _ _ hh => exact readCells_inn (fun j hj => hh _ j hi hj) h
      · cases h
    · cases h
  | _ => simp [iop] at h

theorem elsOf_inn {H : Heap} {x : IV} {es : Els} (hc : H.closed) (hx : Inn H.named x) (h : elsOf H x = some es) : ∀ (j k : Nat) (hj : j < es.length) (hk : k < es[j].length), Inn H.named es[j][k] := by
  unfold elsOf at h
  split at h
  · obtain rfl := Option.some.inj h; cases hx with | fslice _ hh => exact hh
  · obtain rfl := Option.some.inj h; intro j k hj; simp at hj
  · obtain rfl := Option.some.inj h; intro j k hj; simp at hj
  · split at h
    · rename_i hH
      split at h
      · obtain rfl := Option.some.inj h
        intro j k hj hk
        simp only [List.getElem_take, List.getElem_drop] at hk ⊢
        exact hc.live _ _ _ hH _ _ _ _
      · cases h
    · cases h
  · obtain rfl := Option.some.inj h
    intro j k hj hk
    simp only [List.getElem_map, List.length_singleton] at hk
    obtain rfl : k = 0 := by omega
    simp only [List.getElem_map, List.getElem_cons_zero]
    exact .int _ _
  · cases h

theorem named_set {H : Heap} {b : Nat} {s : Slot} (hs : s ≠ .free) : ∀ c, H.named c → (H.set b s).named c := by
  intro c hc
  by_cases e : c = b
  · subst e; simp only [Heap.named, Heap.set_same]; exact hs
  · simp only [Heap.named]; rw [Heap.set_ne _ _ e]; exact hc

/-- A block is laid, or laid anew. -/
theorem closed_set {H : Heap} (hc : H.closed) {b sz : Nat} {es : Els} (he : ∀ (j k : Nat) (hj : j < es.length) (hk : k < es[j].length), Inn (H.set b (.live sz es)).named es[j][k]) : (H.set b (.live sz es)).closed := by
  constructor
  · intro c sz' es' h j k hj hk
    by_cases e : c = b
    · subst e
      rw [Heap.set_same] at h
      simp only [Slot.live.injEq] at h
      obtain ⟨_, rfl⟩ := h
      exact he j k hj hk
    · rw [Heap.set_ne _ _ e] at h
      exact (hc.live c sz' es' h j k hj hk).mono (named_set (by simp))
  · intro c E ps aa bd st pd h t
    by_cases e : c = b
    · subst e; rw [Heap.set_same] at h; cases h
    · rw [Heap.set_ne _ _ e] at h
      exact (hc.loop c _ _ _ _ _ _ h t).mono (named_set (by simp))
theorem closed_dead {H : Heap} (hc : H.closed) (b : Nat) : (H.set b .dead).closed := by
  constructor
  · intro c sz' es' h j k hj hk
    by_cases e : c = b
    · subst e; rw [Heap.set_same] at h; cases h
    · rw [Heap.set_ne _ _ e] at h
      exact (hc.live c sz' es' h j k hj hk).mono (named_set (by simp))
  · intro c E ps aa bd st pd h t
    by_cases e : c = b
    · subst e; rw [Heap.set_same] at h; cases h
    · rw [Heap.set_ne _ _ e] at h
      exact (hc.loop c _ _ _ _ _ _ h t).mono (named_set (by simp))
theorem closed_loop {H : Heap} (hc : H.closed) {b : Nat} {E : Env} {ps : List Nat} {aa bd : IC} {st : LoopState} {pd : IEx} (he : ∀ t, Inn (H.set b (.loop E ps aa bd st pd)).named (E t)) : (H.set b (.loop E ps aa bd st pd)).closed := by
  constructor
  · intro c sz' es' h j k hj hk
    by_cases e : c = b
    · subst e; rw [Heap.set_same] at h; cases h
    · rw [Heap.set_ne _ _ e] at h
      exact (hc.live c sz' es' h j k hj hk).mono (named_set (by simp))
  · intro c E' ps' aa' bd' st' pd' h t
    by_cases e : c = b
    · subst e
      rw [Heap.set_same] at h
      simp only [Slot.loop.injEq] at h
      obtain ⟨rfl, _⟩ := h
      exact he t
    · rw [Heap.set_ne _ _ e] at h
      exact (hc.loop c _ _ _ _ _ _ h t).mono (named_set (by simp))

theorem els_append {S : Nat → Prop} {es es' : Els} (h : ∀ (j k : Nat) (hj : j < es.length) (hk : k < es[j].length), Inn S es[j][k]) (h' : ∀ (j k : Nat) (hj : j < es'.length) (hk : k < es'[j].length), Inn S es'[j][k]) :
    ∀ (j k : Nat) (hj : j < (es ++ es').length) (hk : k < (es ++ es')[j].length), Inn S (es ++ es')[j][k] := by
  intro j k hj hk
  rcases Nat.lt_or_ge j es.length with c | c
  · simp only [List.getElem_append_left c] at hk ⊢; exact h _ _ _ _
  · simp only [List.getElem_append_right c] at hk ⊢; exact h' _ _ _ _
theorem els_take {S : Nat → Prop} {es : Els} (n : Nat) (h : ∀ (j k : Nat) (hj : j < es.length) (hk : k < es[j].length), Inn S es[j][k]) :
    ∀ (j k : Nat) (hj : j < (es.take n).length) (hk : k < (es.take n)[j].length), Inn S (es.take n)[j][k] := by
  intro j k hj hk
  simp only [List.getElem_take] at hk ⊢; exact h _ _ _ _
theorem els_drop {S : Nat → Prop} {es : Els} (n : Nat) (h : ∀ (j k : Nat) (hj : j < es.length) (hk : k < es[j].length), Inn S es[j][k]) :
    ∀ (j k : Nat) (hj : j < (es.drop n).length) (hk : k < (es.drop n)[j].length), Inn S (es.drop n)[j][k] := by
  intro j k hj hk
  simp only [List.getElem_drop] at hk ⊢; exact h _ _ _ _
theorem els_mono {S S' : Nat → Prop} {es : Els} (hS : ∀ b, S b → S' b) (h : ∀ (j k : Nat) (hj : j < es.length) (hk : k < es[j].length), Inn S es[j][k]) : ∀ (j k : Nat) (hj : j < es.length) (hk : k < es[j].length), Inn S' es[j][k] :=
  fun j k hj hk => (h j k hj hk).mono hS

theorem overlay_inn {S : Nat → Prop} {e cs : List IV} {off : Nat} (ho : off ≤ e.length) (he : ∀ (j : Nat) (h : j < e.length), Inn S e[j]) (hc : ∀ (j : Nat) (h : j < cs.length), Inn S cs[j]) (k : Nat) (hk : k < (overlay e off cs).length) : Inn S (overlay e off cs)[k] := by
  simp only [overlay] at hk ⊢
  rcases Nat.lt_or_ge k off with c | c
  · simp only [List.append_assoc]
    rw [List.getElem_append_left (by simp; omega)]
    simp only [List.getElem_take]; exact he _ _
  · rcases Nat.lt_or_ge k (off + cs.length) with c2 | c2
    · rw [List.getElem_append_left (by simp; omega), List.getElem_append_right (by simp; omega)]
      exact hc _ _
    · rw [List.getElem_append_right (by simp; omega)]
      simp only [List.getElem_drop]; exact he _ _

/-- An operation leaves the loops as they are. -/
theorem HOp.loops {H H' : Heap} {E : Env} {op : IOp} {v : IV} (h : HOp H E op v H') {b : Nat} (hb : (H' b).isLoop = true) : H b = H' b := by
  have one : ∀ (G : Heap) (c : Nat) (s : Slot), s.isLoop = false → ((G.set c s) b).isLoop = true → G b = (G.set c s) b := by
    intro G c s hs hq
    by_cases e : b = c
    · subst e; rw [Heap.set_same, hs] at hq; cases hq
    · rw [Heap.set_ne _ _ e]
  cases h with
  | pure hp => rfl
  | append0 _ _ => rfl
  | append _ _ _ _ _ _ _ _ _ =>
    have h1 := one _ _ _ rfl hb
    rw [← h1] at hb ⊢
    exact one _ _ _ rfl hb
  | _ => exact one _ _ _ rfl hb

theorem HOp.closed {H H' : Heap} {E : Env} {op : IOp} {v : IV} (hc : H.closed) (hE : E.inn H) (h : HOp H E op v H') : Inn H'.named v ∧ H'.closed ∧ ∀ c, H.named c → H'.named c := by
  have hx : ∀ x : Opd, Inn H.named (x.ev E) := Opd.inn hE
  have own : ∀ (b sz : Nat) (es : Els), (H.set b (.live sz es)).named b := fun b sz es => by simp [Heap.named, Heap.set_same]
  cases h with
  | pure hp => exact ⟨iop_inn hc hE hp, hc, fun _ h => h⟩
  | box hb hu =>
    refine ⟨.ptr _ _ _ (own _ _ _), closed_set hc (fun j k hj hk => ?_), named_set (by simp)⟩
    obtain rfl : j = 0 := by simpa using hj
    exact (((hx _).cells k hk)).mono (named_set (by simp))
  | buildSlice hb hf =>
    refine ⟨.mslice _ _ _ _ _ (own _ _ _), closed_set hc (els_mono (named_set (by simp)) (fillE_inn (fun j k hj hk => ?_) (fun p hp => ?_) hf)), named_set (by simp)⟩
    · simp only [List.getElem_replicate] at hk ⊢; exact csts_inn _ _ _
    · obtain ⟨q, _, rfl⟩ := List.mem_map.mp hp; exact hx _
  | appendZ hb hs hx' hn hbig =>
    refine ⟨.mslice _ _ _ _ _ (own _ _ _), closed_set hc (fun j k hj hk => ?_), named_set (by simp)⟩
    simp only [List.getElem_replicate] at hk ⊢; exact csts_inn _ _ _
  | makeSlice hb hl hcc hle hn hbig =>
    refine ⟨.mslice _ _ _ _ _ (own _ _ _), closed_set hc (fun j k hj hk => ?_), named_set (by simp)⟩
    simp only [List.getElem_replicate] at hk ⊢; exact csts_inn _ _ _
  | store hxe hH he hu hn ho =>
    refine ⟨.undef, closed_set hc (els_mono (named_set (by simp)) (fun j k hj hk => ?_)), named_set (by simp)⟩
    rename_i b i off sz es e
    simp only [List.length_set] at hj
    by_cases q : i = j
    · subst q
      simp only [List.getElem_set_self] at hk ⊢
      obtain ⟨hi, rfl⟩ := List.getElem?_eq_some_iff.mp he
      exact overlay_inn (by omega) (fun j hj => hc.live _ _ _ hH i j hi hj) ((hx _).cells) k hk
    · simp only [List.getElem_set_ne q] at hk ⊢
      exact hc.live _ _ _ hH _ _ _ _
  | append0 hs hx' => exact ⟨hx _, hc, fun _ h => h⟩
  | appendNil hb hs hx' hne hz hok hbig => exact ⟨.mslice _ _ _ _ _ (own _ _ _), closed_set hc (els_mono (named_set (by simp)) (elsOf_inn hc (hx _) hx')), named_set (by simp)⟩
  | appendFull hb hs hH hl hx' hne hz hok hbig =>
    exact ⟨.mslice _ _ _ _ _ (own _ _ _), closed_set hc (els_mono (named_set (by simp)) (els_append (els_take _ (els_drop _ (hc.live _ _ _ hH))) (elsOf_inn hc (hx _) hx'))), named_set (by simp)⟩
  | append hb hs hH hl hx' hne hz hok hbig =>
    rename_i zero bytes s x b b' off len lb ex0 es es'
    have hn2 : ∀ c, H.named c → ((H.set b .dead).set b' (.live zero.length (es.drop off ++ es'))).named c := fun c hc => named_set (by simp) c (named_set (by simp) c hc)
    refine ⟨.mslice _ _ _ _ _ (by simp [Heap.named, Heap.set_same]), closed_set (closed_dead hc _) (els_mono hn2 (els_append (els_drop _ (hc.live _ _ _ hH)) (elsOf_inn hc (hx _) hx'))), hn2⟩
  | appendIn hs hH hl hlb hx' hz hok =>
    refine ⟨?_, closed_set hc (els_mono (named_set (by simp)) (els_append (els_append (els_take _ (hc.live _ _ _ hH)) (elsOf_inn hc (hx _) hx')) (els_drop _ (hc.live _ _ _ hH)))), named_set (by simp)⟩
    rename_i zero bytes s x b off len lb ex es es'
    have := hx s
    rw [hs] at this
    cases this with | mslice _ _ _ _ _ hb => exact .mslice _ _ _ _ _ (named_set (by simp) _ hb)

end Go.Ideal

/- An ideal machine for Go code. Part 17: a run stays within its names; a region that draws its order. -/
namespace Go.Ideal

theorem sw_sw (a b x : Nat) : sw a b (sw a b x) = x := by
  simp only [sw]
  split
  · rename_i h; subst h; split <;> simp_all
  · split
    · rename_i h; subst h; simp
    · rfl
theorem renL_map (π : Nat → Nat) : ∀ l : List IV, renL π l = l.map (IV.ren π)
  | [] => rfl
  | x :: xs => by rw [renL, renL_map π xs, List.map_cons]
theorem renE_map (π : Nat → Nat) : ∀ l : List (List IV), renE π l = l.map (fun e => e.map (IV.ren π))
  | [] => rfl
  | x :: xs => by rw [renE, renE_map π xs, renL_map, List.map_cons]
mutual
theorem IV.ren_ren {π : Nat → Nat} (hπ : ∀ x, π (π x) = x) : ∀ x : IV, (x.ren π).ren π = x
  | .undef => rfl
  | .bool b => rfl
  | .int k n => rfl
  | .str s => rfl
  | .nilptr => rfl
  | .ptr b i off => by simp only [IV.ren, hπ]
  | .cptr es i off => by simp only [IV.ren, renE_ren hπ es]
  | .nilslice => rfl
  | .eslice => rfl
  | .fslice es => by simp only [IV.ren, renE_ren hπ es]
  | .mslice b off len lb ex => by simp only [IV.ren, hπ]
  | .func fn fs cs => by simp only [IV.ren, renL_ren hπ fs, renL_ren hπ cs]
  | .yield l => by simp only [IV.ren, hπ]
  | .nilfunc => rfl
  | .agg cs => by simp only [IV.ren, renL_ren hπ cs]
  | .tuple vs => by simp only [IV.ren, renL_ren hπ vs]
theorem renL_ren {π : Nat → Nat} (hπ : ∀ x, π (π x) = x) : ∀ l : List IV, renL π (renL π l) = l
  | [] => rfl
  | x :: xs => by simp only [renL, IV.ren_ren hπ x, renL_ren hπ xs]
theorem renE_ren {π : Nat → Nat} (hπ : ∀ x, π (π x) = x) : ∀ l : List (List IV), renE π (renE π l) = l
  | [] => rfl
  | x :: xs => by simp only [renE, renL_ren hπ x, renE_ren hπ xs]
end
theorem Inn.ren {π : Nat → Nat} {S S' : Nat → Prop} (hS : ∀ b, S b → S' (π b)) {x : IV} (h : Inn S x) : Inn S' (x.ren π) := by
  induction h with
  | undef => exact .undef
  | bool b => exact .bool b
  | int k n => exact .int k n
  | str s => exact .str s
  | nilptr => exact .nilptr
  | ptr b i off h => exact .ptr _ i off (hS _ h)
  | cptr es i off h ih =>
    refine .cptr _ i off (fun j k hj hk => ?_)
    simp only [renE_map] at hj hk ⊢
    simp only [List.getElem_map, List.length_map] at hj hk ⊢
    exact ih j k hj hk
  | nilslice => exact .nilslice
  | eslice => exact .eslice
  | fslice es h ih =>
    refine .fslice _ (fun j k hj hk => ?_)
    simp only [renE_map] at hj hk ⊢
    simp only [List.getElem_map, List.length_map] at hj hk ⊢
    exact ih j k hj hk
  | mslice b off len lb ex h => exact .mslice _ off len lb ex (hS _ h)
  | func fn fs cs hf hc ih1 ih2 =>
    refine .func fn _ _ (fun i h => ?_) (fun i h => ?_)
    · simp only [renL_map, List.getElem_map, List.length_map] at h ⊢
      exact ih1 i h
    · simp only [renL_map, List.getElem_map, List.length_map] at h ⊢
      exact ih2 i h
  | yield l h => exact .yield _ (hS _ h)
  | nilfunc => exact .nilfunc
  | agg cs h ih =>
    refine .agg _ (fun i h => ?_)
    simp only [renL_map, List.getElem_map, List.length_map] at h ⊢
    exact ih i h
  | tuple cs h ih =>
    refine .tuple _ (fun i h => ?_)
    simp only [renL_map, List.getElem_map, List.length_map] at h ⊢
    exact ih i h
theorem Slot.ren_free {π : Nat → Nat} {s : Slot} : s.ren π = .free ↔ s = .free := by cases s <;> simp [Slot.ren]
theorem Heap.ren_named {H : Heap} {a b x : Nat} : (H.ren a b).named x ↔ H.named (sw a b x) := by
  simp only [Heap.named, Heap.ren, ne_eq, Slot.ren_free]
theorem Heap.ren_live {H : Heap} {a b x sz : Nat} {es : Els} (h : (H.ren a b) x = .live sz es) : ∃ es', H (sw a b x) = .live sz es' ∧ es = renE (sw a b) es' := by
  simp only [Heap.ren] at h
  cases hs : H (sw a b x) with
  | live sz' es' =>
    rw [hs] at h
    simp only [Slot.ren, Slot.live.injEq] at h
    obtain ⟨rfl, rfl⟩ := h
    exact ⟨es', rfl, rfl⟩
  | _ => rw [hs] at h; simp [Slot.ren] at h
theorem Heap.ren_ren (H : Heap) (a b : Nat) : (H.ren a b).ren a b = H := by
  apply Heap.ext; intro x
  show ((H (sw a b (sw a b x))).ren (sw a b)).ren (sw a b) = H x
  rw [sw_sw]
  cases H x with
  | live sz es => simp only [Slot.ren, renE_ren (sw_sw a b)]
  | loop E ps aa bd st pd => simp only [Slot.ren, IV.ren_ren (sw_sw a b)]
  | _ => rfl
theorem Heap.ren_loop {H : Heap} {a b x : Nat} {E : Env} {ps : List Nat} {aa bd : IC} {st : LoopState} {pd : IEx} (h : (H.ren a b) x = .loop E ps aa bd st pd) : ∃ E', H (sw a b x) = .loop E' ps aa bd st pd ∧ E = fun t => (E' t).ren (sw a b) := by
  simp only [Heap.ren] at h
  cases hs : H (sw a b x) with
  | loop E' ps' aa' bd' st' pd' =>
    rw [hs] at h
    simp only [Slot.ren, Slot.loop.injEq] at h
    obtain ⟨rfl, rfl, rfl, rfl, rfl, rfl⟩ := h
    exact ⟨E', rfl, rfl⟩
  | _ => rw [hs] at h; simp [Slot.ren] at h
theorem Heap.closed.ren {H : Heap} (h : H.closed) (a b : Nat) : (H.ren a b).closed := by
  constructor
  · intro x sz es hx j k hj hk
    obtain ⟨es', h1, rfl⟩ := Heap.ren_live hx
    simp only [renE_map] at hj hk ⊢
    simp only [List.getElem_map, List.length_map] at hj hk ⊢
    exact (h.live _ sz es' h1 j k hj hk).ren (fun c hc => by rw [Heap.ren_named, sw_sw]; exact hc)
  · intro x E ps aa bd st pd hx t
    obtain ⟨E', h1, rfl⟩ := Heap.ren_loop hx
    exact (h.loop _ _ _ _ _ _ _ h1 t).ren (fun c hc => by rw [Heap.ren_named, sw_sw]; exact hc)

theorem puts_inn {S : Nat → Prop} : ∀ {ps : List Nat} {vs : List IV} {E : Env}, (∀ t, Inn S (E t)) → (∀ x ∈ vs, Inn S x) → ∀ t, Inn S ((E.puts ps vs) t)
  | [], vs, E, h, _ => by simpa only [Env.puts] using h
  | p :: ps, [], E, h, _ => by simpa only [Env.puts] using h
  | p :: ps, v :: vs, E, h, hv => by
    simp only [Env.puts]
    refine puts_inn (fun t => ?_) (fun x hx => hv x (List.mem_cons_of_mem _ hx))
    simp only [Env.put]
    split
    · exact hv v List.mem_cons_self
    · exact h t

theorem frz_inn {H H2 : Heap} (hcl : H.closed) (hn : ∀ b, H.named b → H2.named b) {x y : IV} (h : Frz H H2 x y) : Inn H.named x → Inn H2.named y := by
  induction h with
  | refl x => exact fun q => q.mono hn
  | @mslice b off len lb sz ex es es' hH hH' hl hlen hle hv ih =>
    intro _
    refine .fslice _ (fun j k hj hk => ?_)
    have h1 : off + j < es.length := by omega
    have h2 : k < es[off + j].length := by rw [← hle j hj h1]; exact hk
    exact ih j k hj h1 hk h2 (hcl.live b sz es hH _ _ h1 h2)
  | agg hl hv ih =>
    intro q
    cases q with | agg _ hq => exact .agg _ (fun i hi => ih i (by omega) hi (hq i (by omega)))
  | tuple hl hv ih =>
    intro q
    cases q with | tuple _ hq => exact .tuple _ (fun i hi => ih i (by omega) hi (hq i (by omega)))
  | func hl hv hm hw ih1 ih2 =>
    intro q
    cases q with | func _ _ _ q1 q2 => exact .func _ _ _ (fun i hi => ih1 i (by omega) hi (q1 i (by omega))) (fun i hi => ih2 i (by omega) hi (q2 i (by omega)))
  | nil => exact fun _ => .fslice _ (fun j k hj => by simp at hj)
theorem dead_named {H H2 : Heap} (hH : ∀ b, H2 b = H b ∨ (H2 b = .dead ∧ H b ≠ .free)) : ∀ b, H.named b → H2.named b := by
  intro b hb
  rcases hH b with e | ⟨e, _⟩
  · simp only [Heap.named, e]; exact hb
  · simp only [Heap.named, e]; simp
theorem dead_closed {H H2 : Heap} (hH : ∀ b, H2 b = H b ∨ (H2 b = .dead ∧ H b ≠ .free)) (hcl : H.closed) : H2.closed := by
  refine ⟨fun b sz es hb => ?_, fun b E ps aa bd st pd hb t => ?_⟩
  · rcases hH b with e | ⟨e, _⟩
    · exact els_mono (dead_named hH) (hcl.live b sz es (by rw [← e]; exact hb))
    · rw [e] at hb; cases hb
  · rcases hH b with e | ⟨e, _⟩
    · exact (hcl.loop b _ _ _ _ _ _ (by rw [← e]; exact hb) t).mono (dead_named hH)
    · rw [e] at hb; cases hb

theorem pad_named {H H' : Heap} (hH : ∀ b, H' b = H b ∨ (H b = .free ∧ H' b = .dead)) : ∀ b, H.named b → H'.named b := by
  intro b hb
  rcases hH b with e | ⟨e, _⟩
  · simp only [Heap.named, e]; exact hb
  · exact absurd e hb
theorem pad_closed {H H' : Heap} (hH : ∀ b, H' b = H b ∨ (H b = .free ∧ H' b = .dead)) (hcl : H.closed) : H'.closed := by
  refine ⟨fun b sz es hb => ?_, fun b E ps aa bd st pd hb t => ?_⟩
  · rcases hH b with e | ⟨_, e⟩
    · exact els_mono (pad_named hH) (hcl.live b sz es (by rw [← e]; exact hb))
    · rw [e] at hb; cases hb
  · rcases hH b with e | ⟨_, e⟩
    · exact (hcl.loop b _ _ _ _ _ _ (by rw [← e]; exact hb) t).mono (pad_named hH)
    · rw [e] at hb; cases hb

/-- A run stays within its names. -/
def Good : Task → Out → Prop
  | .code S _ E H, .code _ E1 H1 => E.inn H → H.closed → (∀ c, S c → H.named c) → E1.inn H1 ∧ H1.closed ∧ ∀ c, S c → H1.named c
  | .step _ E H, .step v H1 => E.inn H → H.closed → Inn H1.named v ∧ H1.closed ∧ ∀ c, H.named c → H1.named c
  | .ops _ E H, .ops E1 H1 => E.inn H → H.closed → E1.inn H1 ∧ H1.closed ∧ ∀ c, H.named c → H1.named c
  | .draw _ _ _ _ E H, .ops E1 H1 => E.inn H → H.closed → E1.inn H1 ∧ H1.closed ∧ ∀ c, H.named c → H1.named c
  | .call f args H, .call v H1 => Inn H.named f → (∀ x ∈ args, Inn H.named x) → H.closed → Inn H1.named v ∧ H1.closed ∧ ∀ c, H.named c → H1.named c
  | _, _ => True

theorem Env.inn_mono {E : Env} {H H' : Heap} (h : E.inn H) (hm : ∀ c, H.named c → H'.named c) : E.inn H' := fun t => (h t).mono hm

theorem Ev.good {T : Sys} {t : Task} {o : Out} (h : Ev T t o) : Good t o := by
  induction h with
  | skip => exact fun h1 h2 h3 => ⟨h1, h2, h3⟩
  | exit => exact fun h1 h2 h3 => ⟨h1, h2, h3⟩
  | ret => exact fun h1 h2 h3 => ⟨h1, h2, h3⟩
  | nil => exact fun h1 h2 => ⟨h1, h2, fun _ h => h⟩
  | drawNil => exact fun h1 h2 => ⟨h1, h2, fun _ h => h⟩
  | seqN _ _ ih1 ih2 =>
    intro h1 h2 h3
    obtain ⟨a1, a2, a3⟩ := ih1 h1 h2 h3
    exact ih2 a1 a2 a3
  | seqX _ _ ih => exact ih
  | cond _ _ ih => exact ih
  | block _ ih => exact ih
  | scope _ ih => exact ih
  | loopN _ _ ih1 ih2 =>
    intro h1 h2 h3
    obtain ⟨a1, a2, a3⟩ := ih1 h1 h2 h3
    exact ih2 a1 a2 a3
  | loopX _ _ ih => exact ih
  | region _ ih =>
    intro h1 h2 h3
    obtain ⟨a1, a2, a3⟩ := ih h1 h2
    exact ⟨a1, a2, fun c hc => a3 c (h3 c hc)⟩
  | draw _ ih =>
    intro h1 h2 h3
    obtain ⟨a1, a2, a3⟩ := ih h1 h2
    exact ⟨a1, a2, fun c hc => a3 c (h3 c hc)⟩
  | weak hE _ ih =>
    intro h1 h2 h3
    refine ih (fun t => ?_) h2 h3
    rcases hE t with e | e
    · rw [e]; exact .undef
    · rw [e]; exact h1 t
  | forget _ hE hH hi hc ih =>
    intro h1 h2 h3
    obtain ⟨_, _, a3⟩ := ih h1 h2 h3
    refine ⟨hi, hc, fun c hcn => ?_⟩
    rcases hH c with e | ⟨_, e⟩
    · have := a3 c hcn
      unfold Heap.named at this ⊢
      generalize Heap.at_ _ c = s1 at e this
      generalize Heap.at_ _ c = s2 at e ⊢
      cases e with
      | refl => exact this
      | live => simp
    · exact absurd hcn e
  | pad hH _ ih => exact fun h1 h2 h3 => ih (fun t => (h1 t).mono (pad_named hH)) (pad_closed hH h2) (fun c hc => pad_named hH c (h3 c hc))
  | start hH hE _ ih =>
    intro h1 h2 h3
    exact ih (fun t => by
      rcases hE t with q | q
      · rw [q]; exact .undef
      · exact frz_inn h2 (dead_named hH) q (h1 t)) (dead_closed hH h2) (fun c hc => dead_named hH c (h3 c hc))
  | other a b hab _ ih =>
    intro h1 h2 h3
    obtain ⟨a1, a2, a3⟩ := ih h1 h2 h3
    refine ⟨fun t => (a1 t).ren (fun c hc => by rw [Heap.ren_named, sw_sw]; exact hc), a2.ren a b, fun c hc => ?_⟩
    rw [Heap.ren_named]
    rcases hab with rfl | ⟨ha, hb⟩
    · rw [show sw a a c = c by unfold sw; split <;> simp_all]; exact a3 c hc
    · rw [show sw a b c = c by
        unfold sw
        rw [if_neg (fun q => by subst q; exact ha hc), if_neg (fun q => by subst q; exact hb hc)]]
      exact a3 c hc
  | pass _ _ _ => exact fun h1 h2 => ⟨.tuple _ (fun i h => by simp at h), h2, fun _ h => h⟩
  | op _ ho => exact fun h1 h2 => ho.closed h2 h1
  | callOp _ _ _ ih =>
    intro h1 h2
    refine ih (Opd.inn h1 _) (fun x hx => ?_) h2
    obtain ⟨y, _, rfl⟩ := List.mem_map.mp hx
    exact Opd.inn h1 _
  | cons _ _ ih1 ih2 =>
    intro h1 h2
    obtain ⟨a1, a2, a3⟩ := ih1 h1 h2
    obtain ⟨b1, b2, b3⟩ := ih2 (Env.inn_put (Env.inn_mono h1 a3) a1 _) a2
    exact ⟨b1, b2, fun c hc => b3 c (a3 c hc)⟩
  | drawCons _ _ _ _ ih1 ih2 =>
    intro h1 h2
    obtain ⟨a1, a2, a3⟩ := ih1 h1 h2
    obtain ⟨b1, b2, b3⟩ := ih2 (Env.inn_put (Env.inn_mono h1 a3) a1 _) a2
    exact ⟨b1, b2, fun c hc => b3 c (a3 c hc)⟩
  | func _ _ _ _ _ _ ht _ =>
    intro h1 h2 h3
    refine ⟨ht.val, ⟨fun b sz es hb => ?_, fun b E ps aa bd st pd hb => ?_⟩, ht.named⟩
    · rcases ht.inn b sz es hb with e | e
      · exact els_mono ht.named (h3.live b sz es e)
      · exact e
    · have := ht.loop b
      rw [hb] at this; cases this
  | funcA _ hS hS' _ _ hr ih =>
    rename_i f fs cs args fn H e E1 H1 v S _ _ _
    intro h1 h2 h3
    cases h1 with
    | func _ _ _ hf hc =>
    obtain ⟨a1, a2, a3⟩ := ih (fun t => by
      simp only [argEnv]
      rw [List.getD_eq_getElem?_getD]
      cases q : (fs ++ args ++ cs)[t]? with
      | none => exact .undef
      | some x =>
        have hm := List.mem_of_getElem? q
        simp only [List.mem_append] at hm
        rcases hm with (hm | hm) | hm
        · obtain ⟨i, hi, rfl⟩ := List.getElem_of_mem hm; exact hf i hi
        · exact h2 x hm
        · obtain ⟨i, hi, rfl⟩ := List.getElem_of_mem hm; exact hc i hi) h3 hS'
    refine ⟨?_, a2, fun c hc => a3 c (hS c hc)⟩
    have one : ∀ (rs : List IRes) (vs : List IV), results1 H1 E1 rs = some vs → ∀ x ∈ vs, Inn H1.named x := by
      intro rs
      induction rs with
      | nil => intro vs h x hx; cases h; cases hx
      | cons r rs ih =>
        intro vs h x hx
        simp only [results1] at h
        split at h
        · rename_i y ys hy hys
          cases h
          rcases List.mem_cons.mp hx with rfl | hx
          · cases r with
            | tmp t => cases hy; exact a1 t
            | cell t ag n => exact a2.ld (a1 t) hy
          · exact ih _ hys x hx
        · cases h
    unfold resultsI at hr
    split at hr
    · rename_i u h
      cases hr
      exact one _ _ h _ List.mem_cons_self
    · rename_i vs _ h
      cases hr
      exact .tuple _ (fun i hi => one _ _ (by assumption) _ (List.getElem_mem hi))
    · cases hr
  | base _ hg => exact hg
  | ren a b _ ih =>
    rename_i f args H v H' _
    intro h1 h2 h3
    have e := fun x : Nat => sw_sw a b x
    have hS : ∀ c, (H.ren a b).named c → H.named (sw a b c) := fun c hc => Heap.ren_named.mp hc
    have hcl := h3.ren a b
    rw [Heap.ren_ren] at hcl
    have h1' := h1.ren hS
    rw [IV.ren_ren e] at h1'
    obtain ⟨g1, g2, g3⟩ := ih h1' (fun x hx => by
      have := (h2 _ (List.mem_map_of_mem hx)).ren hS
      rw [IV.ren_ren e] at this
      exact this) hcl
    exact ⟨g1.ren (fun c hc => by rw [Heap.ren_named, e]; exact hc), g2.ren a b, fun c hc => Heap.ren_named.mpr (g3 _ (Heap.ren_named.mp hc))⟩
  | rangeFunc hl hE hg hT hc hL hst ih =>
    rename_i S g ps aa bd E E0 H l f fs cs fn v H1 st e
    intro h1 h2 h3
    have hn : ∀ c, H.named c → (H.set l (.loop E0 ps aa bd .ready .normal)).named c := named_set (by simp)
    have hgi : Inn H.named (.func (.func f) fs cs) := by rw [← hg]; exact Opd.inn h1 _
    obtain ⟨a1, a2, a3⟩ := ih (hgi.mono hn) (fun x hx => by
      obtain rfl := List.mem_singleton.mp hx
      exact .yield _ (by simp [Heap.named, Heap.set_same])) (closed_loop h2 (fun t => by
      rcases hE t with q | q
      · rw [q]; exact .undef
      · rw [q]; exact (h1 t).mono hn))
    exact ⟨fun t => (h1 t).mono (fun c hc => named_set (by simp) c (a3 c (hn c hc))), closed_dead a2 l, fun c hc => named_set (by simp) c (a3 c (hn c (h3 c hc)))⟩
  | yield hy hS hS' hl hn ha hl1 hb hl2 ih1 ih2 =>
    rename_i l args E E1 E2 ps aa bd H H1 H2 pd e S
    intro h1 h2 h3
    obtain ⟨a1, a2, a3⟩ := ih1 (puts_inn (h3.loop _ _ _ _ _ _ _ hl) h2) h3 hS'
    have n1 : ∀ c, H1.named c → (H1.set l (.loop E ps aa bd .busy pd)).named c := named_set (by simp)
    obtain ⟨b1, b2, b3⟩ := ih2 (fun t => (a1 t).mono n1) (closed_loop a2 (fun t => (a2.loop _ _ _ _ _ _ _ hl1 t).mono n1)) (fun c hc => n1 c (a3 c hc))
    have n2 : ∀ c, H2.named c → (H2.set l (.loop E ps aa bd (if e = .normal then .ready else .done) e)).named c := named_set (by simp)
    exact ⟨.bool _, closed_loop b2 (fun t => (b2.loop _ _ _ _ _ _ _ hl2 t).mono n2), fun c hc => n2 c (b3 c (hS c hc))⟩
  | frz hH hn hz hc ih =>
    intro h1 h2 h3
    have hm := dead_named hH
    obtain ⟨a1, a2, a3⟩ := ih (h1.mono hm) (fun x hx => by
      obtain ⟨i, hi, rfl⟩ := List.getElem_of_mem hx
      exact frz_inn h3 hm (hz i (by omega) hi) (h2 _ (List.getElem_mem _))) (dead_closed hH h3)
    exact ⟨a1, a2, fun c q => a3 c (hm c q)⟩
  | borrow hH hn hz hf ha hcl hc0 hx hl hl1 hv hb ih =>
    rename_i Hb H2 H H1 Hb1 v
    intro h1 h2 h3
    obtain ⟨a1, a2, a3⟩ := ih hf ha hcl
    have m1 : ∀ c, H1.named c → Hb1.named c := by
      intro c hc
      rcases hx c with ⟨_, _, e⟩ | ⟨_, e, _⟩
      · simp only [Heap.named, e]; exact hc
      · exact absurd e hc
    have m2 : ∀ c, Hb.named c → Hb1.named c := by
      intro c hc
      rcases hx c with ⟨_, e1, e⟩ | ⟨_, _, e⟩
      · exact m1 c (a3 c (by simp only [Heap.named, ← e1]; exact hc))
      · simp only [Heap.named, e]; exact hc
    refine ⟨a1.mono m1, ⟨fun b sz es hb => ?_, fun b E ps aa bd st pd hb t => ?_⟩, m2⟩
    · rcases hx b with ⟨_, e1, e⟩ | ⟨_, _, e⟩
      · exact els_mono m1 (a2.live b sz es (by rw [← e]; exact hb))
      · exact els_mono m2 (h3.live b sz es (by rw [← e]; exact hb))
    · rcases hx b with ⟨_, e1, e⟩ | ⟨_, _, e⟩
      · exact (a2.loop b _ _ _ _ _ _ (by rw [← e]; exact hb) t).mono m1
      · exact (h3.loop b _ _ _ _ _ _ (by rw [← e]; exact hb) t).mono m2
  | frame hf ha hcl hc0 hx hl0 ih =>
    rename_i H H1 Hb Hb1 v
    intro h1 h2 h3
    obtain ⟨a1, a2, a3⟩ := ih hf ha hcl
    have m1 : ∀ c, H1.named c → Hb1.named c := by
      intro c hc
      rcases hx c with ⟨_, e⟩ | ⟨_, e, _⟩
      · simp only [Heap.named, e]; exact hc
      · exact absurd e hc
    have m2 : ∀ c, Hb.named c → Hb1.named c := by
      intro c hc
      rcases hx c with ⟨e1, e⟩ | ⟨_, _, e⟩
      · exact m1 c (a3 c (by simp only [Heap.named, ← e1]; exact hc))
      · simp only [Heap.named, e]; exact hc
    refine ⟨a1.mono m1, ⟨fun b sz es hb => ?_, fun b E ps aa bd st pd hb t => ?_⟩, m2⟩
    · rcases hx b with ⟨e1, e⟩ | ⟨_, _, e⟩
      · exact els_mono m1 (a2.live b sz es (by rw [← e]; exact hb))
      · exact els_mono m2 (h3.live b sz es (by rw [← e]; exact hb))
    · rcases hx b with ⟨e1, e⟩ | ⟨_, _, e⟩
      · exact (a2.loop b _ _ _ _ _ _ (by rw [← e]; exact hb) t).mono m1
      · exact (h3.loop b _ _ _ _ _ _ (by rw [← e]; exact hb) t).mono m2

/-- May the one come before the other, or behind it? (the first stands ahead in the list) -/
def tempsApart (x y : IOper) : Bool :=
  (match x.dst with | some d => !(y.temps.contains d) && y.dst != some d | none => true) && (match y.dst with | some d => !(x.temps.contains d) | none => true)
def clsApart : Cls → Cls → Bool
  | .pure, _ | _, .pure | .read, .read | .read, .chain | .read, .alloc | .chain, .alloc | .alloc, .alloc => true
  | _, _ => false
def opsApart (x y : IOper) : Bool := tempsApart x y && clsApart x.op.cls y.op.cls

theorem put_other {E : Env} {d : Option Nat} {v : IV} {l : List Nat} (h : ∀ t, d = some t → t ∉ l) : ∀ t ∈ l, (E.putO d v) t = E t := by
  intro t ht
  cases d with
  | none => rfl
  | some d =>
    simp only [Env.putO, Env.put]
    rw [if_neg]
    intro e; subst e; exact h _ rfl ht

theorem put_comm {E : Env} {d d' : Option Nat} {v v' : IV} (h : ∀ t, d = some t → d' ≠ some t) : (E.putO d v).putO d' v' = (E.putO d' v').putO d v := by
  cases d with
  | none => rfl
  | some d =>
    cases d' with
    | none => rfl
    | some d' =>
      have : d ≠ d' := fun e => h d rfl (by rw [e])
      funext t
      simp only [Env.putO, Env.put]
      split
      · rename_i e; subst e; rw [if_neg (Ne.symm this)]
      · rfl

theorem tempsApart_spec {x y : IOper} (h : tempsApart x y = true) : (∀ t, x.dst = some t → t ∉ y.temps) ∧ (∀ t, x.dst = some t → y.dst ≠ some t) ∧ ∀ t, y.dst = some t → t ∉ x.temps := by
  simp only [tempsApart, Bool.and_eq_true] at h
  refine ⟨fun t ht => ?_, fun t ht => ?_, fun t ht => ?_⟩
  · have := h.1; rw [ht] at this; simp at this; exact this.1
  · have := h.1; rw [ht] at this; simp at this; exact this.2
  · have := h.2; rw [ht] at this; simpa using this

/-- What is read, by a step that passes or carries out. -/
theorem step_read {T : Sys} {o : IOper} {E : Env} {H H' : Heap} {v : IV} (hc : o.op.cls = .pure ∨ o.op.cls = .read) (h : Ev T (.step o E H) (.step v H')) :
    H' = H ∧ ((∃ t w b, o.guard = some (t, w) ∧ E t = b ∧ Skips b w ∧ v = .tuple []) ∨ ((∀ t w, o.guard = some (t, w) → E t = .bool w) ∧ iop H E o.op = some v)) := by
  cases h with
  | pass hg hb hw => exact ⟨rfl, .inl ⟨_, _, _, hg, hb, hw, rfl⟩⟩
  | op hg ho =>
    obtain ⟨h1, h2⟩ := HOp.of_pure hc ho
    exact ⟨h2, .inr ⟨hg, h1⟩⟩
  | callOp hg ho hc' => rw [ho] at hc; simp [IOp.cls] at hc
theorem step_again {T : Sys} {o : IOper} {E : Env} {H H' : Heap} {v : IV} (h : (∃ t w b, o.guard = some (t, w) ∧ E t = b ∧ Skips b w ∧ v = .tuple []) ∨ ((∀ t w, o.guard = some (t, w) → E t = .bool w) ∧ iop H E o.op = some v))
    (hi : iop H E o.op = some v → iop H' E o.op = some v) : Ev T (.step o E H') (.step v H') := by
  rcases h with ⟨t, w, b, hg, hb, hw, rfl⟩ | ⟨hg, ho⟩
  · exact .pass hg hb hw
  · exact .op hg (.pure (hi ho))

end Go.Ideal

/- An ideal machine for Go code. Part 18: two operations of a region in the other order. -/
namespace Go.Ideal

variable {T : Sys}

theorem elsOf_alloc {H : Heap} {x : IV} {es : Els} {b : Nat} {s : Slot} (hb : H b = .free) (h : elsOf H x = some es) : elsOf (H.set b s) x = some es := by
  unfold elsOf at h ⊢
  split at h
  · exact h
  · exact h
  · exact h
  · split at h
    · rename_i c o l m1 m2 sl sz es1 hH
      have : c ≠ b := fun q => by subst q; rw [hb] at hH; cases hH
      rw [Heap.set_ne _ _ this, hH]; exact h
    · cases h
  · exact h
  · cases h

theorem live_ne {H : Heap} {b c sz : Nat} {es : Els} (hb : H b = .free) (hc : H c = .live sz es) : c ≠ b := fun q => by subst q; rw [hb] at hc; cases hc
theorem set_live_ne {H : Heap} {b c : Nat} {s : Slot} (hs : s ≠ .free) (hc : (H.set c s) b = .free) : b ≠ c := fun q => by subst q; rw [Heap.set_same] at hc; exact hs hc

theorem HOp.frame {H H' : Heap} {E : Env} {op : IOp} {v : IV} {b : Nat} {s : Slot} (h : HOp H E op v H') (hb : H b = .free) (hb' : H' b = .free) : HOp (H.set b s) E op v (H'.set b s) := by
  have keep : ∀ {c sz es}, H c = .live sz es → (H.set b s) c = .live sz es := fun hc => by rw [Heap.set_ne _ _ (live_ne hb hc)]; exact hc
  have fresh : ∀ {c}, H c = .free → b ≠ c → (H.set b s) c = .free := fun hc hn => by rw [Heap.set_ne _ _ (Ne.symm hn)]; exact hc
  cases h with
  | pure hp => exact .pure (iop_alloc hb hp)
  | box hc hu =>
    have hn := set_live_ne (by simp) hb'
    rw [Heap.set_comm _ _ _ (Ne.symm hn)]
    exact .box (fresh hc hn) hu
  | buildSlice hc hf =>
    have hn := set_live_ne (by simp) hb'
    rw [Heap.set_comm _ _ _ (Ne.symm hn)]
    exact .buildSlice (fresh hc hn) hf
  | makeSlice hc hl hcc hle hn' hbig =>
    have hn := set_live_ne (by simp) hb'
    rw [Heap.set_comm _ _ _ (Ne.symm hn)]
    exact .makeSlice (fresh hc hn) hl hcc hle hn' hbig
  | appendZ hc hs hx hn' hbig =>
    have hn := set_live_ne (by simp) hb'
    rw [Heap.set_comm _ _ _ (Ne.symm hn)]
    exact .appendZ (fresh hc hn) hs hx hn' hbig
  | store hx hH he hu hn ho =>
    rw [Heap.set_comm _ _ _ (live_ne hb hH)]
    exact .store hx (keep hH) he hu hn ho
  | append0 hs hx => exact .append0 hs (elsOf_alloc hb hx)
  | appendNil hc hs hx hne hz hok hbig =>
    have hn := set_live_ne (by simp) hb'
    rw [Heap.set_comm _ _ _ (Ne.symm hn)]
    exact .appendNil (fresh hc hn) hs (elsOf_alloc hb hx) hne hz hok hbig
  | appendFull hc hs hH hl hx hne hz hok hbig =>
    have hn := set_live_ne (by simp) hb'
    rw [Heap.set_comm _ _ _ (Ne.symm hn)]
    exact .appendFull (fresh hc hn) hs (keep hH) hl (elsOf_alloc hb hx) hne hz hok hbig
  | append hc hs hH hl hx hne hz hok hbig =>
    have hn := set_live_ne (by simp) hb'
    rw [Heap.set_comm _ _ _ (Ne.symm hn), Heap.set_comm _ _ _ (live_ne hb hH)]
    exact .append (fresh hc hn) hs (keep hH) hl (elsOf_alloc hb hx) hne hz hok hbig
  | appendIn hs hH hl hlb hx hz hok =>
    rw [Heap.set_comm _ _ _ (live_ne hb hH)]
    exact .appendIn hs (keep hH) hl hlb (elsOf_alloc hb hx) hz hok

theorem step_frame {o : IOper} {E : Env} {H H' : Heap} {v : IV} {b sz : Nat} {es : Els} (h : Ev T (.step o E H) (.step v H')) (hE : E.inn H) (hcl : H.closed) (hb : H b = .free) (hb' : H' b = .free) :
    Ev T (.step o E (H.set b (.live sz es))) (.step v (H'.set b (.live sz es))) := by
  cases h with
  | pass hg hb hw => exact .pass hg hb hw
  | op hg ho => exact .op hg (ho.frame hb hb')
  | callOp hg ho hc =>
    refine .callOp hg ho (.frame (Opd.inn hE _) (fun x hx => ?_) hcl hc (fun c => ?_) ?_)
    · obtain ⟨y, _, rfl⟩ := List.mem_map.mp hx
      exact Opd.inn hE _
    · by_cases e : c = b
      · subst e
        exact .inr ⟨hb, hb', by rw [Heap.set_same, Heap.set_same]⟩
      · exact .inl ⟨by rw [Heap.set_ne _ _ e], by rw [Heap.set_ne _ _ e]⟩
    · refine .inl (fun c q => ?_)
      by_cases e : c = b
      · subst e; rw [Heap.set_same] at q; cases q
      · rw [Heap.set_ne _ _ e]

theorem step_alloc {o : IOper} {E : Env} {H H' : Heap} {v : IV} (hc : o.op.cls = .alloc) (h : Ev T (.step o E H) (.step v H')) :
    (H' = H ∧ ∀ G, Ev T (.step o E G) (.step v G)) ∨ ∃ b sz es, H b = .free ∧ H' = H.set b (.live sz es) ∧ ∀ G : Heap, G b = .free → Ev T (.step o E G) (.step v (G.set b (.live sz es))) := by
  cases h with
  | pass hg hb hw => exact .inl ⟨rfl, fun G => .pass hg hb hw⟩
  | op hg ho =>
    right
    generalize hop : o.op = op at ho hc
    cases ho with
    | pure hp => cases op <;> first | (simp [IOp.cls] at hc; done) | (simp [iop] at hp; done)
    | box hb hu => exact ⟨_, _, _, hb, rfl, fun G hG => .op hg (by rw [hop]; exact .box hG hu)⟩
    | buildSlice hb hf => exact ⟨_, _, _, hb, rfl, fun G hG => .op hg (by rw [hop]; exact .buildSlice hG hf)⟩
    | makeSlice hb hl hcc hle hn hbig => exact ⟨_, _, _, hb, rfl, fun G hG => .op hg (by rw [hop]; exact .makeSlice hG hl hcc hle hn hbig)⟩
    | appendZ hb hs hx hn hbig => exact ⟨_, _, _, hb, rfl, fun G hG => .op hg (by rw [hop]; exact .appendZ hG hs hx hn hbig)⟩
    | _ => simp [IOp.cls] at hc
  | callOp hg ho hc' => rw [ho] at hc; simp [IOp.cls] at hc

theorem swap {oj oi : IOper} {E : Env} {H Hj Hi : Heap} {vj vi : IV} (hap : opsApart oj oi = true) (hE : E.inn H) (hcl : H.closed) (h1 : Ev T (.step oj E H) (.step vj Hj)) (h2 : Ev T (.step oi (E.putO oj.dst vj) Hj) (.step vi Hi))
    (hheld : oj.op.cls = .read → oi.op.cls = .chain → (∀ t w, oj.guard = some (t, w) → E t = .bool w) → iop Hi E oj.op = some vj) :
    ∃ H', Ev T (.step oi E H) (.step vi H') ∧ Ev T (.step oj (E.putO oi.dst vi) H') (.step vj Hi) := by
  simp only [opsApart, Bool.and_eq_true] at hap
  obtain ⟨ht, hk⟩ := hap
  obtain ⟨t1, t2, t3⟩ := tempsApart_spec ht
  have h2' : Ev T (.step oi E Hj) (.step vi Hi) := step_congr (put_other t1) h2
  have back : ∀ {G G'}, Ev T (.step oj E G) (.step vj G') → Ev T (.step oj (E.putO oi.dst vi) G) (.step vj G') := fun h => step_congr (fun t ht => (put_other t3 t ht).symm) h
  by_cases pj : oj.op.cls = .pure
  · obtain ⟨e, hr⟩ := step_read (.inl pj) h1
    subst e
    exact ⟨Hi, h2', back (step_again hr (fun h => by rw [← iop_pure pj]; exact h))⟩
  by_cases pi : oi.op.cls = .pure
  · obtain ⟨e, hr⟩ := step_read (.inl pi) h2'
    subst e
    exact ⟨H, step_again hr (fun h => by rw [← iop_pure pi]; exact h), back h1⟩
  by_cases rj : oj.op.cls = .read
  · obtain ⟨e, hr⟩ := step_read (.inr rj) h1
    subst e
    refine ⟨Hi, h2', back ?_⟩
    by_cases ci : oi.op.cls = .chain
    · rcases hr with ⟨t, w, b, hg, hb, hw, rfl⟩ | ⟨hg, ho⟩
      · exact .pass hg hb hw
      · exact step_again (.inr ⟨hg, ho⟩) (fun _ => hheld rj ci hg)
    by_cases ri : oi.op.cls = .read
    · obtain ⟨e, _⟩ := step_read (.inr ri) h2'
      subst e
      exact step_again hr id
    · have ai : oi.op.cls = .alloc := by cases hq : oi.op.cls <;> simp_all
      rcases step_alloc ai h2' with ⟨rfl, _⟩ | ⟨b, sz, es, hb, rfl, _⟩
      · exact step_again hr id
      · exact step_again hr (fun h => iop_alloc hb h)
  · have ai : oi.op.cls = .alloc := by
      revert hk pj pi rj
      cases oi.op.cls <;> cases oj.op.cls <;> simp [clsApart]
    rcases step_alloc ai h2' with ⟨rfl, hG⟩ | ⟨b, sz, es, hb, rfl, hG⟩
    · exact ⟨H, hG H, back h1⟩
    · have hbf : H b = .free := by
        by_cases q : H b = .free
        · exact q
        · exact absurd hb ((h1.good hE hcl).2.2 b q)
      exact ⟨H.set b (.live sz es), hG H hbf, back (step_frame h1 hE hcl hbf hb)⟩

/-- A list of what was read may give way to another one that asks less. -/
theorem held_weak {ops : List IOper} {anc l : List Nat} {held : List (Nat × Env × IV)} {E E1 : Env} {H H1 : Heap} (h : Ev T (.draw ops anc l held E H) (.ops E1 H1)) :
    ∀ {held' : List (Nat × Env × IV)}, (∀ h' ∈ held', ∃ h ∈ held, h.1 = h'.1 ∧ ∀ G, heldOk ops G h → heldOk ops G h') → Ev T (.draw ops anc l held' E H) (.ops E1 H1) := by
  induction l generalizing held E H with
  | nil => intro held' _; cases h; exact .drawNil
  | cons i l ih =>
    intro held' hw
    cases h with
    | drawCons hi hs hh hr =>
      refine .drawCons hi hs (fun hc h' hm ha => ?_) (ih hr ?_)
      · obtain ⟨h, hm', e, hok⟩ := hw h' hm
        exact hok _ (hh hc h hm' (by rw [e]; exact ha))
      · intro h' hm
        split at hm
        · rename_i hc
          rcases List.mem_cons.mp hm with rfl | hm
          · exact ⟨_, by rw [if_pos hc]; exact List.mem_cons_self, rfl, fun _ h => h⟩
          · obtain ⟨h, hm', e, hok⟩ := hw h' hm
            exact ⟨h, by rw [if_pos hc]; exact List.mem_cons_of_mem _ hm', e, hok⟩
        · rename_i hc
          obtain ⟨h, hm', e, hok⟩ := hw h' hm
          exact ⟨h, by rw [if_neg hc]; exact hm', e, hok⟩

theorem heldOk_congr {ops : List IOper} {G : Heap} {i : Nat} {o : IOper} {E E' : Env} {v : IV} (hi : ops[i]? = some o) (hE : ∀ t ∈ o.temps, E t = E' t) (h : heldOk ops G (i, E, v)) : heldOk ops G (i, E', v) := by
  intro o' ho' hg
  simp only at ho' hg ⊢
  rw [hi] at ho'
  obtain rfl := Option.some.inj ho'
  rw [← iop_congr (fun t ht => hE t (by simp [IOper.temps, ht]))]
  exact h o hi (fun t w e => by simp only; rw [guard_congr hE e]; exact hg t w e)

/-- An operation that waits for none of those ahead of it may come first. -/
theorem front {ops : List IOper} {anc : List Nat} {i : Nat} : ∀ {l : List Nat} {held : List (Nat × Env × IV)} {E E1 : Env} {H H1 : Heap}, Ev T (.draw ops anc l held E H) (.ops E1 H1) → E.inn H → H.closed → i ∈ l → l.Nodup →
    (∀ j ∈ l, j ≠ i → (anc.getD i 0).testBit j = false) → (∀ l1 l2, l = l1 ++ i :: l2 → ∀ j ∈ l1, ∀ x y, ops[j]? = some x → ops[i]? = some y → opsApart x y = true) →
    ∃ o v H', ops[i]? = some o ∧ Ev T (.step o E H) (.step v H') ∧ (o.op.cls = .chain → ∀ h ∈ held, (anc.getD i 0).testBit h.1 = false → heldOk ops H' h) ∧
      Ev T (.draw ops anc (l.erase i) (if o.op.cls = .read then (i, E, v) :: held else held) (E.putO o.dst v) H') (.ops E1 H1) := by
  intro l
  induction l with
  | nil => intro held E E1 H H1 _ _ _ hi; cases hi
  | cons j l ih =>
    intro held E E1 H H1 h hE hcl hi hnd hanc hap
    cases h with
    | drawCons hj hs hh hr =>
      rename_i vj Hj oj
      by_cases e : j = i
      · subst e
        exact ⟨oj, vj, Hj, hj, hs, hh, by rw [List.erase_cons_head]; exact hr⟩
      · have hil : i ∈ l := by
          rcases List.mem_cons.mp hi with q | q
          · exact absurd q.symm e
          · exact q
        obtain ⟨g1, g2, g3⟩ := hs.good hE hcl
        obtain ⟨oi, vi, Hi, hoi, hsi, hhi, hri⟩ := ih hr (Env.inn_put (Env.inn_mono hE g3) g1 _) g2 hil (List.nodup_cons.mp hnd).2 (fun k hk hne => hanc k (List.mem_cons_of_mem _ hk) hne)
          (fun l1 l2 el k hk x y hx hy => hap (j :: l1) l2 (by rw [el]; rfl) k (List.mem_cons_of_mem _ hk) x y hx hy)
        have hapij : opsApart oj oi = true := by
          obtain ⟨l1, l2, el⟩ := List.append_of_mem hil
          exact hap (j :: l1) l2 (by rw [el]; rfl) j List.mem_cons_self oj oi hj hoi
        have hap2 := hapij
        simp only [opsApart, Bool.and_eq_true] at hap2
        obtain ⟨t1, t2, t3⟩ := tempsApart_spec hap2.1
        have hji : (anc.getD i 0).testBit j = false := hanc j List.mem_cons_self e
        obtain ⟨H', s1, s2⟩ := swap hapij hE hcl hs hsi (fun rj ci hg => by
          have := hhi ci (j, E, vj) (by rw [if_pos rj]; exact List.mem_cons_self) hji
          exact this oj hj hg)
        refine ⟨oi, vi, H', hoi, s1, fun ci h hm ha => ?_, ?_⟩
        · -- what was read before is still so
          have hjc : oj.op.cls = .pure ∨ oj.op.cls = .read := by
            have := hap2.2
            rw [ci] at this
            revert this
            cases oj.op.cls <;> simp [clsApart]
          have : heldOk ops Hi h := hhi ci h (by split; exact List.mem_cons_of_mem _ hm; exact hm) ha
          have e2 : Hi = H' := (step_read hjc s2).1
          rw [← e2]; exact this
        · have en : (j :: l).erase i = j :: l.erase i := by rw [List.erase_cons_tail (by simpa using e)]
          rw [en]
          refine .drawCons hj s2 (fun cj h hm ha => ?_) ?_
          · -- j writes: i is a block laid, or pure, or ..
            have hic : oi.op.cls = .pure ∨ oi.op.cls = .alloc := by
              have := hap2.2
              rw [cj] at this
              revert this
              cases oi.op.cls <;> simp [clsApart]
            have hm' : h ∈ held := by
              rcases hic with q | q <;> (rw [if_neg (by rw [q]; simp)] at hm; exact hm)
            have old : heldOk ops Hj h := hh cj h hm' ha
            have hsi' : Ev T (.step oi E Hj) (.step vi Hi) := step_congr (put_other t1) hsi
            rcases hic with q | q
            · rw [(step_read (.inl q) hsi').1]; exact old
            · rcases step_alloc q hsi' with ⟨rfl, _⟩ | ⟨b, sz, es, hb, rfl, _⟩
              · exact old
              · intro o ho hg
                exact iop_alloc hb (old o ho hg)
          · rw [put_comm (fun t ht q => t2 t q ht)]
            refine held_weak hri (fun h' hm => ?_)
            have back : ∀ h', h' ∈ held → ∃ h, h ∈ (if oi.op.cls = .read then (i, E.putO oj.dst vj, vi) :: (if oj.op.cls = .read then (j, E, vj) :: held else held) else if oj.op.cls = .read then (j, E, vj) :: held else held) ∧ h.1 = h'.1 ∧ ∀ G, heldOk ops G h → heldOk ops G h' := by
              intro h' hm
              refine ⟨h', ?_, rfl, fun _ h => h⟩
              split <;> split <;> simp [hm]
            have ofI : oi.op.cls = .read → ∃ h, h ∈ (if oi.op.cls = .read then (i, E.putO oj.dst vj, vi) :: (if oj.op.cls = .read then (j, E, vj) :: held else held) else if oj.op.cls = .read then (j, E, vj) :: held else held) ∧ h.1 = i ∧ ∀ G, heldOk ops G h → heldOk ops G (i, E, vi) := by
              intro ri
              exact ⟨(i, E.putO oj.dst vj, vi), by simp [ri], rfl, fun G h => heldOk_congr hoi (fun t ht => put_other t1 t ht) h⟩
            have ofJ : oj.op.cls = .read → ∃ h, h ∈ (if oi.op.cls = .read then (i, E.putO oj.dst vj, vi) :: (if oj.op.cls = .read then (j, E, vj) :: held else held) else if oj.op.cls = .read then (j, E, vj) :: held else held) ∧ h.1 = j ∧ ∀ G, heldOk ops G h → heldOk ops G (j, E.putO oi.dst vi, vj) := by
              intro rj
              exact ⟨(j, E, vj), by split <;> simp [rj], rfl, fun G h => heldOk_congr hj (fun t ht => (put_other t3 t ht).symm) h⟩
            split at hm
            · rename_i rj
              rcases List.mem_cons.mp hm with rfl | hm
              · exact ofJ rj
              · split at hm
                · rename_i ri
                  rcases List.mem_cons.mp hm with rfl | hm
                  · exact ofI ri
                  · exact back _ hm
                · exact back _ hm
            · split at hm
              · rename_i ri
                rcases List.mem_cons.mp hm with rfl | hm
                · exact ofI ri
                · exact back _ hm
              · exact back _ hm

end Go.Ideal

/- An ideal machine for Go code. Part 19: memory that is given up is frozen. -/
namespace Go.Ideal
open Go.RowKit Classical

section
variable {n0 : Nat} {w0 : World} {Φ X : Frozen} {μ : Places} {H H1 H2 : Heap} {w : World}

/-- Is it a cell of a block that is given up? -/
def GivenUp (μ : Places) (H1 H2 : Heap) (k i : Nat) : Prop := ∃ b sz es L, H1 b = .live sz es ∧ (∀ sz es, H2 b ≠ .live sz es) ∧ μ b = some L ∧ L.rb = k ∧ L.ro ≤ i ∧ i < L.ro + L.ext
noncomputable def frozenOf (Φ : Frozen) (μ : Places) (H1 H2 : Heap) (w : World) : Frozen := fun k i => match Φ k i with
  | some v => some v
  | none => if GivenUp μ H1 H2 k i then w.cell? ⟨k, i, none⟩ else none

theorem frozenOf_le : ∀ k i v, Φ k i = some v → frozenOf Φ μ H1 H2 w k i = some v := by
  intro k i v h
  simp [frozenOf, h]

theorem frz_vr (hW : WR n0 w0 Φ X μ H1 w) {x y : IV} (h : Frz H1 H2 x y) : ∀ {v : Value}, VR Φ μ x v → VR (frozenOf Φ μ H1 H2 w) μ y v := by
  induction h with
  | refl x => exact fun hx => hx.mono frozenOf_le (fun _ _ h => h)
  | nil => intro v hx; cases hx; exact .fnil _
  | @mslice b off len lb sz ex es es' hH hH' hl hn hle hv ih =>
    intro v hx
    cases hx with
    | mslice _ _ _ _ _ L cap hL hlen hlb hex hext =>
      obtain ⟨s1, s2, s3, s4, s5⟩ := hW.sz b sz es L hH hL
      subst hn
      have hes : ∀ (j : Nat) (hj : j < es'.length), es'[j].length = sz := fun j hj => by rw [hle j hj (by omega)]; exact s4 _ (List.getElem_mem _)
      have hval := hW.val b sz es L hH hL
      refine VR.fslice es' sz L.rb (L.ro + off * L.sz) cap
        (fun j k => if h : off + j < es.length then (if h' : k < es[off + j].length then Classical.choose (hval (off + j) k h h') else undef) else undef) (fun e he => ?_) hlen (fun j k hj hk => ?_) (fun j k hj hk => ?_)
      · obtain ⟨j, hj, rfl⟩ := List.getElem_of_mem he
        exact hes j hj
      · have h1 : off + j < es.length := by omega
        have h2 : k < es[off + j].length := by rw [← hle j hj h1]; exact hk
        simp only [h1, h2, dif_pos]
        have hsp := (Classical.choose_spec (hval (off + j) k h1 h2)).1
        have hks : k < sz := by rw [← hes j hj]; exact hk
        have e : L.ro + off * L.sz + j * sz + k = L.ro + (off + j) * sz + k := by rw [s1, Nat.add_mul]; omega
        have hlt := flat_lt h1 hks
        have hin : (off + j) * sz + k < L.ext := by omega
        rw [e]
        unfold frozenOf
        have hnone : Φ L.rb (L.ro + (off + j) * sz + k) = none := by rw [Nat.add_assoc]; exact hW.fdisj b sz es L hH hL _ hin
        rw [hnone]
        simp only
        rw [if_pos ⟨b, sz, es, L, hH, hH', hL, rfl, by omega, by omega⟩]
        exact hsp
      · have h1 : off + j < es.length := by omega
        have h2 : k < es[off + j].length := by rw [← hle j hj h1]; exact hk
        simp only [h1, h2, dif_pos]
        exact ih j k hj h1 hk h2 (Classical.choose_spec (hval (off + j) k h1 h2)).2
  | @agg cs cs' hn hv ih =>
    intro v hx
    cases hx with
    | agg _ vs hc hvv => exact .agg _ _ (by omega) (fun i h h' => ih i (by omega) h (hvv i (by omega) h'))
  | @tuple cs cs' hn hv ih =>
    intro v hx
    cases hx with
    | tuple _ vs hc hvv => exact .tuple _ _ (by omega) (fun i h h' => ih i (by omega) h (hvv i (by omega) h'))
  | @func fn fs fs' cs cs' hn hv hm hw ih1 ih2 =>
    intro v hx
    cases hx with
    | func _ _ _ vs us hf hc hfv hcv => exact .func _ _ _ _ _ (by omega) (by omega) (fun i h h' => ih1 i (by omega) h (hfv i (by omega) h')) (fun i h h' => ih2 i (by omega) h (hcv i (by omega) h'))

noncomputable def Places.only (μ : Places) (H : Heap) : Places := fun b => if H b = .free then none else μ b
theorem Places.only_of {μ : Places} {H : Heap} {b : Nat} {L : Loc} (h : H.named b) (hb : μ b = some L) : μ.only H b = some L := by
  simp only [Places.only]; rw [if_neg h]; exact hb
theorem Places.only_some {μ : Places} {H : Heap} {b : Nat} {L : Loc} (h : μ.only H b = some L) : H b ≠ .free ∧ μ b = some L := by
  simp only [Places.only] at h
  split at h
  · cases h
  · exact ⟨by assumption, h⟩

theorem VR.inn {x : IV} {v : Value} (h : VR Φ μ x v) : Inn (fun b => (μ b).isSome = true) x := by
  induction h with
  | undef v => exact .undef
  | bool b => exact .bool b
  | int k n => exact .int k n
  | str s => exact .str s
  | nilptr => exact .nilptr
  | ptr b i off L h => exact .ptr b i off (by rw [h]; rfl)
  | cptr es i off sz rb ro vs hs hf hv ih => exact .cptr es i off ih
  | nilslice => exact .nilslice
  | eslice a => exact .eslice
  | fnil _ => exact .fslice _ (fun j k hj => by simp at hj)
  | fslice es sz rb ro cap vs hs hc hf hv ih => exact .fslice es ih
  | mslice b off len lb ex L cap h hl hlb hex he => exact .mslice _ _ _ _ _ (by rw [h]; rfl)
  | func fn fs cs fs' cs' hf hc hfv hcv ih1 ih2 => exact .func fn fs cs (fun i h => ih1 i h (by omega)) (fun i h => ih2 i h (by omega))
  | yield l L h => exact .yield _ (by rw [h]; rfl)
  | nilfunc => exact .nilfunc
  | agg cs cs' hc hv ih => exact .agg cs (fun i h => ih i h (by omega))
  | tuple cs cs' hc hv ih => exact .tuple cs (fun i h => ih i h (by omega))

theorem WR.named_inn (hW : WR n0 w0 Φ X μ H w) {x : IV} {v : Value} (h : VR Φ μ x v) : Inn H.named x := h.inn.mono (fun b hb => (hW.dom b).mp hb)
theorem WR.closedL (hW : WR n0 w0 Φ X μ H w) : ∀ b sz es, H b = .live sz es → ∀ (j k : Nat) (h : j < es.length) (h' : k < es[j].length), Inn H.named es[j][k] := by
  intro b sz es hH j k hj hk
  obtain ⟨L, hL⟩ := Option.isSome_iff_exists.mp ((hW.dom b).mpr (by rw [hH]; simp))
  obtain ⟨v, _, hv⟩ := hW.val b sz es L hH hL j k hj hk
  exact hW.named_inn hv
theorem AR.inn (hW : WR n0 w0 Φ X μ H w) {nt : Nat} {E : Env} {a : Act} (hA : AR Φ μ nt E a) : E.inn H := fun t => hW.named_inn (hA.val t)

/-- Memory that is given up, or frozen. -/
structure TrimF (H1 H2 : Heap) : Prop where
  keep : ∀ b, FrzS H1 H2 (H1 b) (H2 b) ∨ H2 b = .free ∨ (H2 b = .dead ∧ H1 b ≠ .free)
  inn : ∀ b sz es, H2 b = .live sz es → ∀ (j k : Nat) (h : j < es.length) (h' : k < es[j].length), Inn H2.named es[j][k]
theorem WR.trimF (hW : WR n0 w0 Φ X μ H1 w) (ht : TrimF H1 H2) : WR n0 w0 (frozenOf Φ μ H1 H2 w) X (μ.only H2) H2 w := by
  have live : ∀ {b sz es}, H2 b = .live sz es → ∃ es0, H1 b = .live sz es0 ∧ es.length = es0.length ∧ (∀ (j : Nat) (h : j < es0.length) (h' : j < es.length), es[j].length = es0[j].length) ∧
      ∀ (j k : Nat) (h : j < es0.length) (h' : j < es.length) (hk : k < es0[j].length) (hk' : k < es[j].length), Frz H1 H2 es0[j][k] es[j][k] := by
    intro b sz es h
    rcases ht.keep b with e | e | ⟨e, _⟩
    · rw [h] at e
      generalize hs : H1 b = s1 at e
      cases e with
      | refl => exact ⟨es, rfl, rfl, fun _ _ _ => rfl, fun _ _ _ _ _ _ => .refl _⟩
      | live hn hle hv => exact ⟨_, rfl, hn, hle, hv⟩
    · rw [e] at h; cases h
    · rw [e] at h; cases h
  have nam : ∀ b, H2 b ≠ .free → H1 b ≠ .free := by
    intro b h
    rcases ht.keep b with e | e | ⟨_, e⟩
    · generalize hs : H1 b = s1 at e
      generalize hs2 : H2 b = s2 at e h
      cases e with
      | refl => exact h
      | live => simp
    · exact absurd e h
    · exact e
  refine ⟨hW.n0le, hW.base, fun k i v h => ?_, hW.xz, fun k i v h => ?_, fun b => ?_, hW.nofr, fun b sz es L h hL => ?_, fun b sz es L h hL => ?_,
    fun b sz es L h hL i j hi hj => ?_, fun b b' sz sz' es es' L L' hne h h' hL hL' => ?_, fun b sz es L h hL k hk => ?_,
    fun b sz es L h hL => ?_⟩
  · unfold frozenOf at h
    split at h
    · rename_i u hu
      obtain rfl := Option.some.inj h
      exact hW.fz k i _ hu
    · split at h
      · exact h
      · cases h
  · unfold frozenOf
    rw [hW.xf k i v h]
    simp only
    rw [if_neg]
    rintro ⟨b, sz, es, L, q1, q2, q3, rfl, q5, q6⟩
    have := hW.xdisj b sz es L q1 q3 (i - L.ro) (by omega)
    rw [show L.ro + (i - L.ro) = i by omega, h] at this
    cases this
  · simp only [Places.only]
    split
    · rename_i e; simp [e]
    · rename_i e; exact ⟨fun _ => e, fun _ => (hW.dom b).mpr (nam b e)⟩
  · obtain ⟨es0, g1, g2, g3, _⟩ := live h
    obtain ⟨a1, a2, a3, a4, a5⟩ := hW.sz b sz es0 L g1 (Places.only_some hL).2
    refine ⟨a1, a2, a3, fun e he => ?_, by rw [g2]; exact a5⟩
    obtain ⟨j, hj, rfl⟩ := List.getElem_of_mem he
    rw [g3 j (by omega) hj]
    exact a4 _ (List.getElem_mem _)
  · obtain ⟨es0, g1, _⟩ := live h
    exact hW.cell b sz es0 L g1 (Places.only_some hL).2
  · obtain ⟨es0, g1, g2, g3, g4⟩ := live h
    have hj0 : j < es0[i].length := by rw [← g3 i (by omega) hi]; exact hj
    obtain ⟨u, h1, h2⟩ := hW.val b sz es0 L g1 (Places.only_some hL).2 i j (by omega) hj0
    exact ⟨u, h1, (frz_vr hW (g4 i j (by omega) hi hj0 hj) h2).narrow (S := H2.named) (fun c M hc hM => Places.only_of hc hM) (ht.inn b sz es h i j hi hj)⟩
  · obtain ⟨es0, g1, _⟩ := live h
    obtain ⟨es1, g2, _⟩ := live h'
    exact hW.disj b b' sz sz' es0 es1 L L' hne g1 g2 (Places.only_some hL).2 (Places.only_some hL').2
  · obtain ⟨es0, g1, _⟩ := live h
    have h0 := hW.fdisj b sz es0 L g1 (Places.only_some hL).2 k hk
    unfold frozenOf
    rw [h0]
    simp only
    rw [if_neg]
    rintro ⟨b', sz', es', L', q1, q2, q3, q4, q5, q6⟩
    by_cases e : b' = b
    · subst e; exact q2 _ _ h
    · rcases hW.disj b b' sz sz' es0 es' L L' (Ne.symm e) g1 q1 (Places.only_some hL).2 q3 (by omega) (by omega) with d | d | d
      · exact d q4.symm
      · omega
      · omega
  · obtain ⟨es0, g1, _⟩ := live h
    exact hW.xdisj b sz es0 L g1 (Places.only_some hL).2

/-- Behind a call: its own memory is forgotten, what of it was handed back is frozen. -/
theorem WR.trim (hW : WR n0 w0 Φ X μ H1 w) {v : IV} (ht : Trim H H1 H2 v) (hcl : ∀ b sz es, H b = .live sz es → ∀ (j k : Nat) (h : j < es.length) (h' : k < es[j].length), Inn H.named es[j][k]) : WR n0 w0 (frozenOf Φ μ H1 H2 w) X (μ.only H2) H2 w := by
  refine hW.trimF ⟨fun b => ?_, fun b sz es h i j hi hj => ?_⟩
  · rcases ht.keep b with e | ⟨e, _⟩ | e
    · exact .inl (by rw [e]; exact .refl _)
    · exact .inr (.inl e)
    · exact .inr (.inr e)
  · rcases ht.inn b sz es h with e | e
    · exact (hcl b sz es e i j hi hj).mono (fun c hc => ht.named c hc)
    · exact e i j hi hj

end
end Go.Ideal

/- An ideal machine for Go code. Part 20: calls in a smaller memory, and in a greater one. -/
namespace Go.Ideal
open Go.RowKit Classical

section
variable {n0 : Nat} {w0 : World} {Φ X : Frozen} {μ : Places} {H Hh H1 H' : Heap} {w w1 : World}

/-- More is frozen, more is named, no block has gone. -/
structure Ext (Φ Φ' : Frozen) (μ μ' : Places) (w w' : World) : Prop where
  fr : ∀ k i v, Φ k i = some v → Φ' k i = some v
  pl : ∀ b L, μ b = some L → μ' b = some L
  size : w.heap.size ≤ w'.heap.size
  df : ∀ (k : Nat) (d : Option (List Deferred)), w.heap[k]? = some (.deferred d) → w'.heap[k]? = some (.deferred d)
  lp : ∀ (k : Nat) (r : Loop), w.heap[k]? = some (.loop r) → ∃ r', w'.heap[k]? = some (.loop r')
theorem Ext.refl (Φ : Frozen) (μ : Places) (w : World) : Ext Φ Φ μ μ w w := ⟨fun _ _ _ h => h, fun _ _ h => h, Nat.le_refl _, fun _ _ h => h, fun _ r h => ⟨r, h⟩⟩
theorem Ext.trans {Φ' Φ'' : Frozen} {μ' μ'' : Places} {w' w'' : World} (h : Ext Φ Φ' μ μ' w w') (k : Ext Φ' Φ'' μ' μ'' w' w'') : Ext Φ Φ'' μ μ'' w w'' :=
  ⟨fun a b c q => k.fr _ _ _ (h.fr a b c q), fun a b q => k.pl _ _ (h.pl a b q), Nat.le_trans h.size k.size, fun i d q => k.df i d (h.df i d q), fun i r q => let ⟨r', q'⟩ := h.lp i r q; k.lp i r' q'⟩

variable {Hb Hb1 : Heap}
def Extra (H Hb : Heap) (b : Nat) : Prop := H b = .free ∧ Hb b ≠ .free
def ExtraCell (μ : Places) (H Hb : Heap) (k i : Nat) : Prop := ∃ b sz es L, Extra H Hb b ∧ Hb b = .live sz es ∧ μ b = some L ∧ L.rb = k ∧ L.ro ≤ i ∧ i < L.ro + L.ext
noncomputable def withExtra (X : Frozen) (μ : Places) (H Hb : Heap) (w : World) : Frozen := fun k i => match X k i with
  | some v => some v
  | none => if ExtraCell μ H Hb k i then w.cell? ⟨k, i, none⟩ else none

theorem withExtra_in (hW : WR n0 w0 Φ X μ Hb w) {b sz : Nat} {es : Els} {L : Loc} (he : Extra H Hb b) (h : Hb b = .live sz es) (hL : μ b = some L) {k : Nat} (hk : k < L.ext) : ∃ v, w.cell? ⟨L.rb, L.ro + k, none⟩ = some v ∧ withExtra X μ H Hb w L.rb (L.ro + k) = some v := by
  obtain ⟨v, hv⟩ := hW.cell b sz es L h hL k hk
  refine ⟨v, hv, ?_⟩
  unfold withExtra
  rw [hW.xdisj b sz es L h hL k hk]
  simp only
  rw [if_pos ⟨b, sz, es, L, he, h, hL, rfl, by omega, by omega⟩]
  exact hv

theorem WR.shrink (hW : WR n0 w0 Φ X μ Hb w) (hcl : H.closed) (hx : ∀ b, Hb b = H b ∨ H b = .free) : WR n0 w0 Φ (withExtra X μ H Hb w) (μ.only H) H w := by
  have live : ∀ {b}, H b ≠ .free → Hb b = H b := by
    intro b h
    rcases hx b with e | e
    · exact e
    · exact absurd e h
  have liv : ∀ {b sz es}, H b = .live sz es → Hb b = .live sz es := fun h => by rw [live (by rw [h]; simp), h]
  refine ⟨hW.n0le, hW.base, hW.fz, fun k i v h => ?_, fun k i v h => ?_, fun b => ?_, hW.nofr, fun b sz es L h hL => hW.sz b sz es L (liv h) (Places.only_some hL).2, fun b sz es L h hL => hW.cell b sz es L (liv h) (Places.only_some hL).2,
    fun b sz es L h hL i j hi hj => ?_, fun b b' sz sz' es es' L L' hne h h' hL hL' => hW.disj b b' sz sz' es es' L L' hne (liv h) (liv h') (Places.only_some hL).2 (Places.only_some hL').2, fun b sz es L h hL => hW.fdisj b sz es L (liv h) (Places.only_some hL).2,
    fun b sz es L h hL k hk => ?_⟩
  · unfold withExtra at h
    split at h
    · rename_i u hu
      obtain rfl := Option.some.inj h
      exact hW.xz k i _ hu
    · split at h
      · exact h
      · cases h
  · unfold withExtra at h
    split at h
    · rename_i u hu
      exact hW.xf k i _ hu
    · split at h
      · rename_i hq
        obtain ⟨b, sz, es, L, q1, q2, q3, rfl, q5, q6⟩ := hq
        have := hW.fdisj b sz es L q2 q3 (i - L.ro) (by omega)
        rw [show L.ro + (i - L.ro) = i by omega] at this
        exact this
      · cases h
  · simp only [Places.only]
    split
    · rename_i e; simp [e]
    · rename_i e; exact ⟨fun _ => e, fun _ => (hW.dom b).mpr (by rw [live e]; exact e)⟩
  · obtain ⟨u, h1, h2⟩ := hW.val b sz es L (liv h) (Places.only_some hL).2 i j hi hj
    exact ⟨u, h1, h2.narrow (S := H.named) (fun c M hc hM => Places.only_of hc hM) (hcl.live b sz es h i j hi hj)⟩
  · have h0 := hW.xdisj b sz es L (liv h) (Places.only_some hL).2 k hk
    unfold withExtra
    rw [h0]
    simp only
    rw [if_neg]
    rintro ⟨b', sz', es', L', q0, q1, q3, q4, q5, q6⟩
    have hne : b ≠ b' := fun e => by subst e; rw [q0.1] at h; cases h
    rcases hW.disj b b' sz sz' es es' L L' hne (liv h) q1 (Places.only_some hL).2 q3 (by omega) (by omega) with d | d | d
    · exact d q4.symm
    · omega
    · omega

theorem WR.enlarge (hW : WR n0 w0 Φ X μ Hb w) {Φ1 : Frozen} {μ1 : Places} (hW1 : WR n0 w0 Φ1 (withExtra X μ H Hb w) μ1 H1 w1) (hext : Ext Φ Φ1 (μ.only H) μ1 w w1)
    (hx : ∀ b, (Hb b = H b ∧ Hb1 b = H1 b) ∨ (H b = .free ∧ H1 b = .free ∧ Hb1 b = Hb b)) :
    ∃ μ2, WR n0 w0 Φ1 X μ2 Hb1 w1 ∧ (∀ b L, μ1 b = some L → μ2 b = some L) ∧ ∀ b L, μ b = some L → μ2 b = some L := by
  let μ2 : Places := fun b => if Extra H Hb b then μ b else μ1 b
  have e1 : ∀ b, Extra H Hb b → H1 b = .free ∧ Hb1 b = Hb b ∧ μ2 b = μ b := by
    intro b he
    rcases hx b with ⟨q, _⟩ | ⟨q1, q2, q3⟩
    · exact absurd (by rw [q]; exact he.1) he.2
    · exact ⟨q2, q3, if_pos he⟩
  have e2 : ∀ b, ¬ Extra H Hb b → Hb1 b = H1 b ∧ μ2 b = μ1 b ∧ Hb b = H b := by
    intro b he
    rcases hx b with ⟨q, q'⟩ | ⟨q1, q2, q3⟩
    · exact ⟨q', if_neg he, q⟩
    · have q4 : Hb b = .free := Classical.byContradiction fun q => he ⟨q1, q⟩
      exact ⟨by rw [q3, q4, q2], if_neg he, by rw [q4, q1]⟩
  have m1 : ∀ b L, μ1 b = some L → μ2 b = some L := by
    intro b L h
    by_cases he : Extra H Hb b
    · have := (hW1.dom b).mp (by rw [h]; rfl)
      exact absurd (e1 b he).1 this
    · rw [(e2 b he).2.1]; exact h
  have m2 : ∀ b L, μ b = some L → μ2 b = some L := by
    intro b L h
    by_cases he : Extra H Hb b
    · rw [(e1 b he).2.2]; exact h
    · refine m1 b L (hext.pl b L (Places.only_of ?_ h))
      have : Hb b ≠ .free := (hW.dom b).mp (by rw [h]; rfl)
      rw [(e2 b he).2.2] at this
      exact this
  have liv : ∀ b sz es L, Hb1 b = .live sz es → μ2 b = some L → (Extra H Hb b ∧ Hb b = .live sz es ∧ μ b = some L) ∨ (¬ Extra H Hb b ∧ H1 b = .live sz es ∧ μ1 b = some L) := by
    intro b sz es L h hL
    by_cases he : Extra H Hb b
    · obtain ⟨_, q1, q2⟩ := e1 b he
      exact .inl ⟨he, by rw [← q1]; exact h, by rw [← q2]; exact hL⟩
    · obtain ⟨q1, q2, _⟩ := e2 b he
      exact .inr ⟨he, by rw [← q1]; exact h, by rw [← q2]; exact hL⟩
  have apart : ∀ b b' sz sz' es es' L L', Extra H Hb b → Hb b = .live sz es → H1 b' = .live sz' es' → μ b = some L → μ1 b' = some L' → 0 < L.ext → 0 < L'.ext → L.rb ≠ L'.rb ∨ L.ro + L.ext ≤ L'.ro ∨ L'.ro + L'.ext ≤ L.ro := by
    intro b b' sz sz' es es' L L' he h h' hL hL' p1 p2
    apply Classical.byContradiction
    intro hn
    have e : L.rb = L'.rb := Classical.byContradiction fun q => hn (.inl q)
    have q1 : L'.ro < L.ro + L.ext := by omega
    have q2 : L.ro < L'.ro + L'.ext := by omega
    obtain ⟨v, _, hv⟩ := withExtra_in hW he h hL (k := max L.ro L'.ro - L.ro) (by omega)
    have := hW1.xdisj b' sz' es' L' h' hL' (max L.ro L'.ro - L'.ro) (by omega)
    rw [show L'.ro + (max L.ro L'.ro - L'.ro) = L.ro + (max L.ro L'.ro - L.ro) by omega, ← e, hv] at this
    cases this
  have xle : ∀ k i v, X k i = some v → withExtra X μ H Hb w k i = some v := by
    intro k i v h
    simp [withExtra, h]
  refine ⟨μ2, ⟨hW1.n0le, hW1.base, hW1.fz, fun k i v h => hW1.xz k i v (xle k i v h), fun k i v h => hW1.xf k i v (xle k i v h), fun b => ?_, hW1.nofr, fun b sz es L h hL => ?_, fun b sz es L h hL k hk => ?_, fun b sz es L h hL i j hi hj => ?_,
    fun b b' sz sz' es es' L L' hne h h' hL hL' p1 p2 => ?_, fun b sz es L h hL k hk => ?_, fun b sz es L h hL k hk => ?_⟩, m1, m2⟩
  · by_cases he : Extra H Hb b
    · obtain ⟨_, q1, q2⟩ := e1 b he
      rw [q1, q2]; exact hW.dom b
    · obtain ⟨q1, q2, _⟩ := e2 b he
      rw [q1, q2]; exact hW1.dom b
  · rcases liv b sz es L h hL with ⟨_, h1, h2⟩ | ⟨_, h1, h2⟩
    · obtain ⟨a1, a2, a3, a4, a5⟩ := hW.sz b sz es L h1 h2
      exact ⟨a1, a2, Nat.lt_of_lt_of_le a3 hext.size, a4, a5⟩
    · exact hW1.sz b sz es L h1 h2
  · rcases liv b sz es L h hL with ⟨he, h1, h2⟩ | ⟨_, h1, h2⟩
    · obtain ⟨v, _, hv⟩ := withExtra_in hW he h1 h2 hk
      exact ⟨v, hW1.xz _ _ _ hv⟩
    · exact hW1.cell b sz es L h1 h2 k hk
  · rcases liv b sz es L h hL with ⟨he, h1, h2⟩ | ⟨_, h1, h2⟩
    · obtain ⟨v, h3, h4⟩ := hW.val b sz es L h1 h2 i j hi hj
      obtain ⟨a1, a2, a3, a4, a5⟩ := hW.sz b sz es L h1 h2
      have hlt := flat_lt hi (show j < sz by rw [← a4 _ (List.getElem_mem hi)]; exact hj)
      obtain ⟨u, hu, hu2⟩ := withExtra_in hW he h1 h2 (k := i * sz + j) (by omega)
      refine ⟨v, ?_, h4.mono hext.fr m2⟩
      have := hW1.xz _ _ _ hu2
      rw [← Nat.add_assoc] at hu this
      rw [hu] at h3
      rw [this]; exact h3
    · obtain ⟨v, h3, h4⟩ := hW1.val b sz es L h1 h2 i j hi hj
      exact ⟨v, h3, h4.mono (fun _ _ _ h => h) m1⟩
  · rcases liv b sz es L h hL with ⟨he, h1, h2⟩ | ⟨_, h1, h2⟩
    · rcases liv b' sz' es' L' h' hL' with ⟨he', h3, h4⟩ | ⟨_, h3, h4⟩
      · exact hW.disj b b' sz sz' es es' L L' hne h1 h3 h2 h4 p1 p2
      · exact apart b b' sz sz' es es' L L' he h1 h3 h2 h4 p1 p2
    · rcases liv b' sz' es' L' h' hL' with ⟨he', h3, h4⟩ | ⟨_, h3, h4⟩
      · rcases apart b' b sz' sz es' es L' L he' h3 h1 h4 h2 p2 p1 with d | d | d
        · exact .inl (Ne.symm d)
        · exact .inr (.inr d)
        · exact .inr (.inl d)
      · exact hW1.disj b b' sz sz' es es' L L' hne h1 h3 h2 h4 p1 p2
  · rcases liv b sz es L h hL with ⟨he, h1, h2⟩ | ⟨_, h1, h2⟩
    · obtain ⟨v, _, hv⟩ := withExtra_in hW he h1 h2 hk
      exact hW1.xf _ _ _ hv
    · exact hW1.fdisj b sz es L h1 h2 k hk
  · rcases liv b sz es L h hL with ⟨he, h1, h2⟩ | ⟨_, h1, h2⟩
    · exact hW.xdisj b sz es L h1 h2 k hk
    · have := hW1.xdisj b sz es L h1 h2 k hk
      cases q : X L.rb (L.ro + k) with
      | none => rfl
      | some v => rw [xle _ _ _ q] at this; cases this

end
end Go.Ideal

/- An ideal machine for Go code. Part 21: from the program's code. -/
namespace Go.Ideal
open Go.RowKit

def guardI (nt : Nat) (ops : Array Oper) : Option (Nat × Bool) → Option (Option (Nat × Bool))
  | none => some none
  | some (j, w) => match (ops[j]?).bind (·.dst) with
    | some t => if t < nt then some (some (t, w)) else none
    | none => none
def dstOk (nt : Nat) : Option Nat → Bool
  | some t => decide (t < nt)
  | none => true
def compOper (P : Program) (nt : Nat) (ops : Array Oper) (o : Oper) : Option IOper :=
  match guardI nt ops o.guard with
  | some g => if dstOk nt o.dst then some ⟨o.dst, g, (compOp P o).getD .bad⟩ else none
  | none => none
def compOpers (P : Program) (nt : Nat) (ops : Array Oper) : List Oper → Option (List IOper)
  | [] => some []
  | o :: os => match compOper P nt ops o, compOpers P nt ops os with
    | some x, some xs => some (x :: xs)
    | _, _ => none

def edgesOf (o : Oper) : List Nat := (o.after.toList.filter (Region.binds .any)).map (·.on)
def maskOf : List Nat → Nat
  | [] => 0
  | e :: es => (2 ^ e) ||| maskOf es
def orMask (anc : List Nat) : List Nat → Nat
  | [] => 0
  | e :: es => (2 ^ e ||| anc.getD e 0) ||| orMask anc es
def pick? (p : Nat → Bool) : List (Nat × Nat) → Option Nat
  | [] => none
  | (i, m) :: l => if p i && true then (if m == 0 then some i else pick? p l) else pick? p l
/-- What is ready, of those left: pure or reading first, then what changes the memory, then new blocks. -/
def orderGo (cl : List Cls) : Nat → List (Nat × Nat) → List Nat
  | 0, _ => []
  | n + 1, l =>
    let go := fun i => i :: orderGo cl n ((l.filter (fun p => p.1 != i)).map fun p => (p.1, p.2 &&& (p.2 ^^^ 2 ^ i)))
    match pick? (fun i => cl.getD i .pure == .read) l with
    | some i => go i
    | none => match pick? (fun i => cl.getD i .pure == .pure) l with
      | some i => go i
      | none => match pick? (fun i => cl.getD i .pure == .chain) l with
        | some i => go i
        | none => match pick? (fun _ => true) l with
          | some i => go i
          | none => []
def orderI (es : List (List Nat)) (l : List IOper) : List Nat :=
  orderGo (l.map (·.op.cls)) l.length ((List.range l.length).map fun i => (i, maskOf (es.getD i [])))
/-- What an operation that changes the memory wants. -/
def needI (es : List (List Nat)) (l : List IOper) : Nat → List Bool → List Bool
  | 0, m => m
  | n + 1, m => needI es l n ((List.range l.length).map fun i => m.getD i false || (List.range l.length).any fun j => m.getD j false && (es.getD j []).contains i)
/-- Another order: new blocks that nothing waits for come last. -/
def orderJ (es : List (List Nat)) (l : List IOper) : List Nat :=
  let need := needI es l l.length (l.map fun o => o.op.cls == .chain)
  orderGo ((List.range l.length).map fun i => let c := (l.map (·.op.cls)).getD i .pure; if c == .alloc && need.getD i false then .chain else c) l.length ((List.range l.length).map fun i => (i, maskOf (es.getD i [])))
def ancI (es : List (List Nat)) (ord : List Nat) : List Nat :=
  ord.foldl (fun anc i => anc.set i (orMask anc (es.getD i []))) (List.replicate es.length 0)
def pairB (R : Nat → Nat → Bool) : List Nat → Bool
  | [] => true
  | x :: xs => xs.all (R x) && pairB R xs
def apartAt (l : List IOper) (x y : Nat) : Bool := match l[x]?, l[y]? with
  | some o, some p => opsApart o p
  | _, _ => false
/-- x stands before y. -/
def beforeB (es : List (List Nat)) (anc : List Nat) (l : List IOper) (x y : Nat) : Bool :=
  x != y && !((es.getD x []).contains y) && ((anc.getD y 0).testBit x || apartAt l x y)
def drawOk (es : List (List Nat)) (anc ord : List Nat) (l : List IOper) : Bool :=
  pairB (beforeB es anc l) ord && ord.all (fun i => decide (i < l.length) && !((es.getD i []).contains i) && (es.getD i []).all (fun e => decide (e < l.length)) && anc.getD i 0 == orMask anc (es.getD i [])) &&
    (List.range l.length).all (ord.contains ·)

def bsDst : List IOper → List Nat
  | [] => []
  | o :: l => match o.dst, o.op with
    | some t, .buildSlice _ _ _ => t :: bsDst l
    | _, _ => bsDst l
def ixDst (b : List Nat) : List IOper → List Nat
  | [] => []
  | o :: l => match o.dst, o.op with
    | some t, .indexAddr _ (.tmp s) _ => if b.contains s then t :: ixDst b l else ixDst b l
    | _, _ => ixDst b l
def frzOp (b c : List Nat) (o : IOper) : IOper := match o.op with
  | .buildSlice _ _ _ => ⟨o.dst, o.guard, o.op.toF⟩
  | .indexAddr _ (.tmp s) _ => if b.contains s then ⟨o.dst, o.guard, o.op.toF⟩ else o
  | .load _ _ (.tmp s) => if c.contains s then ⟨o.dst, o.guard, o.op.toF⟩ else o
  | _ => o
def frzOps (l : List IOper) : List IOper := l.map (frzOp (bsDst l) (ixDst (bsDst l) l))
/-- The same operation, or one on what is not written any more. -/
structure FzO (o o' : IOper) : Prop where
  dst : o'.dst = o.dst
  guard : o'.guard = o.guard
  op : o'.op = o.op ∨ o'.op = o.op.toF
theorem frzOp_fz (b c : List Nat) (o : IOper) : FzO o (frzOp b c o) := by
  have h1 : FzO o o := ⟨rfl, rfl, .inl rfl⟩
  have h2 : FzO o ⟨o.dst, o.guard, o.op.toF⟩ := ⟨rfl, rfl, .inr rfl⟩
  unfold frzOp
  split
  · exact h2
  · split
    · exact h2
    · exact h1
  · split
    · exact h2
    · exact h1
  · exact h1
structure FzL2 (l l' : List IOper) : Prop where
  len : l'.length = l.length
  get : ∀ (i : Nat) (o : IOper), l[i]? = some o → ∃ o', l'[i]? = some o' ∧ FzO o o'
theorem FzL2.rfl (l : List IOper) : FzL2 l l := ⟨Eq.refl _, fun i o h => ⟨o, h, Eq.refl _, Eq.refl _, .inl (Eq.refl _)⟩⟩
theorem frzOps_fz (l : List IOper) : FzL2 l (frzOps l) := ⟨List.length_map .., fun i o h => ⟨_, by unfold frzOps; rw [List.getElem?_map, h]; rfl, frzOp_fz _ _ o⟩⟩

def drawI (P : Program) (es : List (List Nat)) (l : List IOper) : Option IC :=
  if P.follows .mixedOrders && drawOk es (ancI es (orderI es l)) (orderI es l) l then some (.draw l (ancI es (orderI es l)) (orderI es l))
  else if P.follows .mixedOrders && drawOk es (ancI es (orderJ es l)) (orderJ es l) l then some (.draw l (ancI es (orderJ es l)) (orderJ es l))
  else if P.follows .mixedOrders && drawOk es (ancI es (orderI es (frzOps l))) (orderI es (frzOps l)) (frzOps l) then some (.draw (frzOps l) (ancI es (orderI es (frzOps l))) (orderI es (frzOps l))) else none
theorem drawI_spec {P : Program} {es : List (List Nat)} {l : List IOper} {c : IC} (h : drawI P es l = some c) : ∃ l' anc ord, FzL2 l l' ∧ c = .draw l' anc ord ∧ P.follows .mixedOrders = true ∧ drawOk es anc ord l' = true := by
  unfold drawI at h
  split at h
  · rename_i q
    rw [Bool.and_eq_true] at q
    exact ⟨_, _, _, .rfl _, (Option.some.inj h).symm, q.1, q.2⟩
  · split at h
    · rename_i q
      rw [Bool.and_eq_true] at q
      exact ⟨_, _, _, .rfl _, (Option.some.inj h).symm, q.1, q.2⟩
    · split at h
      · rename_i q
        rw [Bool.and_eq_true] at q
        exact ⟨_, _, _, frzOps_fz _, (Option.some.inj h).symm, q.1, q.2⟩
      · cases h

def compCode (P : Program) (nt : Nat) : Code → Option IC
  | .skip => some .skip
  | .region _ ops d => match compOpers P nt ops ops.toList with
    | some l =>
      if d then drawI P (ops.toList.map edgesOf) l
      else some (.region l)
    | none => none
  | .seq a b => match compCode P nt a, compCode P nt b with
    | some x, some y => some (.seq x y)
    | _, _ => none
  | .cond c a b => match opdI c, compCode P nt a, compCode P nt b with
    | some c, some x, some y => some (.cond c x y)
    | _, _, _ => none
  | .block id c => (compCode P nt c).map (.block id)
  | .loop c => (compCode P nt c).map .loop
  | .scope c => (compCode P nt c).map .scope
  | .rangeFunc f ps s b => match opdI f, compCode P nt s, compCode P nt b with
    | some f, some x, some y => if ps.toList.all (fun t => decide (t < nt)) then some (.rangeFunc f ps.toList x y) else none
    | _, _, _ => none
  | .exit id => some (.exit id)
  | .ret => some .ret
  | .label _ => some .skip
  | _ => none

def resI (P : Program) : List ResultVar → Option (List IRes)
  | [] => some []
  | .tmp t :: rs => (resI P rs).map (.tmp t :: ·)
  | .cell t ty :: rs => match Program.isAggT P ty, Program.sizeT P ty, resI P rs with
    | some ag, some n, some xs => some (.cell t ag n :: xs)
    | _, _, _ => none
def compFunc (P : Program) (fn : Func) : Option IFunc :=
  match fn.body with
  | none => none
  | some c => if fn.name == "runtime.NumGoroutine" then none else
    match compCode P fn.ntmps c, resI P fn.results.toList with
    | some b, some rs => some ⟨fn.ntmps, rs, b⟩
    | _, _ => none
def sysOf (P : Program) : Sys := ⟨fun f => (P.funcs[f]?).bind (compFunc P), fun _ _ _ _ _ => False, true⟩

theorem pairB_spec {R : Nat → Nat → Bool} : ∀ {l : List Nat}, pairB R l = true → l.Pairwise (fun x y => R x y = true)
  | [], _ => .nil
  | x :: xs, h => by
    simp only [pairB, Bool.and_eq_true, List.all_eq_true] at h
    exact .cons h.1 (pairB_spec h.2)

theorem orMask_bit {anc : List Nat} {b : Nat} : ∀ {es : List Nat}, (orMask anc es).testBit b = true → ∃ e ∈ es, e = b ∨ (anc.getD e 0).testBit b = true
  | [], h => by simp [orMask] at h
  | e :: es, h => by
    simp only [orMask, Nat.testBit_or, Bool.or_eq_true, Nat.testBit_two_pow, decide_eq_true_eq] at h
    rcases h with (h | h) | h
    · exact ⟨e, List.mem_cons_self, .inl h⟩
    · exact ⟨e, List.mem_cons_self, .inr h⟩
    · obtain ⟨e', h1, h2⟩ := orMask_bit h
      exact ⟨e', List.mem_cons_of_mem _ h1, h2⟩

structure DrawOk (es : List (List Nat)) (anc ord : List Nat) (l : List IOper) : Prop where
  pair : ord.Pairwise (fun x y => x ≠ y ∧ y ∉ es.getD x [] ∧ ((anc.getD y 0).testBit x = true ∨ ∀ o p, l[x]? = some o → l[y]? = some p → opsApart o p = true))
  lt : ∀ i ∈ ord, i < l.length
  irr : ∀ i ∈ ord, i ∉ es.getD i []
  elt : ∀ i ∈ ord, ∀ e ∈ es.getD i [], e < l.length
  anc : ∀ i ∈ ord, ∀ b, (anc.getD i 0).testBit b = true → ∃ e ∈ es.getD i [], e = b ∨ (anc.getD e 0).testBit b = true
  all : ∀ i, i < l.length → i ∈ ord

theorem drawOk_spec {es : List (List Nat)} {anc ord : List Nat} {l : List IOper} (h : drawOk es anc ord l = true) : DrawOk es anc ord l := by
  simp only [drawOk, Bool.and_eq_true, List.all_eq_true, decide_eq_true_eq, Bool.not_eq_true', beq_iff_eq, List.mem_range, List.contains_eq_mem] at h
  obtain ⟨⟨h1, h2⟩, h3⟩ := h
  refine ⟨(pairB_spec h1).imp (fun {x y} q => ?_), fun i hi => (h2 i hi).1.1.1, fun i hi => ?_, fun i hi => (h2 i hi).1.2, fun i hi b hb => ?_, h3⟩
  · simp only [beforeB, Bool.and_eq_true, bne_iff_ne, Bool.not_eq_true', Bool.or_eq_true, List.contains_eq_mem, decide_eq_false_iff_not] at q
    refine ⟨q.1.1, q.1.2, q.2.imp id fun q o p ho hp => ?_⟩
    simpa only [apartAt, ho, hp] using q
  · have := (h2 i hi).1.1.2
    simpa using this
  · rw [(h2 i hi).2] at hb
    exact orMask_bit hb

end Go.Ideal
