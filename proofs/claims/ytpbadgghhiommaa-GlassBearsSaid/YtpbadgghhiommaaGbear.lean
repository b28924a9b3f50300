/- Fires that hold more; fires of one's own to write to. -/
import Derived.Test.YtpbadgghhiommaaGperm
import Derived.Test.YtpbadgghhiommaaGcount
set_option linter.unusedVariables false
set_option maxHeartbeats 16000000
set_option linter.unusedSimpArgs false
namespace Go.Proofs.Ytpbadgghhiommaa.I
open Go.Ideal

theorem nodup_inj' {l : List Int} (h : l.Nodup) {i j : Nat} (hi : i < l.length) (hj : j < l.length) (e : l[i] = l[j]) : i = j := by
  have := List.pairwise_iff_getElem.mp h
  rcases Nat.lt_trichotomy i j with c | c | c
  · exact absurd e (this i j hi hj c)
  · exact c
  · exact absurd e.symm (this j i hj hi c)
theorem stepR_in {l : List Fire} {o : List Int} (h : ∀ j : Nat, j < o.length → StepP l o j) {b : Int} (hb : b ∈ o) : 0 ≤ b ∧ b < l.length := by
  obtain ⟨k, hk, rfl⟩ := List.getElem_of_mem hb
  have := (h k hk).1
  rwa [at'_get hk] at this
theorem right_mono {l M : List Fire} (hl : M.length = l.length) (h0 : firesE M = 0)
    (hh : ∀ i : Int, 0 ≤ i → i < l.length → (at' M i).heat = (at' l i).heat ∧ (at' M i).aft = (at' l i).aft ∧ (at' l i).hold ≤ (at' M i).hold) {o : List Int} (h : RightP l o) : RightP M o := by
  obtain ⟨_, h2, h3⟩ := h
  refine ⟨h0, by omega, fun j hj => ?_⟩
  obtain ⟨⟨a, b⟩, c1, c2, c3⟩ := h3 j hj
  obtain ⟨e1, e2, e3⟩ := hh _ a b
  refine ⟨⟨a, by omega⟩, by rw [e2]; exact c1, fun b' hb' => ?_, c3⟩
  have hb := stepR_in h3 (List.mem_of_mem_take hb')
  have g1 := (hh b' hb.1 hb.2).2.2
  have g2 := c2 b' hb'
  rw [e1]
  exact Int.le_trans g2 g1
theorem right_free {l : List Fire} (h0 : firesE l = 0) (ha : ∀ i : Int, 0 ≤ i → i < l.length → (at' l i).aft = []) (hh : ∀ i k : Int, 0 ≤ i → i < l.length → 0 ≤ k → k < l.length → (at' l i).heat ≤ (at' l k).hold) {o : List Int} (ho : o ∈ permL l.length l.length []) : RightP l o := by
  obtain ⟨hnd, hin⟩ := permL_nodup .nil (fun b hb => by cases hb) ho
  obtain ⟨t, e, ht⟩ := permL_pre ho
  have hl : o.length = l.length := by rw [e]; simpa using ht
  refine ⟨h0, hl, fun j hj => ?_⟩
  have hj' := hin o[j] (List.getElem_mem hj)
  unfold StepP NextP
  rw [at'_get hj]
  refine ⟨hj', fun k hk => by rw [ha _ hj'.1 hj'.2] at hk; simp at hk, fun b hb => ?_, fun hm => ?_⟩
  · have := hin b (List.mem_of_mem_take hb)
    exact hh _ _ hj'.1 hj'.2 this.1 this.2
  · obtain ⟨k, hk, e⟩ := List.getElem_of_mem hm
    rw [List.getElem_take] at e
    rw [List.length_take] at hk
    have := nodup_inj' hnd (show k < o.length by omega) hj e
    omega
theorem free_all {l : List Fire} (h0 : firesE l = 0) (ha : ∀ i : Int, 0 ≤ i → i < l.length → (at' l i).aft = []) (hh : ∀ i k : Int, 0 ≤ i → i < l.length → 0 ≤ k → k < l.length → (at' l i).heat ≤ (at' l k).hold) : allL l = permL l.length l.length [] := by
  rw [← all_right h0, List.filter_eq_self]
  intro o ho
  rw [decide_eq_true_eq]
  exact right_free h0 ha hh ho

theorem OwnFires_new (l : List Fire) (hp : 0 < l.length) (hl : l.length ≤ 100000) (ha : ∀ i : Nat, i < l.length → (at' l (i : Int)).aft.length ≤ 100000) (H : Heap) (n : Nat) (hn : H n = .free) : Ev T (.call (.func (.func 29) [] []) [frsl l] H) (.call (.mslice n 0 l.length l.length false) (H.set n (.live 3 (l.map frR)))) := by
  have key := run_new T29 (args := [frsl l]) (P := fun v k s => v = .mslice k 0 l.length l.length false ∧ s = .live 3 (l.map frR)) (nn_cons (frsl_no _) nn_none) (by
    conv => whnf
    refine .full (es := []) (n := 0) rfl rfl rfl rfl (by intro q; have := congrArg List.length q; simp at this; subst this; simp at hp) (fun e he => by obtain ⟨z, _, rfl⟩ := List.mem_map.mp he; rfl) (fun e he c hc => by obtain ⟨z, _, rfl⟩ := List.mem_map.mp he; simp [frR] at hc; rcases hc with rfl | rfl | rfl <;> rfl) (r := l.map frR) rfl (n' := l.length) (by simp) (by omega) ?_
    conv => whnf
    refine loop_rule (X := Nat) (fun i => [(3, .mslice 1 0 l.length l.length false), (4, .int .i64 i)]) (fun _ => [.live 3 [], .live 3 (l.map frR)]) (fun i => l.length - i) (fun i => i ≤ l.length) 0
      (Nat.zero_le _) ⟨rfl, rfl, trivial⟩ rfl (fun _ _ => rfl) (fun i hi => ?_)
    rcases Nat.lt_or_ge i l.length with hlt | hge
    · have haf := ha i hlt
      have eg : at' l (i : Int) = l[i] := at'_get hlt
      rw [eg] at haf
      have ko := Own_ok l[i].aft (by omega)
      repeat' ((conv => whnf); first | (refine condP.dec (fun _ => ?_) (fun h => absurd (by omega) h)) | (refine onSome.intro (idx_ms rfl rfl rfl (by omega) (by omega)) ?_) | (refine onSome.intro (load_ms (l := l) (enc := frR) (i := (i : Int)) (v := sl l[i].aft) rfl rfl (by omega) (by omega) (by rw [eg]; rfl)) ?_) | (refine CallP.pure ko ?_) | (first | refine condP.dec (fun h => ?_) (fun h => ?_) | refine condP.eq (fun h => ?_) (fun h => ?_) | refine condP.ne (fun h => ?_) (fun h => ?_)) | (refine .i64 (by omega) (by omega) ?_) | (refine onSome.intro (idx_fs rfl rfl (by omega) (by omega) (fun _ => rfl)) ?_) | (refine onSome.intro (load_fs rfl (by omega) (by omega) rfl) ?_) | (refine And.intro rfl ?_))
      conv => whnf
      refine onSome.intro (get_enc (i := i) (by omega)) ?_
      conv => whnf
      refine store_enc (enc := frR) (a := l[i]) (l' := l) rfl (List.set_getElem_self _) ?_
      (repeat ((conv => whnf); refine And.intro rfl ?_)); conv => whnf
      refine .i64 (by omega) (by omega) ?_
      conv => whnf
      exact .more (i + 1) rfl (by omega) (by omega) ⟨rfl, rfl, trivial⟩ rfl ⟨.mslice _ _ _ _ _ (by simp), .int _ _, trivial⟩
        ⟨fun j k hj => by simp at hj, fun j k hj hk => (noS_map (sz := 3) (enc := frR) (fun a => frR_no a) _ (List.getElem_mem hj) _ (List.getElem_mem hk)).inn _, trivial⟩
    · obtain rfl : i = l.length := by omega
      conv => whnf
      refine condP.dec (fun h => absurd h (by omega)) (fun _ => ?_)
      conv => whnf
      refine .done (by simp) ?_
      conv => whnf
      exact .intro (.mslice 1 0 l.length l.length false) 1 (.live 3 (l.map frR)) ⟨rfl, rfl⟩ (.inl rfl) rfl rfl (noS_map frR_no) (.mslice _ _ _ _ _ rfl))
  obtain ⟨v, k, s, ⟨rfl, rfl⟩, _, h⟩ := key
  have := h H n hn
  simpa [IV.ren, sw] using this

/-- A fire that is written to: what it comes after may be nothing at all. -/
def frB : Fire × Bool → List IV
  | (f, true) => [.int .i64 f.heat, .int .i64 f.hold, .nilslice]
  | (f, false) => frR f
theorem frB_no (p : Fire × Bool) : ∀ x ∈ frB p, Noname x := by
  obtain ⟨f, b⟩ := p
  cases b
  · exact frR_no f
  · exact nn_cons (.int _ _) (nn_cons (.int _ _) (nn_cons .nilslice nn_none))
/-- The first i fires hold so much and come after none. -/
def freeL (l : List Fire) (top : Int) (i : Nat) : List (Fire × Bool) := (l.take i).map (fun f => (⟨f.heat, top, []⟩, true)) ++ (l.drop i).map (fun f => (f, false))
theorem freeL_zero (l : List Fire) (top : Int) : freeL l top 0 = l.map (fun f => (f, false)) := by simp [freeL]
theorem freeL_len (l : List Fire) (top : Int) (i : Nat) : (freeL l top i).length = l.length := by simp [freeL]; omega
theorem freeL_at {l : List Fire} {top : Int} {i : Nat} (h : i < l.length) : (freeL l top i)[i]? = some (l[i], false) := by
  unfold freeL
  rw [List.getElem?_append_right (by simp; omega)]
  simp [List.length_take, Nat.min_eq_left (Nat.le_of_lt h), List.getElem?_drop, h]
theorem freeL_set {l : List Fire} {top : Int} {i : Nat} (h : i < l.length) : (freeL l top i).set i (⟨l[i].heat, top, []⟩, true) = freeL l top (i + 1) := by
  unfold freeL
  rw [List.set_append_right _ _ (by simp; omega), List.take_succ_eq_append_getElem h, List.map_append, List.append_assoc]
  congr 1
  rw [show i - ((l.take i).map (fun f => ((⟨f.heat, top, []⟩ : Fire), true))).length = 0 by simp; omega, List.drop_eq_getElem_cons h, List.map_cons, List.set_cons_zero]
  rfl
theorem frB_frz {H H' : Heap} {l : List Fire} {top : Int} : FzE H H' ((freeL l top l.length).map frB) ((l.map (fun f => (⟨f.heat, top, []⟩ : Fire))).map frR) := by
  unfold freeL
  rw [List.take_length, List.drop_length, List.map_nil, List.append_nil, List.map_map, List.map_map]
  induction l with
  | nil => exact .nil
  | cons f l ih => exact .cons (.cons (.refl _) (.cons (.refl _) (.cons .nil .nil))) ih

end Go.Proofs.Ytpbadgghhiommaa.I
