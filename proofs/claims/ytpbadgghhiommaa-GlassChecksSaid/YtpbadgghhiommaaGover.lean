/- A call with dice that leaves a new block behind the block of its result. -/
import Derived.Test.YtpbadgghhiommaaGkit2
set_option linter.unusedVariables false
set_option maxHeartbeats 4000000
set_option linter.unusedSimpArgs false
namespace Go.Proofs.Ytpbadgghhiommaa.I
open Go.Ideal

inductive MoveQ (res : List IRes) (P : IV → Slot → Slot → Prop) (e : IEx) (E1 : Env) (L1 : List Slot) : Prop
  | intro (kept : List Nat) (st : List (Nat × IV)) (s' x t : Slot) (v : IV) (he : e = .ret ∨ e = .normal) (hi : (incr kept && firsts 1 0 kept) = true) (hE : chkM kept (Heap.of L1) (pickH kept [s', x, t]) E1 st) (hL : chkK kept (Heap.of L1) (pickH kept [s', x, t]) kept [s', x, t])
      (hr : resultsI (Heap.of [s', x, t]) (envL st) res = some (v.ren (nm [0, 2]))) (hs : NonameS s') (ht : NonameS t) (hv : Inn (· < 2) v) (hP : P v s' t) : MoveQ res P e E1 L1
theorem run_dice_over {T : Ideal.Sys} {f : FuncId} {fn : IFunc} (hT : T.fn f = some fn) {args : List IV} {s : Slot} {P : IV → Slot → Slot → Prop} (hs : NonameS s) (ha : ∀ x ∈ args, Noname x)
    (h : wpC T 1 fn.body (argEnv (.ptr 0 0 0 :: args)) [s] (MoveQ fn.res P)) :
    ∃ v s' t, P v s' t ∧ NonameS s' ∧ NonameS t ∧ ∀ (H : Heap) (b n : Nat), H b = s → H n = .free → Ev T (.call (.func (.func f) [] []) (.ptr b 0 0 :: args) H) (.call (v.ren (nm [b, n])) ((H.set b s').set n t)) := by
  obtain ⟨e, E1, L1, h1, h2⟩ := wpC_sound h
  cases h2 with
  | intro kept st s' x t v he hi hE hL hr hs' ht hv hP =>
  rw [Bool.and_eq_true] at hi
  have h3 := h1.move kept [s', x, t] (incr_pair hi.1) (fun i hk => by have := firsts_get hi.2 i hk; rwa [Nat.zero_add] at this) (chkK_len hL) (chkK_get hL) (chkM_le hE)
  have p0 : ∀ b, (pickH [0, 2] [s', t]) b = if b = 0 then s' else if b = 2 then t else .free := fun b => by
    show pick [0, 2] [s', t] b = _
    rw [pick_cons, pick_cons]
    by_cases q : b = 0
    · subst q; rfl
    · rw [if_neg q, if_neg (Ne.symm q)]
      by_cases q2 : b = 2
      · subst q2; rfl
      · rw [if_neg q2, if_neg (Ne.symm q2)]; rfl
  have o0 : (Heap.of [s', x, t]) 0 = s' := rfl
  have o2 : (Heap.of [s', x, t]) 2 = t := rfl
  have s0 : ∀ b, b ≠ 0 → (Heap.of [s]) b = .free := fun b hb => by
    simp only [Heap.of]; rw [List.getElem?_eq_none (by simp; omega)]
  have n0 : (pickH [0, 2] [s', t]).named 0 := by unfold Heap.named; rw [p0, if_pos rfl]; exact hs'.free
  have n2 : (pickH [0, 2] [s', t]).named 2 := by unfold Heap.named; rw [p0, if_neg (by omega), if_pos rfl]; exact ht.free
  have hvr : Inn (pickH [0, 2] [s', t]).named (v.ren (nm [0, 2])) := by
    refine Inn.ren (S := (· < 2)) (fun b hb => ?_) hv
    match b, hb with
    | 0, _ => exact n0
    | 1, _ => exact n2
  have hcall : Ev T (.call (.func (.func f) [] []) (.ptr 0 0 0 :: args) (Heap.of [s])) (.call (v.ren (nm [0, 2])) (pickH [0, 2] [s', t])) := by
    refine .func (S := Sk 1) hT (fs := []) (cs := []) (fun b hb => Classical.byContradiction fun q => hb (s0 b (by simp only [Sk] at q; omega))) (by simpa using h3) he hr (.refl _) ⟨fun b => ?_, fun b hb => ?_, fun b sz es hb => .inr (fun j k hj hk => ?_), fun b => ?_, hvr⟩
    · by_cases q : b = 0
      · subst q; exact .inl (by rw [p0, if_pos rfl]; rfl)
      · by_cases q2 : b = 2
        · subst q2; exact .inl (by rw [p0, if_neg q, if_pos rfl]; rfl)
        · exact .inr (.inl ⟨by rw [p0, if_neg q, if_neg q2], s0 b q⟩)
    · by_cases q : b = 0
      · subst q; exact n0
      · exact absurd (s0 b q) hb
    · rw [p0] at hb
      by_cases q : b = 0
      · rw [if_pos q] at hb; subst hb; exact (hs' _ (List.getElem_mem hj) _ (List.getElem_mem hk)).inn _
      · rw [if_neg q] at hb
        by_cases q2 : b = 2
        · rw [if_pos q2] at hb; subst hb; exact (ht _ (List.getElem_mem hj) _ (List.getElem_mem hk)).inn _
        · rw [if_neg q2] at hb; cases hb
    · rw [p0]
      by_cases q : b = 0
      · rw [if_pos q]; exact hs'.noLoop
      · rw [if_neg q]
        by_cases q2 : b = 2
        · rw [if_pos q2]; exact ht.noLoop
        · rw [if_neg q2]; rfl
  have hargs : ∀ ns : List Nat, nm ns 0 = 0 → (IV.ptr 0 0 0 :: args).map (IV.ren (nm ns)) = .ptr 0 0 0 :: args := fun ns h0 => by
    rw [List.map_cons, map_id_of (fun j hj => (ha _ (List.getElem_mem hj)).ren)]
    show IV.ptr (nm ns 0) 0 0 :: args = _
    rw [h0]
  have ha2 : ∀ m, 0 < m → ∀ x ∈ (IV.ptr 0 0 0 :: args), Inn (· < m) x := fun m hm x hx => by
    rcases List.mem_cons.mp hx with rfl | hx
    · exact .ptr _ _ _ hm
    · exact (ha x hx).inn _
  have h02 : (pickH [0, 2] [s]) = Heap.of [s] := Heap.ext (fun b => by
    show pick [0, 2] [s] b = _
    rw [pick_cons]
    by_cases q : b = 0
    · subst q; rfl
    · rw [if_neg (Ne.symm q), s0 b q]; rfl)
  have q0 : QN T f (.ptr 0 0 0 :: args) v [s] [s', t] [0, 2] := by
    unfold QN
    rw [hargs [0, 2] rfl, h02]
    exact hcall
  have hsL0 : ∀ z ∈ [s], NonameS z := fun z hz => by obtain rfl := List.mem_singleton.mp hz; exact hs
  have hsL2 : ∀ z ∈ [s', t], NonameS z := fun z hz => by
    rcases List.mem_cons.mp hz with rfl | hz
    · exact hs'
    · obtain rfl := List.mem_singleton.mp hz; exact ht
  have q1 := QN.to (L2 := [s', t]) (ha2 2 (by omega)) hv hsL0 hsL2 (ts := [3, 4]) rfl rfl (by decide) q0
  have q2 := QN.to (L2 := [s', t]) (ha2 2 (by omega)) hv hsL0 hsL2 (ts := [0, 1]) rfl rfl (by decide) q1
  have h5 : Ev T (.call (.func (.func f) [] []) (.ptr 0 0 0 :: args) (Heap.of [s])) (.call v (Heap.of [s', t])) := by
    unfold QN at q2
    rw [hargs [0, 1] rfl, hv.ren_id (fun b hb => by match b, hb with | 0, _ => rfl | 1, _ => rfl)] at q2
    have a := pickH_of (Ls := [s]) (m := 2) (by simp)
    have b := pickH_of (Ls := [s', t]) (m := 2) (by simp)
    rw [a, b]
    exact q2
  refine ⟨v, s', t, hP, hs', ht, fun H b n hb hn => ?_⟩
  have hne : b ≠ n := fun e => by subst e; rw [hn] at hb; exact hs.free hb.symm
  have := lift_names h5 (by simp) (ha2 1 (by omega)) hv hsL0 hsL2 [b, n] rfl (by simp [hne]) H (fun i a hi => ?_)
  · rw [show (IV.ptr 0 0 0 :: args).map (IV.ren (nm [b, n])) = .ptr b 0 0 :: args by
      rw [List.map_cons, map_id_of (fun j hj => (ha _ (List.getElem_mem hj)).ren)]; rfl] at this
    exact this
  · match i, hi with
    | 0, hi => cases hi; exact hb
    | 1, hi => cases hi; exact hn

end Go.Proofs.Ytpbadgghhiommaa.I
