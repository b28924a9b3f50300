/- Lists that are cloned. -/
import Derived.Test.YtlfaglkkeahamaaGreatNplate
set_option linter.unusedVariables false
set_option maxHeartbeats 16000000
set_option linter.unusedSimpArgs false
namespace Go.Proofs.YtlfaglkkeahamaaGreat.I
open Go.Ideal

/-- A function that hands back a new block, run with a dead one at hand. -/
theorem run_newP {T : Ideal.Sys} {f : FuncId} {fn : IFunc} (hT : T.fn f = some fn) {args : List IV} {P : IV → Nat → Slot → Prop} (ha : ∀ x ∈ args, Noname x) (h : wpC T 0 fn.body (argEnv args) [.dead] (NewP fn.res P)) :
    ∃ v k s, P v k s ∧ NonameS s ∧ ∀ (H : Heap) (n : Nat), H n = .free → Ev T (.call (.func (.func f) [] []) args H) (.call (v.ren (sw k n)) (H.set n s)) := by
  obtain ⟨e, E1, L1, h1, h2⟩ := wpC_sound h
  have h1 : Ev T (.code (Sk 0) fn.body (argEnv args) (Heap.of [])) (.code e E1 (Heap.of L1)) := .pad (fun b => by
    cases b with
    | zero => exact .inr ⟨rfl, rfl⟩
    | succ b => exact .inl rfl) h1
  cases h2 with
  | intro v k s hP he hr hk hs hv =>
  refine ⟨v, k, s, hP, hs, fun H n hn => ?_⟩
  have e0 : ∀ b, (Heap.of []) b = .free := fun b => rfl
  have ek : ∀ b, ((Heap.of []).set k s) b = if b = k then s else .free := fun b => rfl
  have hne := hs.free
  have h0 : Ev T (.call (.func (.func f) [] []) args (Heap.of [])) (.call v ((Heap.of []).set k s)) := by
    refine .func hT (fs := []) (cs := []) (S := Sk 0) (fun b hb => absurd (e0 b) hb) (by simpa using h1) he hr (.refl v) ⟨fun b => ?_, fun b hb => absurd (e0 b) hb, fun b sz es hb => .inr (fun j i hj hi => ?_), fun b => ?_, hv.mono (fun b hb => ?_)⟩
    · rw [ek]
      by_cases q : b = k
      · subst q; exact .inl (by rw [if_pos rfl, Heap.of_get hk])
      · exact .inr (.inl ⟨if_neg q, e0 b⟩)
    · rw [ek] at hb
      split at hb
      · subst hb; exact (hs _ (List.getElem_mem hj) _ (List.getElem_mem hi)).inn _
      · cases hb
    · rw [ek]
      split
      · exact hs.noLoop
      · rfl
    · subst hb
      simp only [Heap.named, ek, if_true]; exact hne
  have h3 := Ev.ren k n h0
  have e1 : (IV.func (.func f) [] []).ren (sw k n) = .func (.func f) [] [] := rfl
  have e2 : args.map (IV.ren (sw k n)) = args := map_id_of (fun j hj => (ha _ (List.getElem_mem hj)).ren)
  rw [e1, e2] at h3
  have r0 : ∀ b, ((Heap.of []).ren k n) b = .free := fun b => rfl
  have r1 : ∀ b, (((Heap.of []).set k s).ren k n) b = if b = n then s else .free := by
    intro b
    simp only [Heap.ren, ek]
    by_cases q : b = n
    · subst q
      have : sw k b b = k := by unfold sw; split <;> simp_all
      rw [this, if_pos rfl, if_pos rfl, hs.ren]
    · rw [if_neg q]
      have : sw k n b ≠ k := by
        unfold sw
        split
        · rename_i hb; intro hq; exact q (by rw [hb, hq])
        · assumption
      rw [if_neg this]; rfl
  refine .frame (.func _ _ _ (fun i h => by simp at h) (fun i h => by simp at h)) (fun x hx => (ha x hx).inn _) ⟨fun b sz es hb => (by rw [r0] at hb; cases hb), fun b E ps aa bd st pd hb => (by rw [r0] at hb; cases hb)⟩ h3 (fun b => ?_) (.inr fun b => by rw [r0]; rfl)
  rw [r0, r1]
  by_cases q : b = n
  · subst q; exact .inl ⟨hn, by rw [if_pos rfl, Heap.set_same]⟩
  · exact .inr ⟨rfl, if_neg q, Heap.set_ne _ _ q⟩

/-- A list, nil if it is empty. -/
def ol {α : Type} (enc : α → List IV) (l : List α) : IV := match l with
  | [] => .nilslice
  | a :: l => .fslice ((a :: l).map enc)
theorem ol_no {α : Type} {enc : α → List IV} (h : ∀ a, ∀ x ∈ enc a, Noname x) (l : List α) : Noname (ol enc l) := by
  cases l with
  | nil => exact .nilslice
  | cons a l => exact nn_fs (fun _ _ => h _)
/-- What a clone is. -/
def Clones (f : FuncId) (sz : Nat) {α : Type} (enc : α → List IV) (v : IV) (l : List α) : Prop := ∀ (H : Heap) (n : Nat), H n = .free → Ev T (.call (.func (.func f) [] []) [v] H) (.call (omsl n l) (H.set n (lsS sz enc l)))
theorem cloneR_ok (l : List Rg) (hl : l.length ≤ 1000000) : Clones 136 2 Rg.R (ol Rg.R l) l := by
  cases l with
  | nil =>
    have key := run_newP T136 (args := [.nilslice]) (P := fun v k s => v = .nilslice ∧ s = .dead) (nn_cons .nilslice nn_none) (by
      conv => whnf
      exact .intro .nilslice 0 .dead ⟨rfl, rfl⟩ (.inl rfl) rfl rfl trivial .nilslice)
    obtain ⟨v, k, s, ⟨rfl, rfl⟩, _, h⟩ := key
    exact fun H n hn => h H n hn
  | cons a l =>
    have key := run_newP T136 (args := [.fslice ((a :: l).map Rg.R)]) (P := fun v k s => v = .mslice k 0 (l.length + 1) (l.length + 1) false ∧ s = .live 2 ((a :: l).map Rg.R)) (nn_cons (nn_fs (fun _ _ => Rg.R_no _)) nn_none) (by
      conv => whnf
      refine .full (es := []) (n := 0) rfl rfl rfl rfl (by simp) (fun e he => by obtain ⟨z, _, rfl⟩ := List.mem_map.mp he; rfl) (fun e he c hc => by obtain ⟨z, _, rfl⟩ := List.mem_map.mp he; simp [Rg.R] at hc; rcases hc with rfl | rfl <;> rfl) (r := (a :: l).map Rg.R) rfl (n' := l.length + 1) (by simp) (by simp only [List.length_cons] at hl; omega) ?_
      conv => whnf
      exact .intro (.mslice 2 0 (l.length + 1) (l.length + 1) false) 2 (.live 2 ((a :: l).map Rg.R)) ⟨rfl, rfl⟩ (.inl rfl) rfl rfl (noS_map fun a => Rg.R_no a) (.mslice _ _ _ _ _ rfl))
    obtain ⟨v, k, s, ⟨rfl, rfl⟩, _, h⟩ := key
    intro H n hn
    have := h H n hn
    simpa [IV.ren, sw, omsl, lsS, ol] using this

end Go.Proofs.YtlfaglkkeahamaaGreat.I
