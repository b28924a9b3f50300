/- Calls that keep the memory they came with (loops in it too), and nothing of their own: for functions that call themselves and yield. -/
import Derived.Test.YtpbadgghhiommaaGrord2
set_option linter.unusedVariables false
set_option maxHeartbeats 4000000
set_option linter.unusedSimpArgs false
namespace Go.Proofs.Ytpbadgghhiommaa.I
open Go.Ideal

theorem closed_of {L : List Slot} (h : chkS (· < L.length) L) : (Heap.of L).closed := by
  have named : ∀ b, b < L.length → (Heap.of L).named b := fun b hb => by
    have e := Heap.of_get (List.getElem?_eq_getElem hb)
    unfold Heap.named
    rw [e]
    exact (chkS_get h b _ (List.getElem?_eq_getElem hb)).1
  have some_ : ∀ b s, (Heap.of L) b = s → s ≠ .free → L[b]? = some s := fun b s e hs => by
    by_cases hb : b < L.length
    · have e2 := Heap.of_get (List.getElem?_eq_getElem hb)
      rw [e] at e2
      rw [List.getElem?_eq_getElem hb, e2]
    · simp only [Heap.of] at e
      rw [List.getElem?_eq_none (by omega)] at e
      exact absurd e.symm hs
  refine ⟨fun b sz es hb j k h1 h2 => ?_, fun b E ps aa bd st pd hb t => ?_⟩
  · exact ((chkS_get h b _ (some_ b _ hb (by simp))).2.1 sz es rfl j k h1 h2).mono named
  · exact ((chkS_get h b _ (some_ b _ hb (by simp))).2.2 E ps aa bd st pd rfl t).mono named
theorem named_of {L : List Slot} (h : chkS (· < L.length) L) : ∀ b, b < L.length → (Heap.of L).named b := fun b hb => by
  have e := Heap.of_get (List.getElem?_eq_getElem hb)
  unfold Heap.named
  rw [e]
  exact (chkS_get h b _ (List.getElem?_eq_getElem hb)).1

inductive KeepP (res : List IRes) (k0 : Nat) (P : IV → List Slot → Prop) (e : IEx) (E1 : Env) (L1 : List Slot) : Prop
  | intro (st : List (Nat × IV)) (v : IV) (L2 : List Slot) (he : e = .ret ∨ e = .normal) (hE : chkE E1 st) (hi : chkI (· < k0) st) (h2 : L1.take k0 = L2) (hk : L2.length = k0) (hc : chkS (· < k0) L2) (hr : resultsI (Heap.of L2) (envL st) res = some v) (hP : P v L2) : KeepP res k0 P e E1 L1
theorem run_keep {T : Ideal.Sys} {f : FuncId} {fn : IFunc} (hT : T.fn f = some fn) {fs args cs : List IV} {L0 : List Slot} {P : IV → List Slot → Prop} (hu : ∀ b, b < L0.length → (Heap.of L0) b ≠ .free) (h : wpC T L0.length fn.body (argEnv (fs ++ args ++ cs)) L0 (KeepP fn.res L0.length P)) :
    ∃ v L2, P v L2 ∧ L2.length = L0.length ∧ Ev T (.call (.func (.func f) fs cs) args (Heap.of L0)) (.call v (Heap.of L2)) := by
  obtain ⟨e, E1, L1, h1, h2⟩ := wpC_sound h
  cases h2 with
  | intro st v L2 he hE hi h2 hk hc hr hP =>
  have hc' : chkS (· < L2.length) L2 := by rw [hk]; exact hc
  have out : ∀ b, L0.length ≤ b → (Heap.of L2) b = .free := fun b hb => by simp only [Heap.of]; rw [List.getElem?_eq_none (by omega)]
  have same : ∀ b, b < L0.length → (Heap.of L1) b = (Heap.of L2) b := fun b hb => by
    simp only [Heap.of]
    rw [← h2, List.getElem?_take_of_lt hb]
  have h3 : Ev T (.code (Sk L0.length) fn.body (argEnv (fs ++ args ++ cs)) (Heap.of L0)) (.code e (envL st) (Heap.of L2)) := by
    refine .forget h1 (fun t => ?_) (fun b => ?_) (fun t => ?_) (closed_of hc')
    · rcases chkE_le hE t with q | q
      · exact .inl q
      · exact .inr (by rw [q]; exact .refl _)
    · by_cases hb : b < L0.length
      · exact .inl (by rw [same b hb]; exact .refl _)
      · exact .inr ⟨out b (by omega), hb⟩
    · exact (chkI_inn hi t).mono (fun b hb => named_of hc' b (by rw [hk]; exact hb))
  refine ⟨v, L2, hP, hk, .funcA hT (fun b hb => ?_) (fun b hb => hu b hb) h3 he hr⟩
  exact Classical.byContradiction fun q => hb (by simp only [Heap.of]; rw [List.getElem?_eq_none (by have q2 : ¬ b < L0.length := q; omega)])

theorem ev_frameL {T : Ideal.Sys} {f : IV} {args : List IV} {L L' G : List Slot} {v : IV} (h : Ev T (.call f args (Heap.of L)) (.call v (Heap.of L'))) (hlen : L'.length = L.length) (hf : Inn (· < L.length) f) (ha : ∀ x ∈ args, Inn (· < L.length) x) (hc : chkS (· < L.length) L) (hG : ∀ s ∈ G, s.isLoop = false) :
    Ev T (.call f args (Heap.of (L ++ G))) (.call v (Heap.of (L' ++ G))) := by
  have named := named_of hc
  refine .frame (hf.mono named) (fun x hx => (ha x hx).mono named) (closed_of hc) h (fun b => ?_) (.inl fun b hb => ?_)
  · by_cases q : b < L.length
    · refine .inl ⟨?_, ?_⟩
      · simp only [Heap.of]; rw [List.getElem?_append_left q]
      · simp only [Heap.of]; rw [List.getElem?_append_left (by omega)]
    · refine .inr ⟨?_, ?_, ?_⟩
      · simp only [Heap.of]; rw [List.getElem?_eq_none (by omega)]
      · simp only [Heap.of]; rw [List.getElem?_eq_none (by omega)]
      · simp only [Heap.of]; rw [List.getElem?_append_right (by omega), List.getElem?_append_right (by omega), hlen]
  · by_cases q : b < L.length
    · simp only [Heap.of]; rw [List.getElem?_append_left q]
    · exfalso
      simp only [Heap.of] at hb
      rw [List.getElem?_append_right (by omega)] at hb
      cases hq : G[b - L.length]? with
      | none => rw [hq] at hb; cases hb
      | some s =>
        rw [hq] at hb
        have := hG s (List.mem_of_getElem? hq)
        rw [this] at hb; cases hb
/-- A call in the memory that it knows, with others behind it. -/
theorem CallP.frameL {T : Ideal.Sys} {f : IV} {args : List IV} {K : IV → List Slot → Prop} {v : IV} (L L' G : List Slot) (h : Ev T (.call f args (Heap.of L)) (.call v (Heap.of L'))) (hlen : L'.length = L.length) (hf : Inn (· < L.length) f) (ha : ∀ x ∈ args, Inn (· < L.length) x) (hc : chkS (· < L.length) L) (hG : ∀ s ∈ G, s.isLoop = false)
    (k : K v (L' ++ G)) : CallP T f args (L ++ G) K := .intro v _ (ev_frameL h hlen hf ha hc hG) k

end Go.Proofs.Ytpbadgghhiommaa.I
