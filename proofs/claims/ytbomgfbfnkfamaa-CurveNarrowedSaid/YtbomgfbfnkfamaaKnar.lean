/- A law that is narrowed by a reading: one of its ranges. -/
import Derived.Test.YtbomgfbfnkfamaaKof
import Derived.Test.YtbomgfbfnkfamaaMof
import Derived.Test.YtbomgfbfnkfamaaI3
set_option linter.unusedVariables false
set_option maxHeartbeats 16000000
set_option linter.unusedSimpArgs false
namespace Go.Proofs.Ytbomgfbfnkfamaa.I
open Go.Ideal

/-- A function that writes to one block, to which its arguments may lead in many ways. -/
theorem run_own_some {T : Ideal.Sys} {f : FuncId} {fn : IFunc} (hT : T.fn f = some fn) {args : List IV} {s : Slot} {P : IV → Slot → Prop} (ha : ∀ x ∈ args, Inn (· < 1) x) (hs : NonameS s)
    (h : wpC T 1 fn.body (argEnv args) [s] (SomeP1 fn.res s P)) : ∃ v s', P v s' ∧ Noname v ∧ NonameS s' ∧ ∀ (H : Heap) (b : Nat), H b = s → Ev T (.call (.func (.func f) [] []) (args.map (IV.ren (nm [b]))) H) (.call v (H.set b s')) := by
  obtain ⟨e, E1, L1, h1, h2⟩ := wpC_sound h
  cases h2 with
  | intro v s' hP hv hs' hf =>
  refine ⟨v, s', hP, hv, hs', fun H b hb => ?_⟩
  have h0 := fin_call hT (L0 := [s]) (fs := []) (cs := []) (args := args) (by simpa using h1) hf
  have := lift_names h0 (by simp) (by simpa using ha) (hv.inn _) (fun z hz => by obtain rfl := List.mem_singleton.mp hz; exact hs) (fun z hz => by obtain rfl := List.mem_singleton.mp hz; exact hs') [b] rfl (by simp) H (fun i a hi => ?_)
  · rw [hv.ren] at this
    exact this
  · cases i with
    | zero =>
      obtain rfl : b = a := by simpa using hi
      exact hb
    | succ i => simp at hi

theorem live_cut {s : Slot} {sz : Nat} {es : Els} {v : IV} {L1 : List Slot} (hL : L1.take 1 = [.live sz es]) (hs : NonameS (.live sz es)) (hv : Noname v) : Cut [s] L1 v := by
  cases L1 with
  | nil => simp at hL
  | cons a L1 =>
  obtain rfl : a = .live sz es := by simpa using hL
  refine ⟨by simp, fun b hb s hs' => ?_, hv.inn _⟩
  obtain rfl : b = 0 := by simpa using hb
  obtain rfl : .live sz es = s := by simpa using hs'
  refine .inr ⟨sz, es, rfl, fun j k h h' => ?_⟩
  exact (hs _ (List.getElem_mem h) _ (List.getElem_mem h')).inn _
theorem FinP.own {res : List IRes} {s : Slot} {sz : Nat} {es : Els} {v u : IV} {e : IEx} {E1 : Env} {L1 : List Slot} (he : e = .ret ∨ e = .normal) (hr : resultsI (Heap.of L1) E1 res = some u) (hL : L1.take 1 = [.live sz es]) (hs : NonameS (.live sz es)) (hz : Frz (Heap.of L1) (Heap.of [.live sz es]) u v) (hv : Noname v) :
    FinP res [s] v [.live sz es] e E1 L1 := .intro u he hr hL hz (live_cut hL hs hv)
/-- Where the numbers of a range that are too little end, and where those begin that are too great. -/
structure Cutting (x0 x1 : Int) (little great : Int → Prop) (a b : Int) : Prop where
  a0 : x0 ≤ a
  a1 : a ≤ x1 + 1
  lo : ∀ m, x0 ≤ m → m < a → little m
  lo' : ∀ m, a ≤ m → m ≤ x1 → ¬ little m
  b0 : x0 - 1 ≤ b
  b1 : b ≤ x1
  hi : ∀ m, b < m → m ≤ x1 → great m
  hi' : ∀ m, x0 ≤ m → m ≤ b → ¬ great m
theorem Cutting.unique {x0 x1 : Int} {little great : Int → Prop} {a b a' b' : Int} (h : Cutting x0 x1 little great a b) (h' : Cutting x0 x1 little great a' b') : a = a' ∧ b = b' := by
  have := h.a0
  have := h.a1
  have := h.b0
  have := h.b1
  have := h'.a0
  have := h'.a1
  have := h'.b0
  have := h'.b1
  constructor
  · rcases Int.lt_trichotomy a a' with c | c | c
    · exact absurd (h'.lo a (by omega) c) (h.lo' a (by omega) (by omega))
    · exact c
    · exact absurd (h.lo a' (by omega) c) (h'.lo' a' (by omega) (by omega))
  · rcases Int.lt_trichotomy b b' with c | c | c
    · exact absurd (h.hi b' c (by omega)) (h'.hi' b' (by omega) (by omega))
    · exact c
    · exact absurd (h'.hi b c (by omega)) (h.hi' b (by omega) (by omega))
/-- A reading. -/
def rdI (v w c d : Int) : IV := .agg [.int .i64 v, .int .i64 w, .int .i64 c, .int .i64 d]
theorem rdI_no (v w c d : Int) : Noname (rdI v w c d) := nn_agg (nn_cons (nn_int _ _) (nn_cons (nn_int _ _) (nn_cons (nn_int _ _) (nn_cons (nn_int _ _) nn_none))))
end Go.Proofs.Ytbomgfbfnkfamaa.I
