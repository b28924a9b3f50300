/- A law that is narrowed by a reading: what it becomes, as a function (printed by tools/mknarall.py). -/
import Derived.Test.YtbomgfbfnkfamaaKnarrow
import Derived.Test.YtbomgfbfnkfamaaKrnarrow
set_option linter.unusedVariables false
set_option maxHeartbeats 4000000
set_option linter.unusedSimpArgs false
namespace Go.Proofs.Ytbomgfbfnkfamaa.I
open Go.Ideal

/-- A law. -/
structure Lw where
  p0 : Int
  p1 : Int
  g0 : Int
  g1 : Int
  s0 : Int
  s1 : Int
  f0 : Int
  f1 : Int
  q0 : Int
  q1 : Int
structure Rd where
  v : Int
  w : Int
  c : Int
  d : Int
def Lw.Ok (L : Lw) : Prop := LawOk L.p0 L.p1 L.g0 L.g1 L.s0 L.s1 L.f0 L.f1 L.q0 L.q1
def Lw.I (L : Lw) : IV := lawI L.p0 L.p1 L.g0 L.g1 L.s0 L.s1 L.f0 L.f1 L.q0 L.q1
def Lw.S (L : Lw) : Slot := SL L.p0 L.p1 L.g0 L.g1 L.s0 L.s1 L.f0 L.f1 L.q0 L.q1
open Classical in
/-- Where a range is cut. -/
noncomputable def cutR (x0 x1 : Int) (little great : Int → Prop) : Int × Int := if h : ∃ q : Int × Int, Cutting x0 x1 little great q.1 q.2 then Classical.choose h else (0, 0)
theorem cutR_eq {x0 x1 : Int} {little great : Int → Prop} {a b : Int} (h : Cutting x0 x1 little great a b) : cutR x0 x1 little great = (a, b) := by
  have hx : ∃ q : Int × Int, Cutting x0 x1 little great q.1 q.2 := ⟨(a, b), h⟩
  unfold cutR
  rw [dif_pos hx]
  obtain ⟨h1, h2⟩ := Cutting.unique (Classical.choose_spec hx) h
  exact Prod.ext h1 h2
noncomputable def cut0 (L : Lw) (r : Rd) : Int × Int := cutR L.p0 L.p1 (fun m => cHi m L.g0 L.s1 L.f1 L.q1 r.v r.w < r.c) (fun m => r.d < cLo m L.g1 L.s0 L.f0 L.q0 r.v r.w)
def put0 (L : Lw) (q : Int × Int) : Lw := ⟨q.1, q.2, L.g0, L.g1, L.s0, L.s1, L.f0, L.f1, L.q0, L.q1⟩
noncomputable def nar0 (L : Lw) (r : Rd) : Option Lw := if (cut0 L r).1 ≤ (cut0 L r).2 then some (put0 L (cut0 L r)) else none
theorem nar0_ok {L : Lw} {r : Rd} (h : L.Ok) (hv : Volts r.v r.w) :
    (∀ L', nar0 L r = some L' → L'.Ok ∧ (∀ (H : Heap) (n : Nat), H n = L.S → Ev T (.call (.func (.func 104) [] []) [.ptr n 0 0, .ptr n 0 0, .bool true, rdI r.v r.w r.c r.d] H) (.call (.bool true) (H.set n L'.S))) ∧
      ∃ a b, L' = put0 L (a, b) ∧ ∀ H, Ev T (.call (.func (.func 105) [] []) [L.I, .int .i64 0, rdI r.v r.w r.c r.d] H) (.call (.tuple [rgI a b, .bool true]) H)) ∧
    (nar0 L r = none → (∃ L' : Lw, ∀ (H : Heap) (n : Nat), H n = L.S → Ev T (.call (.func (.func 104) [] []) [.ptr n 0 0, .ptr n 0 0, .bool true, rdI r.v r.w r.c r.d] H) (.call (.bool false) (H.set n L'.S))) ∧
      ∃ a b, ∀ H, Ev T (.call (.func (.func 105) [] []) [L.I, .int .i64 0, rdI r.v r.w r.c r.d] H) (.call (.tuple [rgI a b, .bool false]) H)) := by
  have hh := h
  obtain ⟨hp, hg, hs, hf, hq⟩ := hh
  have hw := hv
  obtain ⟨v0, v1, w0, w1⟩ := hw
  have ok : ∀ m, L.p0 ≤ m → m ≤ L.p1 → LawOk m m L.g0 L.g1 L.s0 L.s1 L.f0 L.f1 L.q0 L.q1 := fun m h0 h1 => ⟨by omega, by omega, by omega, by omega, by omega⟩
  have mono : ∀ m m', L.p0 ≤ m → m ≤ m' → m' ≤ L.p1 → cLo m L.g1 L.s0 L.f0 L.q0 r.v r.w ≤ cLo m' L.g1 L.s0 L.f0 L.q0 r.v r.w ∧ cHi m L.g0 L.s1 L.f1 L.q1 r.v r.w ≤ cHi m' L.g0 L.s1 L.f1 L.q1 r.v r.w := fun m m' h0 h1 h2 =>
    ⟨cLo_mono (by omega) (by omega) (by omega) (by omega) (by omega) (by omega) (by omega) (by omega) (by omega) (by omega) (by omega) (by omega), cHi_mono (by omega) (by omega) (by omega) (by omega) (by omega) (by omega) (by omega) (by omega) (by omega) (by omega) (by omega) (by omega)⟩
  have n1 := narrow0_ok (c := r.c) (d := r.d) (cl := fun m => cLo m L.g1 L.s0 L.f0 L.q0 r.v r.w) (ch := fun m => cHi m L.g0 L.s1 L.f1 L.q1 r.v r.w) (by omega) (by omega) (by omega) (fun m h0 h1 H => current_ok (ok m h0 h1) hv H) mono
  have n2 := rnarrowed0_ok (c := r.c) (d := r.d) (cl := fun m => cLo m L.g1 L.s0 L.f0 L.q0 r.v r.w) (ch := fun m => cHi m L.g0 L.s1 L.f1 L.q1 r.v r.w) (by omega) (by omega) (by omega) (fun m h0 h1 H => rcurrent_ok (ok m h0 h1) hv H) mono
  obtain ⟨a, b, hC, e1⟩ := n1
  obtain ⟨a', b', hC', e2⟩ := n2
  obtain ⟨rfl, rfl⟩ := Cutting.unique hC hC'
  have hcut : cut0 L r = (a, b) := cutR_eq hC
  have ha := hC.a0
  have hb := hC.b1
  unfold nar0
  rw [hcut]
  refine ⟨fun L' hL => ?_, fun hN => ?_⟩
  · by_cases c : a ≤ b
    · rw [if_pos c] at hL
      obtain rfl : put0 L (a, b) = L' := by simpa using hL
      rw [decide_eq_true c] at e1 e2
      exact ⟨⟨by dsimp only [put0]; omega, by dsimp only [put0]; omega, by dsimp only [put0]; omega, by dsimp only [put0]; omega, by dsimp only [put0]; omega⟩, e1, a, b, rfl, e2⟩
    · rw [if_neg c] at hL
      cases hL
  · by_cases c : a ≤ b
    · rw [if_pos c] at hN
      cases hN
    · rw [decide_eq_false c] at e1 e2
      exact ⟨⟨put0 L (a, b), e1⟩, a, b, e2⟩
noncomputable def cut1 (L : Lw) (r : Rd) : Int × Int := cutR L.g0 L.g1 (fun m => r.d < cLo L.p0 m L.s0 L.f0 L.q0 r.v r.w) (fun m => cHi L.p1 m L.s1 L.f1 L.q1 r.v r.w < r.c)
def put1 (L : Lw) (q : Int × Int) : Lw := ⟨L.p0, L.p1, q.1, q.2, L.s0, L.s1, L.f0, L.f1, L.q0, L.q1⟩
noncomputable def nar1 (L : Lw) (r : Rd) : Option Lw := if (cut1 L r).1 ≤ (cut1 L r).2 then some (put1 L (cut1 L r)) else none
theorem nar1_ok {L : Lw} {r : Rd} (h : L.Ok) (hv : Volts r.v r.w) :
    (∀ L', nar1 L r = some L' → L'.Ok ∧ (∀ (H : Heap) (n : Nat), H n = L.S → Ev T (.call (.func (.func 104) [] []) [.ptr n 0 0, .ptr n 0 2, .bool false, rdI r.v r.w r.c r.d] H) (.call (.bool true) (H.set n L'.S))) ∧
      ∃ a b, L' = put1 L (a, b) ∧ ∀ H, Ev T (.call (.func (.func 105) [] []) [L.I, .int .i64 1, rdI r.v r.w r.c r.d] H) (.call (.tuple [rgI a b, .bool true]) H)) ∧
    (nar1 L r = none → (∃ L' : Lw, ∀ (H : Heap) (n : Nat), H n = L.S → Ev T (.call (.func (.func 104) [] []) [.ptr n 0 0, .ptr n 0 2, .bool false, rdI r.v r.w r.c r.d] H) (.call (.bool false) (H.set n L'.S))) ∧
      ∃ a b, ∀ H, Ev T (.call (.func (.func 105) [] []) [L.I, .int .i64 1, rdI r.v r.w r.c r.d] H) (.call (.tuple [rgI a b, .bool false]) H)) := by
  have hh := h
  obtain ⟨hp, hg, hs, hf, hq⟩ := hh
  have hw := hv
  obtain ⟨v0, v1, w0, w1⟩ := hw
  have ok : ∀ m, L.g0 ≤ m → m ≤ L.g1 → LawOk L.p0 L.p1 m m L.s0 L.s1 L.f0 L.f1 L.q0 L.q1 := fun m h0 h1 => ⟨by omega, by omega, by omega, by omega, by omega⟩
  have mono : ∀ m m', L.g0 ≤ m → m ≤ m' → m' ≤ L.g1 → cLo L.p0 m' L.s0 L.f0 L.q0 r.v r.w ≤ cLo L.p0 m L.s0 L.f0 L.q0 r.v r.w ∧ cHi L.p1 m' L.s1 L.f1 L.q1 r.v r.w ≤ cHi L.p1 m L.s1 L.f1 L.q1 r.v r.w := fun m m' h0 h1 h2 =>
    ⟨cLo_mono (by omega) (by omega) (by omega) (by omega) (by omega) (by omega) (by omega) (by omega) (by omega) (by omega) (by omega) (by omega), cHi_mono (by omega) (by omega) (by omega) (by omega) (by omega) (by omega) (by omega) (by omega) (by omega) (by omega) (by omega) (by omega)⟩
  have n1 := narrow1_ok (c := r.c) (d := r.d) (cl := fun m => cLo L.p0 m L.s0 L.f0 L.q0 r.v r.w) (ch := fun m => cHi L.p1 m L.s1 L.f1 L.q1 r.v r.w) (by omega) (by omega) (by omega) (fun m h0 h1 H => current_ok (ok m h0 h1) hv H) mono
  have n2 := rnarrowed1_ok (c := r.c) (d := r.d) (cl := fun m => cLo L.p0 m L.s0 L.f0 L.q0 r.v r.w) (ch := fun m => cHi L.p1 m L.s1 L.f1 L.q1 r.v r.w) (by omega) (by omega) (by omega) (fun m h0 h1 H => rcurrent_ok (ok m h0 h1) hv H) mono
  obtain ⟨a, b, hC, e1⟩ := n1
  obtain ⟨a', b', hC', e2⟩ := n2
  obtain ⟨rfl, rfl⟩ := Cutting.unique hC hC'
  have hcut : cut1 L r = (a, b) := cutR_eq hC
  have ha := hC.a0
  have hb := hC.b1
  unfold nar1
  rw [hcut]
  refine ⟨fun L' hL => ?_, fun hN => ?_⟩
  · by_cases c : a ≤ b
    · rw [if_pos c] at hL
      obtain rfl : put1 L (a, b) = L' := by simpa using hL
      rw [decide_eq_true c] at e1 e2
      exact ⟨⟨by dsimp only [put1]; omega, by dsimp only [put1]; omega, by dsimp only [put1]; omega, by dsimp only [put1]; omega, by dsimp only [put1]; omega⟩, e1, a, b, rfl, e2⟩
    · rw [if_neg c] at hL
      cases hL
  · by_cases c : a ≤ b
    · rw [if_pos c] at hN
      cases hN
    · rw [decide_eq_false c] at e1 e2
      exact ⟨⟨put1 L (a, b), e1⟩, a, b, e2⟩
noncomputable def cut2 (L : Lw) (r : Rd) : Int × Int := cutR L.s0 L.s1 (fun m => cHi L.p1 L.g0 m L.f1 L.q1 r.v r.w < r.c) (fun m => r.d < cLo L.p0 L.g1 m L.f0 L.q0 r.v r.w)
def put2 (L : Lw) (q : Int × Int) : Lw := ⟨L.p0, L.p1, L.g0, L.g1, q.1, q.2, L.f0, L.f1, L.q0, L.q1⟩
noncomputable def nar2 (L : Lw) (r : Rd) : Option Lw := if (cut2 L r).1 ≤ (cut2 L r).2 then some (put2 L (cut2 L r)) else none
theorem nar2_ok {L : Lw} {r : Rd} (h : L.Ok) (hv : Volts r.v r.w) :
    (∀ L', nar2 L r = some L' → L'.Ok ∧ (∀ (H : Heap) (n : Nat), H n = L.S → Ev T (.call (.func (.func 104) [] []) [.ptr n 0 0, .ptr n 0 4, .bool true, rdI r.v r.w r.c r.d] H) (.call (.bool true) (H.set n L'.S))) ∧
      ∃ a b, L' = put2 L (a, b) ∧ ∀ H, Ev T (.call (.func (.func 105) [] []) [L.I, .int .i64 2, rdI r.v r.w r.c r.d] H) (.call (.tuple [rgI a b, .bool true]) H)) ∧
    (nar2 L r = none → (∃ L' : Lw, ∀ (H : Heap) (n : Nat), H n = L.S → Ev T (.call (.func (.func 104) [] []) [.ptr n 0 0, .ptr n 0 4, .bool true, rdI r.v r.w r.c r.d] H) (.call (.bool false) (H.set n L'.S))) ∧
      ∃ a b, ∀ H, Ev T (.call (.func (.func 105) [] []) [L.I, .int .i64 2, rdI r.v r.w r.c r.d] H) (.call (.tuple [rgI a b, .bool false]) H)) := by
  have hh := h
  obtain ⟨hp, hg, hs, hf, hq⟩ := hh
  have hw := hv
  obtain ⟨v0, v1, w0, w1⟩ := hw
  have ok : ∀ m, L.s0 ≤ m → m ≤ L.s1 → LawOk L.p0 L.p1 L.g0 L.g1 m m L.f0 L.f1 L.q0 L.q1 := fun m h0 h1 => ⟨by omega, by omega, by omega, by omega, by omega⟩
  have mono : ∀ m m', L.s0 ≤ m → m ≤ m' → m' ≤ L.s1 → cLo L.p0 L.g1 m L.f0 L.q0 r.v r.w ≤ cLo L.p0 L.g1 m' L.f0 L.q0 r.v r.w ∧ cHi L.p1 L.g0 m L.f1 L.q1 r.v r.w ≤ cHi L.p1 L.g0 m' L.f1 L.q1 r.v r.w := fun m m' h0 h1 h2 =>
    ⟨cLo_mono (by omega) (by omega) (by omega) (by omega) (by omega) (by omega) (by omega) (by omega) (by omega) (by omega) (by omega) (by omega), cHi_mono (by omega) (by omega) (by omega) (by omega) (by omega) (by omega) (by omega) (by omega) (by omega) (by omega) (by omega) (by omega)⟩
  have n1 := narrow2_ok (c := r.c) (d := r.d) (cl := fun m => cLo L.p0 L.g1 m L.f0 L.q0 r.v r.w) (ch := fun m => cHi L.p1 L.g0 m L.f1 L.q1 r.v r.w) (by omega) (by omega) (by omega) (fun m h0 h1 H => current_ok (ok m h0 h1) hv H) mono
  have n2 := rnarrowed2_ok (c := r.c) (d := r.d) (cl := fun m => cLo L.p0 L.g1 m L.f0 L.q0 r.v r.w) (ch := fun m => cHi L.p1 L.g0 m L.f1 L.q1 r.v r.w) (by omega) (by omega) (by omega) (fun m h0 h1 H => rcurrent_ok (ok m h0 h1) hv H) mono
  obtain ⟨a, b, hC, e1⟩ := n1
  obtain ⟨a', b', hC', e2⟩ := n2
  obtain ⟨rfl, rfl⟩ := Cutting.unique hC hC'
  have hcut : cut2 L r = (a, b) := cutR_eq hC
  have ha := hC.a0
  have hb := hC.b1
  unfold nar2
  rw [hcut]
  refine ⟨fun L' hL => ?_, fun hN => ?_⟩
  · by_cases c : a ≤ b
    · rw [if_pos c] at hL
      obtain rfl : put2 L (a, b) = L' := by simpa using hL
      rw [decide_eq_true c] at e1 e2
      exact ⟨⟨by dsimp only [put2]; omega, by dsimp only [put2]; omega, by dsimp only [put2]; omega, by dsimp only [put2]; omega, by dsimp only [put2]; omega⟩, e1, a, b, rfl, e2⟩
    · rw [if_neg c] at hL
      cases hL
  · by_cases c : a ≤ b
    · rw [if_pos c] at hN
      cases hN
    · rw [decide_eq_false c] at e1 e2
      exact ⟨⟨put2 L (a, b), e1⟩, a, b, e2⟩
noncomputable def cut3 (L : Lw) (r : Rd) : Int × Int := cutR L.f0 L.f1 (fun m => cHi L.p1 L.g0 L.s1 m L.q1 r.v r.w < r.c) (fun m => r.d < cLo L.p0 L.g1 L.s0 m L.q0 r.v r.w)
def put3 (L : Lw) (q : Int × Int) : Lw := ⟨L.p0, L.p1, L.g0, L.g1, L.s0, L.s1, q.1, q.2, L.q0, L.q1⟩
noncomputable def nar3 (L : Lw) (r : Rd) : Option Lw := if (cut3 L r).1 ≤ (cut3 L r).2 then some (put3 L (cut3 L r)) else none
theorem nar3_ok {L : Lw} {r : Rd} (h : L.Ok) (hv : Volts r.v r.w) :
    (∀ L', nar3 L r = some L' → L'.Ok ∧ (∀ (H : Heap) (n : Nat), H n = L.S → Ev T (.call (.func (.func 104) [] []) [.ptr n 0 0, .ptr n 0 6, .bool true, rdI r.v r.w r.c r.d] H) (.call (.bool true) (H.set n L'.S))) ∧
      ∃ a b, L' = put3 L (a, b) ∧ ∀ H, Ev T (.call (.func (.func 105) [] []) [L.I, .int .i64 3, rdI r.v r.w r.c r.d] H) (.call (.tuple [rgI a b, .bool true]) H)) ∧
    (nar3 L r = none → (∃ L' : Lw, ∀ (H : Heap) (n : Nat), H n = L.S → Ev T (.call (.func (.func 104) [] []) [.ptr n 0 0, .ptr n 0 6, .bool true, rdI r.v r.w r.c r.d] H) (.call (.bool false) (H.set n L'.S))) ∧
      ∃ a b, ∀ H, Ev T (.call (.func (.func 105) [] []) [L.I, .int .i64 3, rdI r.v r.w r.c r.d] H) (.call (.tuple [rgI a b, .bool false]) H)) := by
  have hh := h
  obtain ⟨hp, hg, hs, hf, hq⟩ := hh
  have hw := hv
  obtain ⟨v0, v1, w0, w1⟩ := hw
  have ok : ∀ m, L.f0 ≤ m → m ≤ L.f1 → LawOk L.p0 L.p1 L.g0 L.g1 L.s0 L.s1 m m L.q0 L.q1 := fun m h0 h1 => ⟨by omega, by omega, by omega, by omega, by omega⟩
  have mono : ∀ m m', L.f0 ≤ m → m ≤ m' → m' ≤ L.f1 → cLo L.p0 L.g1 L.s0 m L.q0 r.v r.w ≤ cLo L.p0 L.g1 L.s0 m' L.q0 r.v r.w ∧ cHi L.p1 L.g0 L.s1 m L.q1 r.v r.w ≤ cHi L.p1 L.g0 L.s1 m' L.q1 r.v r.w := fun m m' h0 h1 h2 =>
    ⟨cLo_mono (by omega) (by omega) (by omega) (by omega) (by omega) (by omega) (by omega) (by omega) (by omega) (by omega) (by omega) (by omega), cHi_mono (by omega) (by omega) (by omega) (by omega) (by omega) (by omega) (by omega) (by omega) (by omega) (by omega) (by omega) (by omega)⟩
  have n1 := narrow3_ok (c := r.c) (d := r.d) (cl := fun m => cLo L.p0 L.g1 L.s0 m L.q0 r.v r.w) (ch := fun m => cHi L.p1 L.g0 L.s1 m L.q1 r.v r.w) (by omega) (by omega) (by omega) (fun m h0 h1 H => current_ok (ok m h0 h1) hv H) mono
  have n2 := rnarrowed3_ok (c := r.c) (d := r.d) (cl := fun m => cLo L.p0 L.g1 L.s0 m L.q0 r.v r.w) (ch := fun m => cHi L.p1 L.g0 L.s1 m L.q1 r.v r.w) (by omega) (by omega) (by omega) (fun m h0 h1 H => rcurrent_ok (ok m h0 h1) hv H) mono
  obtain ⟨a, b, hC, e1⟩ := n1
  obtain ⟨a', b', hC', e2⟩ := n2
  obtain ⟨rfl, rfl⟩ := Cutting.unique hC hC'
  have hcut : cut3 L r = (a, b) := cutR_eq hC
  have ha := hC.a0
  have hb := hC.b1
  unfold nar3
  rw [hcut]
  refine ⟨fun L' hL => ?_, fun hN => ?_⟩
  · by_cases c : a ≤ b
    · rw [if_pos c] at hL
      obtain rfl : put3 L (a, b) = L' := by simpa using hL
      rw [decide_eq_true c] at e1 e2
      exact ⟨⟨by dsimp only [put3]; omega, by dsimp only [put3]; omega, by dsimp only [put3]; omega, by dsimp only [put3]; omega, by dsimp only [put3]; omega⟩, e1, a, b, rfl, e2⟩
    · rw [if_neg c] at hL
      cases hL
  · by_cases c : a ≤ b
    · rw [if_pos c] at hN
      cases hN
    · rw [decide_eq_false c] at e1 e2
      exact ⟨⟨put3 L (a, b), e1⟩, a, b, e2⟩
noncomputable def cut4 (L : Lw) (r : Rd) : Int × Int := cutR L.q0 L.q1 (fun m => cHi L.p1 L.g0 L.s1 L.f1 m r.v r.w < r.c) (fun m => r.d < cLo L.p0 L.g1 L.s0 L.f0 m r.v r.w)
def put4 (L : Lw) (q : Int × Int) : Lw := ⟨L.p0, L.p1, L.g0, L.g1, L.s0, L.s1, L.f0, L.f1, q.1, q.2⟩
noncomputable def nar4 (L : Lw) (r : Rd) : Option Lw := if (cut4 L r).1 ≤ (cut4 L r).2 then some (put4 L (cut4 L r)) else none
theorem nar4_ok {L : Lw} {r : Rd} (h : L.Ok) (hv : Volts r.v r.w) :
    (∀ L', nar4 L r = some L' → L'.Ok ∧ (∀ (H : Heap) (n : Nat), H n = L.S → Ev T (.call (.func (.func 104) [] []) [.ptr n 0 0, .ptr n 0 8, .bool true, rdI r.v r.w r.c r.d] H) (.call (.bool true) (H.set n L'.S))) ∧
      ∃ a b, L' = put4 L (a, b) ∧ ∀ H, Ev T (.call (.func (.func 105) [] []) [L.I, .int .i64 4, rdI r.v r.w r.c r.d] H) (.call (.tuple [rgI a b, .bool true]) H)) ∧
    (nar4 L r = none → (∃ L' : Lw, ∀ (H : Heap) (n : Nat), H n = L.S → Ev T (.call (.func (.func 104) [] []) [.ptr n 0 0, .ptr n 0 8, .bool true, rdI r.v r.w r.c r.d] H) (.call (.bool false) (H.set n L'.S))) ∧
      ∃ a b, ∀ H, Ev T (.call (.func (.func 105) [] []) [L.I, .int .i64 4, rdI r.v r.w r.c r.d] H) (.call (.tuple [rgI a b, .bool false]) H)) := by
  have hh := h
  obtain ⟨hp, hg, hs, hf, hq⟩ := hh
  have hw := hv
  obtain ⟨v0, v1, w0, w1⟩ := hw
  have ok : ∀ m, L.q0 ≤ m → m ≤ L.q1 → LawOk L.p0 L.p1 L.g0 L.g1 L.s0 L.s1 L.f0 L.f1 m m := fun m h0 h1 => ⟨by omega, by omega, by omega, by omega, by omega⟩
  have mono : ∀ m m', L.q0 ≤ m → m ≤ m' → m' ≤ L.q1 → cLo L.p0 L.g1 L.s0 L.f0 m r.v r.w ≤ cLo L.p0 L.g1 L.s0 L.f0 m' r.v r.w ∧ cHi L.p1 L.g0 L.s1 L.f1 m r.v r.w ≤ cHi L.p1 L.g0 L.s1 L.f1 m' r.v r.w := fun m m' h0 h1 h2 =>
    ⟨cLo_mono (by omega) (by omega) (by omega) (by omega) (by omega) (by omega) (by omega) (by omega) (by omega) (by omega) (by omega) (by omega), cHi_mono (by omega) (by omega) (by omega) (by omega) (by omega) (by omega) (by omega) (by omega) (by omega) (by omega) (by omega) (by omega)⟩
  have n1 := narrow4_ok (c := r.c) (d := r.d) (cl := fun m => cLo L.p0 L.g1 L.s0 L.f0 m r.v r.w) (ch := fun m => cHi L.p1 L.g0 L.s1 L.f1 m r.v r.w) (by omega) (by omega) (by omega) (fun m h0 h1 H => current_ok (ok m h0 h1) hv H) mono
  have n2 := rnarrowed4_ok (c := r.c) (d := r.d) (cl := fun m => cLo L.p0 L.g1 L.s0 L.f0 m r.v r.w) (ch := fun m => cHi L.p1 L.g0 L.s1 L.f1 m r.v r.w) (by omega) (by omega) (by omega) (fun m h0 h1 H => rcurrent_ok (ok m h0 h1) hv H) mono
  obtain ⟨a, b, hC, e1⟩ := n1
  obtain ⟨a', b', hC', e2⟩ := n2
  obtain ⟨rfl, rfl⟩ := Cutting.unique hC hC'
  have hcut : cut4 L r = (a, b) := cutR_eq hC
  have ha := hC.a0
  have hb := hC.b1
  unfold nar4
  rw [hcut]
  refine ⟨fun L' hL => ?_, fun hN => ?_⟩
  · by_cases c : a ≤ b
    · rw [if_pos c] at hL
      obtain rfl : put4 L (a, b) = L' := by simpa using hL
      rw [decide_eq_true c] at e1 e2
      exact ⟨⟨by dsimp only [put4]; omega, by dsimp only [put4]; omega, by dsimp only [put4]; omega, by dsimp only [put4]; omega, by dsimp only [put4]; omega⟩, e1, a, b, rfl, e2⟩
    · rw [if_neg c] at hL
      cases hL
  · by_cases c : a ≤ b
    · rw [if_pos c] at hN
      cases hN
    · rw [decide_eq_false c] at e1 e2
      exact ⟨⟨put4 L (a, b), e1⟩, a, b, e2⟩
noncomputable def nar (L : Lw) (r : Rd) : Option Lw := (nar0 L r).bind fun L => (nar1 L r).bind fun L => (nar2 L r).bind fun L => (nar3 L r).bind fun L => nar4 L r
noncomputable def narAll (L : Lw) : List Rd → Option Lw
  | [] => some L
  | r :: l => (nar L r).bind fun L => narAll L l
end Go.Proofs.Ytbomgfbfnkfamaa.I
