/- A narrowed law keeps every exact law that agrees (printed by tools/mknarcut.py). -/
import Derived.Test.YtbomgfbfnkfamaaKwithlaw
set_option linter.unusedVariables false
set_option maxHeartbeats 4000000
set_option linter.unusedSimpArgs false
namespace Go.Proofs.Ytbomgfbfnkfamaa.I
open Go.Ideal

/-- An exact law may have a reading's current. -/
def Agrees (M : Lw) (r : Rd) : Prop := cLo M.p0 M.g1 M.s0 M.f0 M.q0 r.v r.w ≤ r.d ∧ r.c ≤ cHi M.p1 M.g0 M.s1 M.f1 M.q1 r.v r.w
/-- A law within another. -/
structure LwIn (L' L : Lw) : Prop where
  p : L.p0 ≤ L'.p0 ∧ L'.p1 ≤ L.p1
  g : L.g0 ≤ L'.g0 ∧ L'.g1 ≤ L.g1
  s : L.s0 ≤ L'.s0 ∧ L'.s1 ≤ L.s1
  f : L.f0 ≤ L'.f0 ∧ L'.f1 ≤ L.f1
  q : L.q0 ≤ L'.q0 ∧ L'.q1 ≤ L.q1
theorem LwIn.refl (L : Lw) : LwIn L L := ⟨⟨by omega, by omega⟩, ⟨by omega, by omega⟩, ⟨by omega, by omega⟩, ⟨by omega, by omega⟩, ⟨by omega, by omega⟩⟩
theorem LwIn.trans {A B C : Lw} (h : LwIn A B) (k : LwIn B C) : LwIn A C := by
  obtain ⟨a, b, c, d, e⟩ := h
  obtain ⟨a', b', c', d', e'⟩ := k
  exact ⟨by omega, by omega, by omega, by omega, by omega⟩
theorem AloneIn.lw {L M : Lw} (h : AloneIn L M) : LwIn M L := by
  obtain ⟨a, b, c, d, e⟩ := h
  exact ⟨by omega, by omega, by omega, by omega, by omega⟩
theorem keep0 {L M : Lw} {r : Rd} (h : L.Ok) (hv : Volts r.v r.w) (hi : AloneIn L M) (ag : Agrees M r) : ∃ L', nar0 L r = some L' ∧ L'.Ok ∧ AloneIn L' M ∧ LwIn L' L := by
  have hh := h
  obtain ⟨hp, hg, hs, hf, hq⟩ := hh
  have hw := hv
  obtain ⟨v0, v1, w0, w1⟩ := hw
  have ok : ∀ m, L.p0 ≤ m → m ≤ L.p1 → LawOk m m L.g0 L.g1 L.s0 L.s1 L.f0 L.f1 L.q0 L.q1 := fun m h0 h1 => ⟨by omega, by omega, by omega, by omega, by omega⟩
  have mono : ∀ m m', L.p0 ≤ m → m ≤ m' → m' ≤ L.p1 → cLo m L.g1 L.s0 L.f0 L.q0 r.v r.w ≤ cLo m' L.g1 L.s0 L.f0 L.q0 r.v r.w ∧ cHi m L.g0 L.s1 L.f1 L.q1 r.v r.w ≤ cHi m' L.g0 L.s1 L.f1 L.q1 r.v r.w := fun m m' h0 h1 h2 =>
    ⟨cLo_mono (by omega) (by omega) (by omega) (by omega) (by omega) (by omega) (by omega) (by omega) (by omega) (by omega) (by omega) (by omega), cHi_mono (by omega) (by omega) (by omega) (by omega) (by omega) (by omega) (by omega) (by omega) (by omega) (by omega) (by omega) (by omega)⟩
  have n1 := narrow0_ok (c := r.c) (d := r.d) (cl := fun m => cLo m L.g1 L.s0 L.f0 L.q0 r.v r.w) (ch := fun m => cHi m L.g0 L.s1 L.f1 L.q1 r.v r.w) (by omega) (by omega) (by omega) (fun m h0 h1 H => current_ok (ok m h0 h1) hv H) mono
  obtain ⟨a, b, hC, _⟩ := n1
  have hcut : cut0 L r = (a, b) := cutR_eq hC
  obtain ⟨ip, ig, is, if_, iq⟩ := hi
  obtain ⟨ag1, ag2⟩ := ag
  have w := within_lo (grid := r.v) (ok M.p0 (by omega) (by omega)) (⟨by omega, by omega, by omega, by omega, by omega⟩ : SubLaw M.p0 M.p0 L.g0 L.g1 L.s0 L.s1 L.f0 L.f1 L.q0 L.q1 M.p0 M.p1 M.g0 M.g1 M.s0 M.s1 M.f0 M.f1 M.q0 M.q1) w0
  have c1 : ¬ cHi M.p0 L.g0 L.s1 L.f1 L.q1 r.v r.w < r.c := by have := w.1; have := w.2.1; omega
  have c2 : ¬ r.d < cLo M.p0 L.g1 L.s0 L.f0 L.q0 r.v r.w := by have := w.1; have := w.2.1; omega
  have ha : a ≤ M.p0 := by
    rcases Int.lt_or_le M.p0 a with z | z
    · exact absurd (hC.lo M.p0 (by omega) z) c1
    · exact z
  have hb : M.p0 ≤ b := by
    rcases Int.lt_or_le b M.p0 with z | z
    · exact absurd (hC.hi M.p0 z (by omega)) c2
    · exact z
  have a0 := hC.a0
  have b1 := hC.b1
  clear w c1 c2
  unfold nar0
  rw [hcut, if_pos (show a ≤ b by omega)]
  exact ⟨_, rfl, ⟨by dsimp only [put0]; omega, by dsimp only [put0]; omega, by dsimp only [put0]; omega, by dsimp only [put0]; omega, by dsimp only [put0]; omega⟩, ⟨by dsimp only [put0]; omega, by dsimp only [put0]; omega, by dsimp only [put0]; omega, by dsimp only [put0]; omega, by dsimp only [put0]; omega⟩, ⟨by dsimp only [put0]; omega, by dsimp only [put0]; omega, by dsimp only [put0]; omega, by dsimp only [put0]; omega, by dsimp only [put0]; omega⟩⟩
theorem keep1 {L M : Lw} {r : Rd} (h : L.Ok) (hv : Volts r.v r.w) (hi : AloneIn L M) (ag : Agrees M r) : ∃ L', nar1 L r = some L' ∧ L'.Ok ∧ AloneIn L' M ∧ LwIn L' L := by
  have hh := h
  obtain ⟨hp, hg, hs, hf, hq⟩ := hh
  have hw := hv
  obtain ⟨v0, v1, w0, w1⟩ := hw
  have ok : ∀ m, L.g0 ≤ m → m ≤ L.g1 → LawOk L.p0 L.p1 m m L.s0 L.s1 L.f0 L.f1 L.q0 L.q1 := fun m h0 h1 => ⟨by omega, by omega, by omega, by omega, by omega⟩
  have mono : ∀ m m', L.g0 ≤ m → m ≤ m' → m' ≤ L.g1 → cLo L.p0 m' L.s0 L.f0 L.q0 r.v r.w ≤ cLo L.p0 m L.s0 L.f0 L.q0 r.v r.w ∧ cHi L.p1 m' L.s1 L.f1 L.q1 r.v r.w ≤ cHi L.p1 m L.s1 L.f1 L.q1 r.v r.w := fun m m' h0 h1 h2 =>
    ⟨cLo_mono (by omega) (by omega) (by omega) (by omega) (by omega) (by omega) (by omega) (by omega) (by omega) (by omega) (by omega) (by omega), cHi_mono (by omega) (by omega) (by omega) (by omega) (by omega) (by omega) (by omega) (by omega) (by omega) (by omega) (by omega) (by omega)⟩
  have n1 := narrow1_ok (c := r.c) (d := r.d) (cl := fun m => cLo L.p0 m L.s0 L.f0 L.q0 r.v r.w) (ch := fun m => cHi L.p1 m L.s1 L.f1 L.q1 r.v r.w) (by omega) (by omega) (by omega) (fun m h0 h1 H => current_ok (ok m h0 h1) hv H) mono
  obtain ⟨a, b, hC, _⟩ := n1
  have hcut : cut1 L r = (a, b) := cutR_eq hC
  obtain ⟨ip, ig, is, if_, iq⟩ := hi
  obtain ⟨ag1, ag2⟩ := ag
  have w := within_lo (grid := r.v) (ok M.g0 (by omega) (by omega)) (⟨by omega, by omega, by omega, by omega, by omega⟩ : SubLaw L.p0 L.p1 M.g0 M.g0 L.s0 L.s1 L.f0 L.f1 L.q0 L.q1 M.p0 M.p1 M.g0 M.g1 M.s0 M.s1 M.f0 M.f1 M.q0 M.q1) w0
  have c1 : ¬ r.d < cLo L.p0 M.g0 L.s0 L.f0 L.q0 r.v r.w := by have := w.1; have := w.2.1; omega
  have c2 : ¬ cHi L.p1 M.g0 L.s1 L.f1 L.q1 r.v r.w < r.c := by have := w.1; have := w.2.1; omega
  have ha : a ≤ M.g0 := by
    rcases Int.lt_or_le M.g0 a with z | z
    · exact absurd (hC.lo M.g0 (by omega) z) c1
    · exact z
  have hb : M.g0 ≤ b := by
    rcases Int.lt_or_le b M.g0 with z | z
    · exact absurd (hC.hi M.g0 z (by omega)) c2
    · exact z
  have a0 := hC.a0
  have b1 := hC.b1
  clear w c1 c2
  unfold nar1
  rw [hcut, if_pos (show a ≤ b by omega)]
  exact ⟨_, rfl, ⟨by dsimp only [put1]; omega, by dsimp only [put1]; omega, by dsimp only [put1]; omega, by dsimp only [put1]; omega, by dsimp only [put1]; omega⟩, ⟨by dsimp only [put1]; omega, by dsimp only [put1]; omega, by dsimp only [put1]; omega, by dsimp only [put1]; omega, by dsimp only [put1]; omega⟩, ⟨by dsimp only [put1]; omega, by dsimp only [put1]; omega, by dsimp only [put1]; omega, by dsimp only [put1]; omega, by dsimp only [put1]; omega⟩⟩
theorem keep2 {L M : Lw} {r : Rd} (h : L.Ok) (hv : Volts r.v r.w) (hi : AloneIn L M) (ag : Agrees M r) : ∃ L', nar2 L r = some L' ∧ L'.Ok ∧ AloneIn L' M ∧ LwIn L' L := by
  have hh := h
  obtain ⟨hp, hg, hs, hf, hq⟩ := hh
  have hw := hv
  obtain ⟨v0, v1, w0, w1⟩ := hw
  have ok : ∀ m, L.s0 ≤ m → m ≤ L.s1 → LawOk L.p0 L.p1 L.g0 L.g1 m m L.f0 L.f1 L.q0 L.q1 := fun m h0 h1 => ⟨by omega, by omega, by omega, by omega, by omega⟩
  have mono : ∀ m m', L.s0 ≤ m → m ≤ m' → m' ≤ L.s1 → cLo L.p0 L.g1 m L.f0 L.q0 r.v r.w ≤ cLo L.p0 L.g1 m' L.f0 L.q0 r.v r.w ∧ cHi L.p1 L.g0 m L.f1 L.q1 r.v r.w ≤ cHi L.p1 L.g0 m' L.f1 L.q1 r.v r.w := fun m m' h0 h1 h2 =>
    ⟨cLo_mono (by omega) (by omega) (by omega) (by omega) (by omega) (by omega) (by omega) (by omega) (by omega) (by omega) (by omega) (by omega), cHi_mono (by omega) (by omega) (by omega) (by omega) (by omega) (by omega) (by omega) (by omega) (by omega) (by omega) (by omega) (by omega)⟩
  have n1 := narrow2_ok (c := r.c) (d := r.d) (cl := fun m => cLo L.p0 L.g1 m L.f0 L.q0 r.v r.w) (ch := fun m => cHi L.p1 L.g0 m L.f1 L.q1 r.v r.w) (by omega) (by omega) (by omega) (fun m h0 h1 H => current_ok (ok m h0 h1) hv H) mono
  obtain ⟨a, b, hC, _⟩ := n1
  have hcut : cut2 L r = (a, b) := cutR_eq hC
  obtain ⟨ip, ig, is, if_, iq⟩ := hi
  obtain ⟨ag1, ag2⟩ := ag
  have w := within_lo (grid := r.v) (ok M.s0 (by omega) (by omega)) (⟨by omega, by omega, by omega, by omega, by omega⟩ : SubLaw L.p0 L.p1 L.g0 L.g1 M.s0 M.s0 L.f0 L.f1 L.q0 L.q1 M.p0 M.p1 M.g0 M.g1 M.s0 M.s1 M.f0 M.f1 M.q0 M.q1) w0
  have c1 : ¬ cHi L.p1 L.g0 M.s0 L.f1 L.q1 r.v r.w < r.c := by have := w.1; have := w.2.1; omega
  have c2 : ¬ r.d < cLo L.p0 L.g1 M.s0 L.f0 L.q0 r.v r.w := by have := w.1; have := w.2.1; omega
  have ha : a ≤ M.s0 := by
    rcases Int.lt_or_le M.s0 a with z | z
    · exact absurd (hC.lo M.s0 (by omega) z) c1
    · exact z
  have hb : M.s0 ≤ b := by
    rcases Int.lt_or_le b M.s0 with z | z
    · exact absurd (hC.hi M.s0 z (by omega)) c2
    · exact z
  have a0 := hC.a0
  have b1 := hC.b1
  clear w c1 c2
  unfold nar2
  rw [hcut, if_pos (show a ≤ b by omega)]
  exact ⟨_, rfl, ⟨by dsimp only [put2]; omega, by dsimp only [put2]; omega, by dsimp only [put2]; omega, by dsimp only [put2]; omega, by dsimp only [put2]; omega⟩, ⟨by dsimp only [put2]; omega, by dsimp only [put2]; omega, by dsimp only [put2]; omega, by dsimp only [put2]; omega, by dsimp only [put2]; omega⟩, ⟨by dsimp only [put2]; omega, by dsimp only [put2]; omega, by dsimp only [put2]; omega, by dsimp only [put2]; omega, by dsimp only [put2]; omega⟩⟩
theorem keep3 {L M : Lw} {r : Rd} (h : L.Ok) (hv : Volts r.v r.w) (hi : AloneIn L M) (ag : Agrees M r) : ∃ L', nar3 L r = some L' ∧ L'.Ok ∧ AloneIn L' M ∧ LwIn L' L := by
  have hh := h
  obtain ⟨hp, hg, hs, hf, hq⟩ := hh
  have hw := hv
  obtain ⟨v0, v1, w0, w1⟩ := hw
  have ok : ∀ m, L.f0 ≤ m → m ≤ L.f1 → LawOk L.p0 L.p1 L.g0 L.g1 L.s0 L.s1 m m L.q0 L.q1 := fun m h0 h1 => ⟨by omega, by omega, by omega, by omega, by omega⟩
  have mono : ∀ m m', L.f0 ≤ m → m ≤ m' → m' ≤ L.f1 → cLo L.p0 L.g1 L.s0 m L.q0 r.v r.w ≤ cLo L.p0 L.g1 L.s0 m' L.q0 r.v r.w ∧ cHi L.p1 L.g0 L.s1 m L.q1 r.v r.w ≤ cHi L.p1 L.g0 L.s1 m' L.q1 r.v r.w := fun m m' h0 h1 h2 =>
    ⟨cLo_mono (by omega) (by omega) (by omega) (by omega) (by omega) (by omega) (by omega) (by omega) (by omega) (by omega) (by omega) (by omega), cHi_mono (by omega) (by omega) (by omega) (by omega) (by omega) (by omega) (by omega) (by omega) (by omega) (by omega) (by omega) (by omega)⟩
  have n1 := narrow3_ok (c := r.c) (d := r.d) (cl := fun m => cLo L.p0 L.g1 L.s0 m L.q0 r.v r.w) (ch := fun m => cHi L.p1 L.g0 L.s1 m L.q1 r.v r.w) (by omega) (by omega) (by omega) (fun m h0 h1 H => current_ok (ok m h0 h1) hv H) mono
  obtain ⟨a, b, hC, _⟩ := n1
  have hcut : cut3 L r = (a, b) := cutR_eq hC
  obtain ⟨ip, ig, is, if_, iq⟩ := hi
  obtain ⟨ag1, ag2⟩ := ag
  have w := within_lo (grid := r.v) (ok M.f0 (by omega) (by omega)) (⟨by omega, by omega, by omega, by omega, by omega⟩ : SubLaw L.p0 L.p1 L.g0 L.g1 L.s0 L.s1 M.f0 M.f0 L.q0 L.q1 M.p0 M.p1 M.g0 M.g1 M.s0 M.s1 M.f0 M.f1 M.q0 M.q1) w0
  have c1 : ¬ cHi L.p1 L.g0 L.s1 M.f0 L.q1 r.v r.w < r.c := by have := w.1; have := w.2.1; omega
  have c2 : ¬ r.d < cLo L.p0 L.g1 L.s0 M.f0 L.q0 r.v r.w := by have := w.1; have := w.2.1; omega
  have ha : a ≤ M.f0 := by
    rcases Int.lt_or_le M.f0 a with z | z
    · exact absurd (hC.lo M.f0 (by omega) z) c1
    · exact z
  have hb : M.f0 ≤ b := by
    rcases Int.lt_or_le b M.f0 with z | z
    · exact absurd (hC.hi M.f0 z (by omega)) c2
    · exact z
  have a0 := hC.a0
  have b1 := hC.b1
  clear w c1 c2
  unfold nar3
  rw [hcut, if_pos (show a ≤ b by omega)]
  exact ⟨_, rfl, ⟨by dsimp only [put3]; omega, by dsimp only [put3]; omega, by dsimp only [put3]; omega, by dsimp only [put3]; omega, by dsimp only [put3]; omega⟩, ⟨by dsimp only [put3]; omega, by dsimp only [put3]; omega, by dsimp only [put3]; omega, by dsimp only [put3]; omega, by dsimp only [put3]; omega⟩, ⟨by dsimp only [put3]; omega, by dsimp only [put3]; omega, by dsimp only [put3]; omega, by dsimp only [put3]; omega, by dsimp only [put3]; omega⟩⟩
theorem keep4 {L M : Lw} {r : Rd} (h : L.Ok) (hv : Volts r.v r.w) (hi : AloneIn L M) (ag : Agrees M r) : ∃ L', nar4 L r = some L' ∧ L'.Ok ∧ AloneIn L' M ∧ LwIn L' L := by
  have hh := h
  obtain ⟨hp, hg, hs, hf, hq⟩ := hh
  have hw := hv
  obtain ⟨v0, v1, w0, w1⟩ := hw
  have ok : ∀ m, L.q0 ≤ m → m ≤ L.q1 → LawOk L.p0 L.p1 L.g0 L.g1 L.s0 L.s1 L.f0 L.f1 m m := fun m h0 h1 => ⟨by omega, by omega, by omega, by omega, by omega⟩
  have mono : ∀ m m', L.q0 ≤ m → m ≤ m' → m' ≤ L.q1 → cLo L.p0 L.g1 L.s0 L.f0 m r.v r.w ≤ cLo L.p0 L.g1 L.s0 L.f0 m' r.v r.w ∧ cHi L.p1 L.g0 L.s1 L.f1 m r.v r.w ≤ cHi L.p1 L.g0 L.s1 L.f1 m' r.v r.w := fun m m' h0 h1 h2 =>
    ⟨cLo_mono (by omega) (by omega) (by omega) (by omega) (by omega) (by omega) (by omega) (by omega) (by omega) (by omega) (by omega) (by omega), cHi_mono (by omega) (by omega) (by omega) (by omega) (by omega) (by omega) (by omega) (by omega) (by omega) (by omega) (by omega) (by omega)⟩
  have n1 := narrow4_ok (c := r.c) (d := r.d) (cl := fun m => cLo L.p0 L.g1 L.s0 L.f0 m r.v r.w) (ch := fun m => cHi L.p1 L.g0 L.s1 L.f1 m r.v r.w) (by omega) (by omega) (by omega) (fun m h0 h1 H => current_ok (ok m h0 h1) hv H) mono
  obtain ⟨a, b, hC, _⟩ := n1
  have hcut : cut4 L r = (a, b) := cutR_eq hC
  obtain ⟨ip, ig, is, if_, iq⟩ := hi
  obtain ⟨ag1, ag2⟩ := ag
  have w := within_lo (grid := r.v) (ok M.q0 (by omega) (by omega)) (⟨by omega, by omega, by omega, by omega, by omega⟩ : SubLaw L.p0 L.p1 L.g0 L.g1 L.s0 L.s1 L.f0 L.f1 M.q0 M.q0 M.p0 M.p1 M.g0 M.g1 M.s0 M.s1 M.f0 M.f1 M.q0 M.q1) w0
  have c1 : ¬ cHi L.p1 L.g0 L.s1 L.f1 M.q0 r.v r.w < r.c := by have := w.1; have := w.2.1; omega
  have c2 : ¬ r.d < cLo L.p0 L.g1 L.s0 L.f0 M.q0 r.v r.w := by have := w.1; have := w.2.1; omega
  have ha : a ≤ M.q0 := by
    rcases Int.lt_or_le M.q0 a with z | z
    · exact absurd (hC.lo M.q0 (by omega) z) c1
    · exact z
  have hb : M.q0 ≤ b := by
    rcases Int.lt_or_le b M.q0 with z | z
    · exact absurd (hC.hi M.q0 z (by omega)) c2
    · exact z
  have a0 := hC.a0
  have b1 := hC.b1
  clear w c1 c2
  unfold nar4
  rw [hcut, if_pos (show a ≤ b by omega)]
  exact ⟨_, rfl, ⟨by dsimp only [put4]; omega, by dsimp only [put4]; omega, by dsimp only [put4]; omega, by dsimp only [put4]; omega, by dsimp only [put4]; omega⟩, ⟨by dsimp only [put4]; omega, by dsimp only [put4]; omega, by dsimp only [put4]; omega, by dsimp only [put4]; omega, by dsimp only [put4]; omega⟩, ⟨by dsimp only [put4]; omega, by dsimp only [put4]; omega, by dsimp only [put4]; omega, by dsimp only [put4]; omega, by dsimp only [put4]; omega⟩⟩
theorem keepAll {L M : Lw} (l : List Rd) (h : L.Ok) (hv : ∀ r ∈ l, Volts r.v r.w) (hi : AloneIn L M) (ag : ∀ r ∈ l, Agrees M r) : ∃ L', narAll L l = some L' ∧ L'.Ok ∧ AloneIn L' M ∧ LwIn L' L := by
  induction l generalizing L with
  | nil => exact ⟨L, rfl, h, hi, .refl L⟩
  | cons r l ih =>
    have v := hv r (by simp)
    have g := ag r (by simp)
    obtain ⟨L1, e1, h1, i1, w1⟩ := keep0 h v hi g
    obtain ⟨L2, e2, h2, i2, w2⟩ := keep1 h1 v i1 g
    obtain ⟨L3, e3, h3, i3, w3⟩ := keep2 h2 v i2 g
    obtain ⟨L4, e4, h4, i4, w4⟩ := keep3 h3 v i3 g
    obtain ⟨L5, e5, h5, i5, w5⟩ := keep4 h4 v i4 g
    obtain ⟨L', e, h', i', w⟩ := ih h5 (fun r hr => hv r (by simp [hr])) i5 (fun r hr => ag r (by simp [hr]))
    refine ⟨L', ?_, h', i', w.trans (w5.trans (w4.trans (w3.trans (w2.trans w1))))⟩
    rw [narAll, nar, e1, Option.bind_some, e2, Option.bind_some, e3, Option.bind_some, e4, Option.bind_some, e5, Option.bind_some, e]
end Go.Proofs.Ytbomgfbfnkfamaa.I
