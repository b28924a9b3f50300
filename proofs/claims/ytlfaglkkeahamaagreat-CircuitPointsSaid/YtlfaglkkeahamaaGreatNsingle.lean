/- The chapter's net: what it comes to. -/
import Derived.Test.YtlfaglkkeahamaaGreatNcorner
set_option linter.unusedVariables false
set_option maxHeartbeats 16000000
set_option maxRecDepth 100000
set_option linter.unusedSimpArgs false
namespace Go.Proofs.YtlfaglkkeahamaaGreat.I
open Go.Ideal

def fam0 : Fam := ⟨[-2000, 0], [0, 100000], [[0, 0], [0, 1000]], [[0, 0], [0, 1000]]⟩
def stg0 : Stg := ⟨0, ⟨100000, 100000⟩, ⟨100000, 100000⟩, ⟨0, 0⟩, [⟨0, 1, 1⟩]⟩
def net0 : Net := ⟨[fam0], 1, [stg0]⟩
theorem net0_ok : net0.Ok := netE_zero.mp (by decide)
theorem fam0_ok : fam0.Ok := net0_ok.fam 0 (by decide)
theorem fam0_at {v w xa xu xo ya yu yo : Int} (sx : Spot fam0.g v xa xu xo) (sy : Spot fam0.p w ya yu yo) : fam0.cLo v w = vat fam0.lo xa xu xo ya yu yo / (xo * yo) ∧ fam0.cHi v w = up (vat fam0.hi xa xu xo ya yu yo) (xo * yo) :=
  ⟨(at_spots fam0_ok sx sy fam0.lo).1, (at_spots fam0_ok sx sy fam0.hi).2⟩
theorem gp0 : Spot fam0.g 0 1 0 1 := .on 1 (by decide) (by decide)
theorem gpl : Spot fam0.g (-2000) 0 0 1 := .low (by decide)
theorem pp {w : Int} (h0 : 0 < w) (h1 : w < 100000) : Spot fam0.p w 0 w 100000 := by
  have := Spot.mid (l := fam0.p) (v := w) 0 (by decide) h0 h1
  rw [show w - nth fam0.p 0 = w from Int.sub_zero w] at this
  exact this
theorem c_50000 : fam0.cLo 0 50000 = 500 ∧ fam0.cHi 0 50000 = 500 := by
  rw [(fam0_at gp0 (pp (by decide) (by decide))).1, (fam0_at gp0 (pp (w := 50000) (by decide) (by decide))).2]
  decide
theorem c_50001 : fam0.cHi 0 50001 = 501 := by
  rw [(fam0_at gp0 (pp (w := 50001) (by decide) (by decide))).2]
  decide
theorem c_49999 : fam0.cLo 0 49999 = 499 := by
  rw [(fam0_at gp0 (pp (w := 49999) (by decide) (by decide))).1]
  decide
theorem c_99999 : fam0.cLo (-2000) 99999 = 0 := by
  rw [(fam0_at gpl (pp (w := 99999) (by decide) (by decide))).1]
  decide
theorem over0 : overN fam0 stg0 0 = 50001 := by
  refine least_eq (by decide) (fun j hj hP => ?_) (fun _ => ?_)
  · have := fam0_ok.overUp (s := stg0) (by decide) 0 (show j ≤ 50000 by omega) hP
    unfold overP at this
    rw [show ((50000 : Nat) : Int) = 50000 from rfl, c_50000.2] at this
    exact absurd this (by decide)
  · unfold overP
    rw [show ((50001 : Nat) : Int) = 50001 from rfl, c_50001]
    decide
theorem en0 : enN fam0 stg0 0 = 50000 := by
  refine least_eq (by decide) (fun j hj hP => ?_) (fun _ => ?_)
  · have := fam0_ok.enUp (s := stg0) (by decide) 0 (show j ≤ 49999 by omega) hP
    unfold enP at this
    rw [show ((49999 : Nat) : Int) = 49999 from rfl, c_49999] at this
    exact absurd this (by decide)
  · unfold enP
    rw [show ((50000 : Nat) : Int) = 50000 from rfl, c_50000.1]
    decide
theorem enL : enN fam0 stg0 (-2000) = 100000 := by
  refine least_eq (by decide) (fun j hj hP => ?_) (fun h => absurd h (by decide))
  have := fam0_ok.enUp (s := stg0) (by decide) (-2000) (show j ≤ 99999 by omega) hP
  unfold enP at this
  rw [show ((99999 : Nat) : Int) = 99999 from rfl, c_99999] at this
  exact absurd this (by decide)
theorem F_net0 (x : List Rg) : net0.F 0 x = stg0.plate fam0 (stg0.grid x) := rfl
theorem rest0 : net0.settle [⟨-2000, 0⟩] 1 = ([⟨-2000, 0⟩, ⟨50000, 100000⟩], 1, false) := by
  have hF : net0.F 0 [⟨-2000, 0⟩, ⟨0, 100000⟩] = ⟨50000, 100000⟩ := by
    rw [F_net0, show stg0.grid [⟨-2000, 0⟩, ⟨0, 100000⟩] = ⟨-2000, 0⟩ by decide]
    unfold Stg.plate
    rw [over0, enL]
    decide
  have hp : net0.part [⟨-2000, 0⟩, ⟨0, 100000⟩] 1 = [⟨-2000, 0⟩, ⟨50000, 100000⟩] := by
    rw [Net.part, Net.part, hF]
    decide
  have hs : net0.same [⟨-2000, 0⟩, ⟨0, 100000⟩] 1 = false := by
    rw [Net.same, Net.same, Net.part, hF]
    decide
  show (net0.part [⟨-2000, 0⟩, ⟨0, 100000⟩] 1, 1, net0.same [⟨-2000, 0⟩, ⟨0, 100000⟩] 1) = _
  rw [hp, hs]
theorem two_of {y : List Rg} {a b : Rg} (hl : y.length = 2) (h0 : at' y ((0 : Nat) : Int) = a) (h1 : at' y ((1 : Nat) : Int) = b) : y = [a, b] := by
  match y, hl with
  | [u, v], _ =>
    have e0 : u = a := h0
    have e1 : v = b := h1
    rw [e0, e1]
theorem rest9 (k : Nat) : (net0.settle [⟨0, 0⟩] (k + 1)).1 = [⟨0, 0⟩, ⟨50000, 50000⟩] := by
  have hi : RgsOk [⟨0, 0⟩] net0.ins (-1000000) 1000000 := rgsE_zero.mp (by decide)
  have hP := net0_ok.start hi
  have hF : net0.F 0 (net0.start [⟨0, 0⟩]) = ⟨50000, 50000⟩ := by
    rw [F_net0, show stg0.grid (net0.start [⟨0, 0⟩]) = ⟨0, 0⟩ by decide]
    unfold Stg.plate
    rw [over0, en0]
    decide
  have e1 : at' (net0.iter (net0.start [⟨0, 0⟩]) 1) ((1 : Nat) : Int) = ⟨50000, 50000⟩ := by
    show at' (net0.part (net0.start [⟨0, 0⟩]) 1) ((1 : Nat) : Int) = _
    rw [Net.part, Net.part, hF]
    decide
  unfold Net.settle
  rw [(net0_ok.rest_iter _ _).1]
  have p := hP.iter net0_ok (k + 1)
  have w := net0_ok.iter_in (net0.start [⟨0, 0⟩]) 1 k
  rw [Nat.add_comm 1 k] at w
  have w1 := w.at_ 1
  have f1 := p.full 1
  rw [e1] at w1
  refine two_of (by rw [net0.iter_len]; decide) ?_ ?_
  · rw [net0_ok.iter_low _ (by decide)]; decide
  · generalize at' (net0.iter (net0.start [⟨0, 0⟩]) (k + 1)) ((1 : Nat) : Int) = r at *
    obtain ⟨a, b⟩ := r
    have h1 : 50000 ≤ a := w1.lo
    have h2 : b ≤ 50000 := w1.hi
    have h3 : a ≤ b := f1
    rw [Rg.mk.injEq]
    omega
theorem corner0 : net0.corner 0 = net0 := rfl
theorem cornerIn0 : net0.cornerIn [⟨0, 0⟩] 0 = [⟨0, 0⟩] := rfl

end Go.Proofs.YtlfaglkkeahamaaGreat.I
