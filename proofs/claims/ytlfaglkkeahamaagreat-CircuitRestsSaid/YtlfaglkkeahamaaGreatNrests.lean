/- Rests: what they are, in short. -/
import Derived.Test.YtlfaglkkeahamaaGreatNkit2
set_option linter.unusedVariables false
set_option maxHeartbeats 16000000
set_option linter.unusedSimpArgs false
namespace Go.Proofs.YtlfaglkkeahamaaGreat.I
open Go.Ideal

/-- A rest, and one with more sweeps. -/
structure Rested (n : Net) (l : List Rg) (a : Nat) (x y : List Rg × Nat × Bool) : Prop where
  win : WIn y.1 x.1
  xl : (x.1.length : Int) = n.ins + n.stages.length
  yl : y.1.length = x.1.length
  xs : x.2.1 ≤ a
  ys : x.2.1 ≤ y.2.1
  full : ∀ i : Nat, (at' y.1 (i : Int)).lo ≤ (at' y.1 (i : Int)).hi
  low : ∀ i : Nat, i < l.length → at' y.1 (i : Int) = at' l (i : Int)
  still : x.2.2 = true → y = x
theorem Net.Ok.rested {n : Net} (hn : n.Ok) {l : List Rg} (hl : RgsOk l n.ins (-1000000) 1000000) (a m : Nat) : Rested n l a (n.settle l a) (n.settle l (a + m)) := by
  have hP := hn.start hl
  have hlen := hl.len
  have i0 := hn.i0
  have hi := fun k => (hn.rest_iter (n.start l) k).1
  unfold Net.settle
  refine ⟨?_, ?_, ?_, (n.rest_count _ a).1, n.rest_more _ a m, fun i => ?_, fun i h => ?_, fun h => Net.rest_still h m⟩
  · rw [hi, hi]; exact hn.iter_in _ a m
  · rw [hi, n.iter_len]; exact hP.len
  · rw [hi, hi, n.iter_len, n.iter_len]
  · rw [hi]; exact (hP.iter hn (a + m)).full i
  · rw [hi, hn.iter_low _ (by omega)]
    exact at'_left h
theorem len_ol {H : Heap} {E : Env} {x : Opd} {α : Type} {enc : α → List IV} {l : List α} (hx : x.ev E = ol enc l) : iop H E (.len x) = some (.int .i64 (l.length : Int)) := by
  simp only [iop, hx]
  cases l with
  | nil => rfl
  | cons a l => simp [ol]
theorem idx_ol {H : Heap} {E : Env} {x i : Opd} {α : Type} {l : List α} {enc : α → List IV} {k : IntKind} {n : Int} {sz : Nat} (hx : x.ev E = ol enc l) (hi : i.ev E = .int k n) (h0 : 0 ≤ n) (h1 : n < l.length) (hs : ∀ a, (enc a).length = sz) :
    iop H E (.indexAddr sz x i) = some (.cptr (l.map enc) n.toNat 0) := by
  cases l with
  | nil => simp at h1; omega
  | cons a l => exact idx_fs (l := a :: l) hx hi h0 h1 hs
theorem chkN {S : Nat → Prop} {sz : Nat} {r : List IV} {l : List Slot} (h : ∀ x ∈ r, Noname x) (k : chkS S l) : chkS S (.live sz [r] :: l) := ⟨inn_row (fun x hx => (h x hx).inn _), k⟩
theorem eqb (a b : Int) : (a == a && (b == b && true)) = true := by simp
theorem Settle_any {n : Net} (hn : n.Ok) {l : List Rg} (hl : RgsOk l n.ins (-1000000) 1000000) {a : Int} (h0 : 0 ≤ a) (h1 : a ≤ 30) (H : Heap) :
    Ev T (.call (.func (.func 28) [] []) [n.I, ol Rg.R l, .int .i64 a] H) (.call (.tuple [setI (n.settle l a.toNat), .int .i64 0]) H) := by
  have hlen := hl.len
  have i1 := hn.i1
  have k := c9Settle_ok hn.sz (RArg.ol (l := l) (by omega)) a H
  have e := setE_zero.mpr ⟨hn, hl, h0, h1⟩
  unfold setV at k
  rw [e, if_pos rfl] at k
  exact k

end Go.Proofs.YtlfaglkkeahamaaGreat.I
