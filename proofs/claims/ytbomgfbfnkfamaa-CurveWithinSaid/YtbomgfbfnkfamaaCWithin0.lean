/- What the functions of the claim compute, and that it is as the claim says: part 1 of 5. -/
import Derived.Test.YtbomgfbfnkfamaaProg
import Derived.Below
import Derived.Deep.Draws
import Derived.Deep.AppendLies
import Derived.Maps.AppendAt
import Derived.OwnWalk
import Derived.Laws.BytesArg
import Derived.Laws.MakeOwn
import Derived.Laws.OwnMore
import Derived.Deep.OwnRows
import Derived.Tactics
import Derived.Lib.ConvBytes
import Derived.Laws.Slices
import Derived.WalkKit
import Derived.KernelRfl
import Derived.RowKit3
import Derived.Deep.LoopGhost
import Derived.Deep.QuietTactic
import Derived.BigQuiet
import Derived.WideLaws
import Derived.Deep.DeepCutAuto
import Derived.Deep.CutBlock
import Derived.Deep.RegionHeld3
import Derived.Laws.Rows
import Derived.Lib.AppendStr
import Derived.ArgAppend
import Derived.Laws.IdiomCopy
import Derived.OrdersHeld
import Derived.Laws.BitsLemmas
import Derived.RowKit
import Derived.Shelf.GgSortFunc.Insertion
import Derived.LoopN
import Derived.StillTailTactics
import Derived.Outline
import Derived.Test.YtbomgfbfnkfamaaCWithinWWords
import Derived.Test.YtbomgfbfnkfamaaCWithinWLast
import Derived.Test.YtbomgfbfnkfamaaCWithinWTab
import Derived.Test.YtbomgfbfnkfamaaCWithinWApart
import Derived.Test.YtbomgfbfnkfamaaCWithinWFoot
import Derived.Test.YtbomgfbfnkfamaaCWithinWKept
import Derived.Test.YtbomgfbfnkfamaaCWithinWShare
import Derived.Test.YtbomgfbfnkfamaaCWithinWN
import Derived.Test.YtbomgfbfnkfamaaCWithinWEqStruct
import Derived.Test.YtbomgfbfnkfamaaCWithinWRepsOne
import Derived.Test.YtbomgfbfnkfamaaCWithinWInv
import Derived.Test.YtbomgfbfnkfamaaCWithinWNEv
import Derived.Test.YtbomgfbfnkfamaaCWithinWMore
section
namespace Go.Proofs.Ytbomgfbfnkfamaa.PAll
open Go.RowKit Go.Proofs.YtbomgfbfnkfamaaW.PrintWords Go.Proofs.YtbomgfbfnkfamaaW.PrintLast Go.Proofs.YtbomgfbfnkfamaaW.PrintMore
attribute [local go_sem] max2_int min2_int max_two min_two max_three min_three max_four min_four   -- for this text's walks alone
set_option linter.unusedVariables false
set_option linter.unusedSimpArgs false



def errW : Option Int → Value
  | none => .nilIface
  | some c => .iface 0 (.int .i64 c)
theorem errW_none : errW none = .nilIface := rfl
theorem errW_some (c : Int) : errW (some c) = .iface 0 (.int .i64 c) := rfl

theorem info3 : (Try.prog.info? 3).map (fun i => (i.zero, i.size, i.bytes)) = some (some (.int .i64 0), 1, 8) := by kernel_rfl
theorem info22 : (Try.prog.info? 22).map (fun i => (i.zero, i.size, i.bytes)) = some (some (.slice none 0 0), 1, 24) := by kernel_rfl
theorem info35 : (Try.prog.info? 35).map (fun i => (i.zero, i.size, i.bytes)) = some (some (.agg #[(.int .i64 0), (.int .i64 0)]), 2, 16) := by kernel_rfl
theorem info68 : (Try.prog.info? 68).map (fun i => (i.zero, i.size, i.bytes)) = some (some (.agg #[(.int .i64 0), (.int .i64 0), (.int .i64 0), (.int .i64 0)]), 4, 32) := by kernel_rfl
-- the values' own types
def rd_L1 (xs : List (List Int)) (i : Int) : (List Int) := xs.getD i.toNat ([] : List Int)
theorem at_L1 {w : World} {A : Option Addr} {n : Nat} {xs : List (List Int)} (h : Kd.C (Kd.slice 3 (Kd.int .i64)) w A n xs) (i : Int) (h0 : 0 ≤ i) (h1 : i < n) : ∃ ad A0 c0, A = some ad ∧ w.cell? (ad.add i.toNat) = some (.slice A0 (rd_L1 xs i).length c0) ∧ (rd_L1 xs i).length ≤ c0 ∧ (Kd.int .i64).C w A0 (rd_L1 xs i).length (rd_L1 xs i) := by
  obtain ⟨ad, c, e, _, hK, hc0⟩ := Kd.C_get h ([] : List Int) i h0 h1
  have hc : ∀ j u, c[j]? = some u → w.cell? (ad.add (i.toNat * 1 + j)) = some u := hc0
  obtain ⟨A0, c0, rfl, l0, g0⟩ := hK
  exact ⟨ad, A0, c0, e, by have hq := hc 0 _ rfl; rwa [Nat.mul_one, Nat.add_zero] at hq, l0, g0⟩

def rd_L2 (xs : List (List (List Int))) (i : Int) : (List (List Int)) := xs.getD i.toNat ([] : List (List Int))
theorem at_L2 {w : World} {A : Option Addr} {n : Nat} {xs : List (List (List Int))} (h : Kd.C (Kd.slice 22 (Kd.slice 3 (Kd.int .i64))) w A n xs) (i : Int) (h0 : 0 ≤ i) (h1 : i < n) : ∃ ad A0 c0, A = some ad ∧ w.cell? (ad.add i.toNat) = some (.slice A0 (rd_L2 xs i).length c0) ∧ (rd_L2 xs i).length ≤ c0 ∧ (Kd.slice 3 (Kd.int .i64)).C w A0 (rd_L2 xs i).length (rd_L2 xs i) := by
  obtain ⟨ad, c, e, _, hK, hc0⟩ := Kd.C_get h ([] : List (List Int)) i h0 h1
  have hc : ∀ j u, c[j]? = some u → w.cell? (ad.add (i.toNat * 1 + j)) = some u := hc0
  obtain ⟨A0, c0, rfl, l0, g0⟩ := hK
  exact ⟨ad, A0, c0, e, by have hq := hc 0 _ rfl; rwa [Nat.mul_one, Nat.add_zero] at hq, l0, g0⟩

theorem qA {w W : World} (h : Below w.heap.size w W) (o : Obj) : Below w.heap.size w (W.alloc o) := below_alloc h o
theorem qN {B : Nat} {w W : World} (h : Below B w W) (n : Nat) : Below B w (W.drewN n) := pw_below_drewN h n
theorem qD {base : Nat} {w W : World} (h : Below base w W) : Below base w W.drew := below_drew1 h
theorem qn {w : World} {g : Nat} {o : Obj} (h : w.heap[g]? = some o) (n : Nat) : (w.drewN n).heap[g]? = some o := blk_drewN h n
theorem qd {w : World} {g : Nat} {o : Obj} (h : w.heap[g]? = some o) : w.drew.heap[g]? = some o := blk_drew h
theorem qa {w : World} {g : Nat} {o : Obj} (h : w.heap[g]? = some o) (o' : Obj) : (w.alloc o').heap[g]? = some o := blk_alloc h o'
/-! #### struct type 25 -/
structure S25 where
  f0 : (List Int)
  f1 : (List Int)
  f2 : (List (List Int))
  f3 : (List (List Int))
def z25 : S25 := ⟨([] : List Int), ([] : List Int), ([] : List (List Int)), ([] : List (List Int))⟩
def k25 : Kd S25 := Kd.iso (Kd.pair (Kd.slice 3 (Kd.int .i64)) (Kd.pair (Kd.slice 3 (Kd.int .i64)) (Kd.pair (Kd.slice 22 (Kd.slice 3 (Kd.int .i64))) (Kd.slice 22 (Kd.slice 3 (Kd.int .i64)))))) (fun x : S25 => (x.f0, x.f1, x.f2, x.f3))
theorem k25_open {w : World} {x : S25} {cs : List Value} (h : k25.K w x cs) : ∃ A0 c0 A1 c1 A2 c2 A3 c3, cs = [.slice A0 x.f0.length c0, .slice A1 x.f1.length c1, .slice A2 x.f2.length c2, .slice A3 x.f3.length c3] ∧ x.f0.length ≤ c0 ∧ (Kd.int .i64).C w A0 x.f0.length x.f0 ∧ x.f1.length ≤ c1 ∧ (Kd.int .i64).C w A1 x.f1.length x.f1 ∧ x.f2.length ≤ c2 ∧ (Kd.slice 3 (Kd.int .i64)).C w A2 x.f2.length x.f2 ∧ x.f3.length ≤ c3 ∧ (Kd.slice 3 (Kd.int .i64)).C w A3 x.f3.length x.f3 := by
  obtain ⟨_, _, rfl, ⟨A0, c0, rfl, l0, g0⟩, ⟨_, _, rfl, ⟨A1, c1, rfl, l1, g1⟩, ⟨_, _, rfl, ⟨A2, c2, rfl, l2, g2⟩, ⟨A3, c3, rfl, l3, g3⟩⟩⟩⟩ := h
  exact ⟨A0, c0, A1, c1, A2, c2, A3, c3, rfl, l0, g0, l1, g1, l2, g2, l3, g3⟩
theorem k25_openM {w : World} {base : Nat} {ok : Nat → Prop} {x : S25} {cs : List Value} (h : k25.M w base ok x cs) : ∃ v0 v1 v2 v3, cs = [v0, v1, v2, v3] ∧ (Kd.int .i64).R 3 w base ok v0 x.f0 ∧ (Kd.int .i64).R 3 w base ok v1 x.f1 ∧ (Kd.slice 3 (Kd.int .i64)).R 22 w base ok v2 x.f2 ∧ (Kd.slice 3 (Kd.int .i64)).R 22 w base ok v3 x.f3 := by
  obtain ⟨_, _, rfl, ⟨v0, rfl, g0⟩, ⟨_, _, rfl, ⟨v1, rfl, g1⟩, ⟨_, _, rfl, ⟨v2, rfl, g2⟩, ⟨v3, rfl, g3⟩⟩⟩⟩ := h
  exact ⟨v0, v1, v2, v3, rfl, g0, g1, g2, g3⟩
theorem k25_mk (w : World) (x : S25) {A0 : Option Addr} {c0 : Nat} (l0 : x.f0.length ≤ c0) (g0 : (Kd.int .i64).C w A0 x.f0.length x.f0) {A1 : Option Addr} {c1 : Nat} (l1 : x.f1.length ≤ c1) (g1 : (Kd.int .i64).C w A1 x.f1.length x.f1) {A2 : Option Addr} {c2 : Nat} (l2 : x.f2.length ≤ c2) (g2 : (Kd.slice 3 (Kd.int .i64)).C w A2 x.f2.length x.f2) {A3 : Option Addr} {c3 : Nat} (l3 : x.f3.length ≤ c3) (g3 : (Kd.slice 3 (Kd.int .i64)).C w A3 x.f3.length x.f3) : k25.K w x [.slice A0 x.f0.length c0, .slice A1 x.f1.length c1, .slice A2 x.f2.length c2, .slice A3 x.f3.length c3] := ⟨[.slice A0 x.f0.length c0], [.slice A1 x.f1.length c1, .slice A2 x.f2.length c2, .slice A3 x.f3.length c3], rfl, ⟨A0, c0, rfl, l0, g0⟩, ⟨[.slice A1 x.f1.length c1], [.slice A2 x.f2.length c2, .slice A3 x.f3.length c3], rfl, ⟨A1, c1, rfl, l1, g1⟩, ⟨[.slice A2 x.f2.length c2], [.slice A3 x.f3.length c3], rfl, ⟨A2, c2, rfl, l2, g2⟩, ⟨A3, c3, rfl, l3, g3⟩⟩⟩⟩
theorem k25_mkM (w : World) (base : Nat) (ok : Nat → Prop) (x : S25) {v0 : Value} (g0 : (Kd.int .i64).R 3 w base ok v0 x.f0) {v1 : Value} (g1 : (Kd.int .i64).R 3 w base ok v1 x.f1) {v2 : Value} (g2 : (Kd.slice 3 (Kd.int .i64)).R 22 w base ok v2 x.f2) {v3 : Value} (g3 : (Kd.slice 3 (Kd.int .i64)).R 22 w base ok v3 x.f3) : k25.M w base ok x [v0, v1, v2, v3] := ⟨[v0], [v1, v2, v3], rfl, ⟨v0, rfl, g0⟩, ⟨[v1], [v2, v3], rfl, ⟨v1, rfl, g1⟩, ⟨[v2], [v3], rfl, ⟨v2, rfl, g2⟩, ⟨v3, rfl, g3⟩⟩⟩⟩
theorem k25_openF {W : World} {ok : Nat → Prop} {x : S25} {cs : List Value} (h : Kd.FK k25 W ok x cs) : ∃ A0 c0 A1 c1 A2 c2 A3 c3, cs = [.slice A0 x.f0.length c0, .slice A1 x.f1.length c1, .slice A2 x.f2.length c2, .slice A3 x.f3.length c3] ∧ x.f0.length ≤ c0 ∧ Kd.F (Kd.int .i64) W ok A0 x.f0.length x.f0 ∧ x.f1.length ≤ c1 ∧ Kd.F (Kd.int .i64) W ok A1 x.f1.length x.f1 ∧ x.f2.length ≤ c2 ∧ Kd.F (Kd.slice 3 (Kd.int .i64)) W ok A2 x.f2.length x.f2 ∧ x.f3.length ≤ c3 ∧ Kd.F (Kd.slice 3 (Kd.int .i64)) W ok A3 x.f3.length x.f3 := by
  obtain ⟨A0, c0, A1, c1, A2, c2, A3, c3, rfl, l0, _, l1, _, l2, _, l3, _⟩ := k25_open (Kd.FK_now h)
  exact ⟨A0, c0, A1, c1, A2, c2, A3, c3, rfl, l0, (fun W' hW => by obtain ⟨A0_, c0_, A1_, c1_, A2_, c2_, A3_, c3_, he, l0_, g0_, l1_, g1_, l2_, g2_, l3_, g3_⟩ := k25_open (h W' hW); injection (Option.some.inj (show some (Value.slice A0 x.f0.length c0) = some (Value.slice A0_ x.f0.length c0_) from congrArg (fun l => l[0]?) he)) with ha_ _ _; rw [ha_]; exact g0_), l1, (fun W' hW => by obtain ⟨A0_, c0_, A1_, c1_, A2_, c2_, A3_, c3_, he, l0_, g0_, l1_, g1_, l2_, g2_, l3_, g3_⟩ := k25_open (h W' hW); injection (Option.some.inj (show some (Value.slice A1 x.f1.length c1) = some (Value.slice A1_ x.f1.length c1_) from congrArg (fun l => l[1]?) he)) with ha_ _ _; rw [ha_]; exact g1_), l2, (fun W' hW => by obtain ⟨A0_, c0_, A1_, c1_, A2_, c2_, A3_, c3_, he, l0_, g0_, l1_, g1_, l2_, g2_, l3_, g3_⟩ := k25_open (h W' hW); injection (Option.some.inj (show some (Value.slice A2 x.f2.length c2) = some (Value.slice A2_ x.f2.length c2_) from congrArg (fun l => l[2]?) he)) with ha_ _ _; rw [ha_]; exact g2_), l3, (fun W' hW => by obtain ⟨A0_, c0_, A1_, c1_, A2_, c2_, A3_, c3_, he, l0_, g0_, l1_, g1_, l2_, g2_, l3_, g3_⟩ := k25_open (h W' hW); injection (Option.some.inj (show some (Value.slice A3 x.f3.length c3) = some (Value.slice A3_ x.f3.length c3_) from congrArg (fun l => l[3]?) he)) with ha_ _ _; rw [ha_]; exact g3_)⟩
theorem k25_mkF (W : World) (ok : Nat → Prop) (x : S25) {A0 : Option Addr} {c0 : Nat} (l0 : x.f0.length ≤ c0) (g0 : Kd.F (Kd.int .i64) W ok A0 x.f0.length x.f0) {A1 : Option Addr} {c1 : Nat} (l1 : x.f1.length ≤ c1) (g1 : Kd.F (Kd.int .i64) W ok A1 x.f1.length x.f1) {A2 : Option Addr} {c2 : Nat} (l2 : x.f2.length ≤ c2) (g2 : Kd.F (Kd.slice 3 (Kd.int .i64)) W ok A2 x.f2.length x.f2) {A3 : Option Addr} {c3 : Nat} (l3 : x.f3.length ≤ c3) (g3 : Kd.F (Kd.slice 3 (Kd.int .i64)) W ok A3 x.f3.length x.f3) : Kd.FK k25 W ok x [.slice A0 x.f0.length c0, .slice A1 x.f1.length c1, .slice A2 x.f2.length c2, .slice A3 x.f3.length c3] := fun W2 hW => k25_mk W2 x l0 (g0 W2 hW) l1 (g1 W2 hW) l2 (g2 W2 hW) l3 (g3 W2 hW)
def rd_T25 (xs : List S25) (i : Int) : S25 := xs.getD i.toNat z25
theorem at_T25 {w : World} {A : Option Addr} {n : Nat} {xs : List S25} (h : Kd.C k25 w A n xs) (i : Int) (h0 : 0 ≤ i) (h1 : i < n) : ∃ ad A0 c0 A1 c1 A2 c2 A3 c3, A = some ad ∧ w.cell? (ad.add (i.toNat * 4)) = some (.slice A0 (rd_T25 xs i).f0.length c0) ∧ w.cell? ⟨(ad.add (i.toNat * 4)).block, (ad.add (i.toNat * 4)).off + 1, none⟩ = some (.slice A1 (rd_T25 xs i).f1.length c1) ∧ w.cell? ⟨(ad.add (i.toNat * 4)).block, (ad.add (i.toNat * 4)).off + 2, none⟩ = some (.slice A2 (rd_T25 xs i).f2.length c2) ∧ w.cell? ⟨(ad.add (i.toNat * 4)).block, (ad.add (i.toNat * 4)).off + 3, none⟩ = some (.slice A3 (rd_T25 xs i).f3.length c3) ∧ (rd_T25 xs i).f0.length ≤ c0 ∧ (Kd.int .i64).C w A0 (rd_T25 xs i).f0.length (rd_T25 xs i).f0 ∧ (rd_T25 xs i).f1.length ≤ c1 ∧ (Kd.int .i64).C w A1 (rd_T25 xs i).f1.length (rd_T25 xs i).f1 ∧ (rd_T25 xs i).f2.length ≤ c2 ∧ (Kd.slice 3 (Kd.int .i64)).C w A2 (rd_T25 xs i).f2.length (rd_T25 xs i).f2 ∧ (rd_T25 xs i).f3.length ≤ c3 ∧ (Kd.slice 3 (Kd.int .i64)).C w A3 (rd_T25 xs i).f3.length (rd_T25 xs i).f3 := by
  obtain ⟨ad, c, e, _, hK, hc0⟩ := Kd.C_get h z25 i h0 h1
  have hc : ∀ j u, c[j]? = some u → w.cell? (ad.add (i.toNat * 4 + j)) = some u := hc0
  obtain ⟨A0, c0, A1, c1, A2, c2, A3, c3, rfl, l0, g0, l1, g1, l2, g2, l3, g3⟩ := k25_open hK
  exact ⟨ad, A0, c0, A1, c1, A2, c2, A3, c3, e, hc 0 _ rfl, by rw [← add_field _ _ 1 (by omega)]; exact hc 1 _ rfl, by rw [← add_field _ _ 2 (by omega)]; exact hc 2 _ rfl, by rw [← add_field _ _ 3 (by omega)]; exact hc 3 _ rfl, l0, g0, l1, g1, l2, g2, l3, g3⟩

/-! #### struct type 86 -/
structure S86 where
  f0 : Int
  f1 : Int
  f2 : Int
def z86 : S86 := ⟨(0 : Int), (0 : Int), (0 : Int)⟩
def k86 : Kd S86 := Kd.iso (Kd.pair (Kd.int .i64) (Kd.pair (Kd.int .i64) (Kd.int .i64))) (fun x : S86 => (x.f0, x.f1, x.f2))
theorem k86_open {w : World} {x : S86} {cs : List Value} (h : k86.K w x cs) : cs = [.int .i64 x.f0, .int .i64 x.f1, .int .i64 x.f2] := by
  obtain ⟨_, _, rfl, rfl, ⟨_, _, rfl, rfl, rfl⟩⟩ := h
  exact rfl
theorem k86_openM {w : World} {base : Nat} {ok : Nat → Prop} {x : S86} {cs : List Value} (h : k86.M w base ok x cs) : cs = [.int .i64 x.f0, .int .i64 x.f1, .int .i64 x.f2] := by
  obtain ⟨_, _, rfl, rfl, ⟨_, _, rfl, rfl, rfl⟩⟩ := h
  exact rfl
theorem k86_mk (w : World) (x : S86)  : k86.K w x [.int .i64 x.f0, .int .i64 x.f1, .int .i64 x.f2] := ⟨[.int .i64 x.f0], [.int .i64 x.f1, .int .i64 x.f2], rfl, rfl, ⟨[.int .i64 x.f1], [.int .i64 x.f2], rfl, rfl, rfl⟩⟩
theorem k86_mkM (w : World) (base : Nat) (ok : Nat → Prop) (x : S86)  : k86.M w base ok x [.int .i64 x.f0, .int .i64 x.f1, .int .i64 x.f2] := ⟨[.int .i64 x.f0], [.int .i64 x.f1, .int .i64 x.f2], rfl, rfl, ⟨[.int .i64 x.f1], [.int .i64 x.f2], rfl, rfl, rfl⟩⟩
theorem k86_mkF (W : World) (ok : Nat → Prop) (x : S86) : Kd.FK k86 W ok x [.int .i64 x.f0, .int .i64 x.f1, .int .i64 x.f2] := fun W2 _ => k86_mk W2 x
def rd_T86 (xs : List S86) (i : Int) : S86 := xs.getD i.toNat z86
theorem at_T86 {w : World} {A : Option Addr} {n : Nat} {xs : List S86} (h : Kd.C k86 w A n xs) (i : Int) (h0 : 0 ≤ i) (h1 : i < n) : ∃ ad , A = some ad ∧ w.cell? (ad.add (i.toNat * 3)) = some (.int .i64 (rd_T86 xs i).f0) ∧ w.cell? ⟨(ad.add (i.toNat * 3)).block, (ad.add (i.toNat * 3)).off + 1, none⟩ = some (.int .i64 (rd_T86 xs i).f1) ∧ w.cell? ⟨(ad.add (i.toNat * 3)).block, (ad.add (i.toNat * 3)).off + 2, none⟩ = some (.int .i64 (rd_T86 xs i).f2) := by
  obtain ⟨ad, c, e, _, hK, hc0⟩ := Kd.C_get h z86 i h0 h1
  have hc : ∀ j u, c[j]? = some u → w.cell? (ad.add (i.toNat * 3 + j)) = some u := hc0
  obtain rfl := k86_open hK
  exact ⟨ad, e, hc 0 _ rfl, by rw [← add_field _ _ 1 (by omega)]; exact hc 1 _ rfl, by rw [← add_field _ _ 2 (by omega)]; exact hc 2 _ rfl⟩

/-! #### struct type 35 -/
structure S35 where
  f0 : Int
  f1 : Int
def z35 : S35 := ⟨(0 : Int), (0 : Int)⟩
def k35 : Kd S35 := Kd.iso (Kd.pair (Kd.int .i64) (Kd.int .i64)) (fun x : S35 => (x.f0, x.f1))
theorem k35_open {w : World} {x : S35} {cs : List Value} (h : k35.K w x cs) : cs = [.int .i64 x.f0, .int .i64 x.f1] := by
  obtain ⟨_, _, rfl, rfl, rfl⟩ := h
  exact rfl
theorem k35_openM {w : World} {base : Nat} {ok : Nat → Prop} {x : S35} {cs : List Value} (h : k35.M w base ok x cs) : cs = [.int .i64 x.f0, .int .i64 x.f1] := by
  obtain ⟨_, _, rfl, rfl, rfl⟩ := h
  exact rfl
theorem k35_mk (w : World) (x : S35)  : k35.K w x [.int .i64 x.f0, .int .i64 x.f1] := ⟨[.int .i64 x.f0], [.int .i64 x.f1], rfl, rfl, rfl⟩
theorem k35_mkM (w : World) (base : Nat) (ok : Nat → Prop) (x : S35)  : k35.M w base ok x [.int .i64 x.f0, .int .i64 x.f1] := ⟨[.int .i64 x.f0], [.int .i64 x.f1], rfl, rfl, rfl⟩
theorem k35_mkF (W : World) (ok : Nat → Prop) (x : S35) : Kd.FK k35 W ok x [.int .i64 x.f0, .int .i64 x.f1] := fun W2 _ => k35_mk W2 x
def rd_T35 (xs : List S35) (i : Int) : S35 := xs.getD i.toNat z35
theorem at_T35 {w : World} {A : Option Addr} {n : Nat} {xs : List S35} (h : Kd.C k35 w A n xs) (i : Int) (h0 : 0 ≤ i) (h1 : i < n) : ∃ ad , A = some ad ∧ w.cell? (ad.add (i.toNat * 2)) = some (.int .i64 (rd_T35 xs i).f0) ∧ w.cell? ⟨(ad.add (i.toNat * 2)).block, (ad.add (i.toNat * 2)).off + 1, none⟩ = some (.int .i64 (rd_T35 xs i).f1) := by
  obtain ⟨ad, c, e, _, hK, hc0⟩ := Kd.C_get h z35 i h0 h1
  have hc : ∀ j u, c[j]? = some u → w.cell? (ad.add (i.toNat * 2 + j)) = some u := hc0
  obtain rfl := k35_open hK
  exact ⟨ad, e, hc 0 _ rfl, by rw [← add_field _ _ 1 (by omega)]; exact hc 1 _ rfl⟩

/-! #### struct type 42 -/
structure S42 where
  f0 : S35
  f1 : S35
  f2 : S35
  f3 : S35
  f4 : S35
def z42 : S42 := ⟨z35, z35, z35, z35, z35⟩
def k42 : Kd S42 := Kd.iso (Kd.pair k35 (Kd.pair k35 (Kd.pair k35 (Kd.pair k35 k35)))) (fun x : S42 => (x.f0, x.f1, x.f2, x.f3, x.f4))
theorem k42_open {w : World} {x : S42} {cs : List Value} (h : k42.K w x cs) : cs = [.int .i64 x.f0.f0, .int .i64 x.f0.f1, .int .i64 x.f1.f0, .int .i64 x.f1.f1, .int .i64 x.f2.f0, .int .i64 x.f2.f1, .int .i64 x.f3.f0, .int .i64 x.f3.f1, .int .i64 x.f4.f0, .int .i64 x.f4.f1] := by
  obtain ⟨_, _, rfl, s0, ⟨_, _, rfl, s2, ⟨_, _, rfl, s4, ⟨_, _, rfl, s6, s8⟩⟩⟩⟩ := h
  obtain rfl := k35_open s0
  obtain rfl := k35_open s2
  obtain rfl := k35_open s4
  obtain rfl := k35_open s6
  obtain rfl := k35_open s8
  exact rfl
theorem k42_openM {w : World} {base : Nat} {ok : Nat → Prop} {x : S42} {cs : List Value} (h : k42.M w base ok x cs) : cs = [.int .i64 x.f0.f0, .int .i64 x.f0.f1, .int .i64 x.f1.f0, .int .i64 x.f1.f1, .int .i64 x.f2.f0, .int .i64 x.f2.f1, .int .i64 x.f3.f0, .int .i64 x.f3.f1, .int .i64 x.f4.f0, .int .i64 x.f4.f1] := by
  obtain ⟨_, _, rfl, s0, ⟨_, _, rfl, s2, ⟨_, _, rfl, s4, ⟨_, _, rfl, s6, s8⟩⟩⟩⟩ := h
  obtain rfl := k35_openM s0
  obtain rfl := k35_openM s2
  obtain rfl := k35_openM s4
  obtain rfl := k35_openM s6
  obtain rfl := k35_openM s8
  exact rfl
theorem k42_mk (w : World) (x : S42)  : k42.K w x [.int .i64 x.f0.f0, .int .i64 x.f0.f1, .int .i64 x.f1.f0, .int .i64 x.f1.f1, .int .i64 x.f2.f0, .int .i64 x.f2.f1, .int .i64 x.f3.f0, .int .i64 x.f3.f1, .int .i64 x.f4.f0, .int .i64 x.f4.f1] := ⟨[.int .i64 x.f0.f0, .int .i64 x.f0.f1], [.int .i64 x.f1.f0, .int .i64 x.f1.f1, .int .i64 x.f2.f0, .int .i64 x.f2.f1, .int .i64 x.f3.f0, .int .i64 x.f3.f1, .int .i64 x.f4.f0, .int .i64 x.f4.f1], rfl, (k35_mk w x.f0 ), ⟨[.int .i64 x.f1.f0, .int .i64 x.f1.f1], [.int .i64 x.f2.f0, .int .i64 x.f2.f1, .int .i64 x.f3.f0, .int .i64 x.f3.f1, .int .i64 x.f4.f0, .int .i64 x.f4.f1], rfl, (k35_mk w x.f1 ), ⟨[.int .i64 x.f2.f0, .int .i64 x.f2.f1], [.int .i64 x.f3.f0, .int .i64 x.f3.f1, .int .i64 x.f4.f0, .int .i64 x.f4.f1], rfl, (k35_mk w x.f2 ), ⟨[.int .i64 x.f3.f0, .int .i64 x.f3.f1], [.int .i64 x.f4.f0, .int .i64 x.f4.f1], rfl, (k35_mk w x.f3 ), (k35_mk w x.f4 )⟩⟩⟩⟩
theorem k42_mkM (w : World) (base : Nat) (ok : Nat → Prop) (x : S42)  : k42.M w base ok x [.int .i64 x.f0.f0, .int .i64 x.f0.f1, .int .i64 x.f1.f0, .int .i64 x.f1.f1, .int .i64 x.f2.f0, .int .i64 x.f2.f1, .int .i64 x.f3.f0, .int .i64 x.f3.f1, .int .i64 x.f4.f0, .int .i64 x.f4.f1] := ⟨[.int .i64 x.f0.f0, .int .i64 x.f0.f1], [.int .i64 x.f1.f0, .int .i64 x.f1.f1, .int .i64 x.f2.f0, .int .i64 x.f2.f1, .int .i64 x.f3.f0, .int .i64 x.f3.f1, .int .i64 x.f4.f0, .int .i64 x.f4.f1], rfl, (k35_mkM w base ok x.f0 ), ⟨[.int .i64 x.f1.f0, .int .i64 x.f1.f1], [.int .i64 x.f2.f0, .int .i64 x.f2.f1, .int .i64 x.f3.f0, .int .i64 x.f3.f1, .int .i64 x.f4.f0, .int .i64 x.f4.f1], rfl, (k35_mkM w base ok x.f1 ), ⟨[.int .i64 x.f2.f0, .int .i64 x.f2.f1], [.int .i64 x.f3.f0, .int .i64 x.f3.f1, .int .i64 x.f4.f0, .int .i64 x.f4.f1], rfl, (k35_mkM w base ok x.f2 ), ⟨[.int .i64 x.f3.f0, .int .i64 x.f3.f1], [.int .i64 x.f4.f0, .int .i64 x.f4.f1], rfl, (k35_mkM w base ok x.f3 ), (k35_mkM w base ok x.f4 )⟩⟩⟩⟩
theorem k42_mkF (W : World) (ok : Nat → Prop) (x : S42) : Kd.FK k42 W ok x [.int .i64 x.f0.f0, .int .i64 x.f0.f1, .int .i64 x.f1.f0, .int .i64 x.f1.f1, .int .i64 x.f2.f0, .int .i64 x.f2.f1, .int .i64 x.f3.f0, .int .i64 x.f3.f1, .int .i64 x.f4.f0, .int .i64 x.f4.f1] := fun W2 _ => k42_mk W2 x
def rd_T42 (xs : List S42) (i : Int) : S42 := xs.getD i.toNat z42
theorem at_T42 {w : World} {A : Option Addr} {n : Nat} {xs : List S42} (h : Kd.C k42 w A n xs) (i : Int) (h0 : 0 ≤ i) (h1 : i < n) : ∃ ad , A = some ad ∧ w.cell? (ad.add (i.toNat * 10)) = some (.int .i64 (rd_T42 xs i).f0.f0) ∧ w.cell? ⟨(ad.add (i.toNat * 10)).block, (ad.add (i.toNat * 10)).off + 1, none⟩ = some (.int .i64 (rd_T42 xs i).f0.f1) ∧ w.cell? ⟨(ad.add (i.toNat * 10)).block, (ad.add (i.toNat * 10)).off + 2, none⟩ = some (.int .i64 (rd_T42 xs i).f1.f0) ∧ w.cell? ⟨(ad.add (i.toNat * 10)).block, (ad.add (i.toNat * 10)).off + 3, none⟩ = some (.int .i64 (rd_T42 xs i).f1.f1) ∧ w.cell? ⟨(ad.add (i.toNat * 10)).block, (ad.add (i.toNat * 10)).off + 4, none⟩ = some (.int .i64 (rd_T42 xs i).f2.f0) ∧ w.cell? ⟨(ad.add (i.toNat * 10)).block, (ad.add (i.toNat * 10)).off + 5, none⟩ = some (.int .i64 (rd_T42 xs i).f2.f1) ∧ w.cell? ⟨(ad.add (i.toNat * 10)).block, (ad.add (i.toNat * 10)).off + 6, none⟩ = some (.int .i64 (rd_T42 xs i).f3.f0) ∧ w.cell? ⟨(ad.add (i.toNat * 10)).block, (ad.add (i.toNat * 10)).off + 7, none⟩ = some (.int .i64 (rd_T42 xs i).f3.f1) ∧ w.cell? ⟨(ad.add (i.toNat * 10)).block, (ad.add (i.toNat * 10)).off + 8, none⟩ = some (.int .i64 (rd_T42 xs i).f4.f0) ∧ w.cell? ⟨(ad.add (i.toNat * 10)).block, (ad.add (i.toNat * 10)).off + 9, none⟩ = some (.int .i64 (rd_T42 xs i).f4.f1) := by
  obtain ⟨ad, c, e, _, hK, hc0⟩ := Kd.C_get h z42 i h0 h1
  have hc : ∀ j u, c[j]? = some u → w.cell? (ad.add (i.toNat * 10 + j)) = some u := hc0
  obtain rfl := k42_open hK
  exact ⟨ad, e, hc 0 _ rfl, by rw [← add_field _ _ 1 (by omega)]; exact hc 1 _ rfl, by rw [← add_field _ _ 2 (by omega)]; exact hc 2 _ rfl, by rw [← add_field _ _ 3 (by omega)]; exact hc 3 _ rfl, by rw [← add_field _ _ 4 (by omega)]; exact hc 4 _ rfl, by rw [← add_field _ _ 5 (by omega)]; exact hc 5 _ rfl, by rw [← add_field _ _ 6 (by omega)]; exact hc 6 _ rfl, by rw [← add_field _ _ 7 (by omega)]; exact hc 7 _ rfl, by rw [← add_field _ _ 8 (by omega)]; exact hc 8 _ rfl, by rw [← add_field _ _ 9 (by omega)]; exact hc 9 _ rfl⟩

/-! #### struct type 68 -/
structure S68 where
  f0 : Int
  f1 : Int
  f2 : S35
def z68 : S68 := ⟨(0 : Int), (0 : Int), z35⟩
def k68 : Kd S68 := Kd.iso (Kd.pair (Kd.int .i64) (Kd.pair (Kd.int .i64) k35)) (fun x : S68 => (x.f0, x.f1, x.f2))
theorem k68_open {w : World} {x : S68} {cs : List Value} (h : k68.K w x cs) : cs = [.int .i64 x.f0, .int .i64 x.f1, .int .i64 x.f2.f0, .int .i64 x.f2.f1] := by
  obtain ⟨_, _, rfl, rfl, ⟨_, _, rfl, rfl, s2⟩⟩ := h
  obtain rfl := k35_open s2
  exact rfl
theorem k68_openM {w : World} {base : Nat} {ok : Nat → Prop} {x : S68} {cs : List Value} (h : k68.M w base ok x cs) : cs = [.int .i64 x.f0, .int .i64 x.f1, .int .i64 x.f2.f0, .int .i64 x.f2.f1] := by
  obtain ⟨_, _, rfl, rfl, ⟨_, _, rfl, rfl, s2⟩⟩ := h
  obtain rfl := k35_openM s2
  exact rfl
theorem k68_mk (w : World) (x : S68)  : k68.K w x [.int .i64 x.f0, .int .i64 x.f1, .int .i64 x.f2.f0, .int .i64 x.f2.f1] := ⟨[.int .i64 x.f0], [.int .i64 x.f1, .int .i64 x.f2.f0, .int .i64 x.f2.f1], rfl, rfl, ⟨[.int .i64 x.f1], [.int .i64 x.f2.f0, .int .i64 x.f2.f1], rfl, rfl, (k35_mk w x.f2 )⟩⟩
theorem k68_mkM (w : World) (base : Nat) (ok : Nat → Prop) (x : S68)  : k68.M w base ok x [.int .i64 x.f0, .int .i64 x.f1, .int .i64 x.f2.f0, .int .i64 x.f2.f1] := ⟨[.int .i64 x.f0], [.int .i64 x.f1, .int .i64 x.f2.f0, .int .i64 x.f2.f1], rfl, rfl, ⟨[.int .i64 x.f1], [.int .i64 x.f2.f0, .int .i64 x.f2.f1], rfl, rfl, (k35_mkM w base ok x.f2 )⟩⟩
theorem k68_mkF (W : World) (ok : Nat → Prop) (x : S68) : Kd.FK k68 W ok x [.int .i64 x.f0, .int .i64 x.f1, .int .i64 x.f2.f0, .int .i64 x.f2.f1] := fun W2 _ => k68_mk W2 x
def rd_T68 (xs : List S68) (i : Int) : S68 := xs.getD i.toNat z68
theorem at_T68 {w : World} {A : Option Addr} {n : Nat} {xs : List S68} (h : Kd.C k68 w A n xs) (i : Int) (h0 : 0 ≤ i) (h1 : i < n) : ∃ ad , A = some ad ∧ w.cell? (ad.add (i.toNat * 4)) = some (.int .i64 (rd_T68 xs i).f0) ∧ w.cell? ⟨(ad.add (i.toNat * 4)).block, (ad.add (i.toNat * 4)).off + 1, none⟩ = some (.int .i64 (rd_T68 xs i).f1) ∧ w.cell? ⟨(ad.add (i.toNat * 4)).block, (ad.add (i.toNat * 4)).off + 2, none⟩ = some (.int .i64 (rd_T68 xs i).f2.f0) ∧ w.cell? ⟨(ad.add (i.toNat * 4)).block, (ad.add (i.toNat * 4)).off + 3, none⟩ = some (.int .i64 (rd_T68 xs i).f2.f1) := by
  obtain ⟨ad, c, e, _, hK, hc0⟩ := Kd.C_get h z68 i h0 h1
  have hc : ∀ j u, c[j]? = some u → w.cell? (ad.add (i.toNat * 4 + j)) = some u := hc0
  obtain rfl := k68_open hK
  exact ⟨ad, e, hc 0 _ rfl, by rw [← add_field _ _ 1 (by omega)]; exact hc 1 _ rfl, by rw [← add_field _ _ 2 (by omega)]; exact hc 2 _ rfl, by rw [← add_field _ _ 3 (by omega)]; exact hc 3 _ rfl⟩

end Go.Proofs.Ytbomgfbfnkfamaa.PAll
end
section
namespace Go.Proofs.Ytbomgfbfnkfamaa.PAll
open Go.RowKit Go.Proofs.YtbomgfbfnkfamaaW.PrintWords Go.Proofs.YtbomgfbfnkfamaaW.PrintLast Go.Proofs.YtbomgfbfnkfamaaW.PrintMore
attribute [local go_sem] max2_int min2_int max_two min_two max_three min_three max_four min_four   -- for this text's walks alone
set_option linter.unusedVariables false
set_option linter.unusedSimpArgs false

/-! ### curve_voltages: function 67 -/
def curve_voltages.f (a0 : Int) (a1 : Int) : Option (Bool) := if a0 ≥ (-1000000) then (if a0 ≤ 1000000 then (if a1 ≥ 0 then (some (decide (a1 ≤ 1000000))) else (some false)) else (some false)) else (some false)
set_option maxHeartbeats 8000000 in
set_option maxRecDepth 100000 in
theorem curve_voltages.calls (a0 : Int) (a1 : Int) (r : Bool) (w : World) (h : curve_voltages.f a0 a1 = some r) :
    Calls Try.prog 67 #[.int .i64 a0, .int .i64 a1] w fun e w' => e = .returned (.bool r) ∧ Drawn0 w w' := by
  have H : (if a0 ≥ (-1000000) then (if a0 ≤ 1000000 then (if a1 ≥ 0 then (some (decide (a1 ≤ 1000000))) else (some false)) else (some false)) else (some false)) = some r := h
  clear h
  by_cases c3 : a0 ≥ (-1000000)
  · rw [if_pos c3] at H
    have c3b0 : decide ((-1000000) ≤ a0) = true := decide_eq_true c3
    clear c3
    by_cases c4 : a0 ≤ 1000000
    · rw [if_pos c4] at H
      have c4b0 : decide (a0 ≤ 1000000) = true := decide_eq_true c4
      clear c4
      by_cases c5 : a1 ≥ 0
      · rw [if_pos c5] at H
        have c5b0 : decide (0 ≤ a1) = true := decide_eq_true c5
        clear c5
        obtain rfl := Option.some.inj H
        go_enter Try.func67, Try.ntmps67
        go_wp2
        go_ret
        exact ⟨by first | rfl | (simp; done) | (simp [*]; done), by repeat (first | exact Drawn0.refl _ | apply Drawn0.step)⟩
      · rw [if_neg c5] at H
        have c5b0 : decide (0 ≤ a1) = false := decide_eq_false c5
        clear c5
        obtain rfl := Option.some.inj H
        go_enter Try.func67, Try.ntmps67
        go_wp2
        go_ret
        exact ⟨by first | rfl | (simp; done) | (simp [*]; done), by repeat (first | exact Drawn0.refl _ | apply Drawn0.step)⟩
    · rw [if_neg c4] at H
      have c4b0 : decide (a0 ≤ 1000000) = false := decide_eq_false c4
      clear c4
      obtain rfl := Option.some.inj H
      go_enter Try.func67, Try.ntmps67
      go_wp2
      go_ret
      exact ⟨by first | rfl | (simp; done) | (simp [*]; done), by repeat (first | exact Drawn0.refl _ | apply Drawn0.step)⟩
  · rw [if_neg c3] at H
    have c3b0 : decide ((-1000000) ≤ a0) = false := decide_eq_false c3
    clear c3
    obtain rfl := Option.some.inj H
    go_enter Try.func67, Try.ntmps67
    go_wp2
    go_ret
    exact ⟨by first | rfl | (simp; done) | (simp [*]; done), by repeat (first | exact Drawn0.refl _ | apply Drawn0.step)⟩

end Go.Proofs.Ytbomgfbfnkfamaa.PAll
end
section
namespace Go.Proofs.Ytbomgfbfnkfamaa.PAll
open Go.RowKit Go.Proofs.YtbomgfbfnkfamaaW.PrintWords Go.Proofs.YtbomgfbfnkfamaaW.PrintLast Go.Proofs.YtbomgfbfnkfamaaW.PrintMore
attribute [local go_sem] max2_int min2_int max_two min_two max_three min_three max_four min_four   -- for this text's walks alone
set_option linter.unusedVariables false
set_option linter.unusedSimpArgs false

/-! ### curve_within: function 86 -/
def curve_within.f (a0_0 : Int) (a0_1 : Int) (a1 : Int) (a2 : Int) : Option (Int) := if a0_0 > a0_1 then (some 11) else (if a0_0 < a1 then (some 2) else (if a0_1 > a2 then (some 2) else (some 0)))
set_option maxHeartbeats 8000000 in
set_option maxRecDepth 100000 in
theorem curve_within.calls (a0_0 : Int) (a0_1 : Int) (a1 : Int) (a2 : Int) (r : Int) (w : World) (h : curve_within.f a0_0 a0_1 a1 a2 = some r) :
    Calls Try.prog 86 #[.agg #[.int .i64 a0_0, .int .i64 a0_1], .int .i64 a1, .int .i64 a2] w fun e w' => e = .returned (.int .i64 r) ∧ Below w.heap.size w w' := by
  have hu35 := Try.underlying35
  have HB := Aside0.mk (Below.refl w.heap.size w)
  have H : (if a0_0 > a0_1 then (some 11) else (if a0_0 < a1 then (some 2) else (if a0_1 > a2 then (some 2) else (some 0)))) = some r := h
  clear h
  by_cases c4 : a0_0 > a0_1
  · rw [if_pos c4] at H
    have c4b0 : decide (a0_1 < a0_0) = true := decide_eq_true c4
    clear c4
    obtain rfl := Option.some.inj H
    go_enter Try.func86, Try.ntmps86
    go_wp2_with (first | ((with_reducible refine gate_dst (N := 3) rfl ?_); refine box_event ?hg (N := 3) ?hd (cs := #[.int .i64 a0_0, .int .i64 a0_1]) (t := 35) ?hr ?_; (case hd => rfl); (case hg => rfl); (case hr => first | (go_simp; done) | (go_simp; rfl)); intro gb101 hg w5 hbox hb; have n0_ := Aside0.mk (below_step (by repeat (first | (with_reducible first | exact HB.out | apply qA | apply qN | apply qD) | exact HB.out)) hb); have n1_ := Aside0.mk (hbox); have n2_ := Aside0.mk ((by rw [hg]; exact (below_size (by repeat (first | (with_reducible first | exact HB.out | apply qA | apply qN | apply qD) | exact HB.out))) : w.heap.size ≤ gb101)); have n3_ := Aside0.mk ((by rw [hg]; exact (below_size (by repeat (first | (with_reducible first | exact HB.out | apply qA | apply qN | apply qD) | exact HB.out))) : w.heap.size ≤ gb101)); clear HB; have HB := n0_; have BK101 := n1_; have GW101 := n2_; have GE101 := n3_; clear n0_ n1_ n2_ n3_; clear hb hbox hg; have hcz6_0 : w5.cell? ⟨gb101, 0, none⟩ = some (.int .i64 a0_0) := (blk_cell BK101.out 0).trans rfl; have hcz6_1 : w5.cell? ⟨gb101, 1, none⟩ = some (.int .i64 a0_1) := (blk_cell BK101.out 1).trans rfl; have hfz6_0 := blk_frozen BK101.out 0; have hfz6_1 := blk_frozen BK101.out 1))
    go_ret
    exact ⟨by first | rfl | (simp [errW_none, errW_some] <;> rfl) | (simp [*, errW_none, errW_some] <;> rfl), by repeat (first | (with_reducible first | exact HB.out | apply qA | apply qN | apply qD | refine below_set ?_ GE101.out) | exact HB.out)⟩
  · rw [if_neg c4] at H
    have c4b0 : decide (a0_1 < a0_0) = false := decide_eq_false c4
    clear c4
    by_cases c7 : a0_0 < a1
    · rw [if_pos c7] at H
      have c7b0 : decide (a0_0 < a1) = true := decide_eq_true c7
      clear c7
      obtain rfl := Option.some.inj H
      go_enter Try.func86, Try.ntmps86
      go_wp2_with (first | ((with_reducible refine gate_dst (N := 3) rfl ?_); refine box_event ?hg (N := 3) ?hd (cs := #[.int .i64 a0_0, .int .i64 a0_1]) (t := 35) ?hr ?_; (case hd => rfl); (case hg => rfl); (case hr => first | (go_simp; done) | (go_simp; rfl)); intro gb101 hg w8 hbox hb; have n0_ := Aside0.mk (below_step (by repeat (first | (with_reducible first | exact HB.out | apply qA | apply qN | apply qD) | exact HB.out)) hb); have n1_ := Aside0.mk (hbox); have n2_ := Aside0.mk ((by rw [hg]; exact (below_size (by repeat (first | (with_reducible first | exact HB.out | apply qA | apply qN | apply qD) | exact HB.out))) : w.heap.size ≤ gb101)); have n3_ := Aside0.mk ((by rw [hg]; exact (below_size (by repeat (first | (with_reducible first | exact HB.out | apply qA | apply qN | apply qD) | exact HB.out))) : w.heap.size ≤ gb101)); clear HB; have HB := n0_; have BK101 := n1_; have GW101 := n2_; have GE101 := n3_; clear n0_ n1_ n2_ n3_; clear hb hbox hg; have hcz9_0 : w8.cell? ⟨gb101, 0, none⟩ = some (.int .i64 a0_0) := (blk_cell BK101.out 0).trans rfl; have hcz9_1 : w8.cell? ⟨gb101, 1, none⟩ = some (.int .i64 a0_1) := (blk_cell BK101.out 1).trans rfl; have hfz9_0 := blk_frozen BK101.out 0; have hfz9_1 := blk_frozen BK101.out 1))
      go_ret
      exact ⟨by first | rfl | (simp [errW_none, errW_some] <;> rfl) | (simp [*, errW_none, errW_some] <;> rfl), by repeat (first | (with_reducible first | exact HB.out | apply qA | apply qN | apply qD | refine below_set ?_ GE101.out) | exact HB.out)⟩
    · rw [if_neg c7] at H
      have c7b0 : decide (a0_0 < a1) = false := decide_eq_false c7
      clear c7
      by_cases c10 : a0_1 > a2
      · rw [if_pos c10] at H
        have c10b0 : decide (a2 < a0_1) = true := decide_eq_true c10
        clear c10
        obtain rfl := Option.some.inj H
        go_enter Try.func86, Try.ntmps86
        go_wp2_with (first | ((with_reducible refine gate_dst (N := 3) rfl ?_); refine box_event ?hg (N := 3) ?hd (cs := #[.int .i64 a0_0, .int .i64 a0_1]) (t := 35) ?hr ?_; (case hd => rfl); (case hg => rfl); (case hr => first | (go_simp; done) | (go_simp; rfl)); intro gb101 hg w11 hbox hb; have n0_ := Aside0.mk (below_step (by repeat (first | (with_reducible first | exact HB.out | apply qA | apply qN | apply qD) | exact HB.out)) hb); have n1_ := Aside0.mk (hbox); have n2_ := Aside0.mk ((by rw [hg]; exact (below_size (by repeat (first | (with_reducible first | exact HB.out | apply qA | apply qN | apply qD) | exact HB.out))) : w.heap.size ≤ gb101)); have n3_ := Aside0.mk ((by rw [hg]; exact (below_size (by repeat (first | (with_reducible first | exact HB.out | apply qA | apply qN | apply qD) | exact HB.out))) : w.heap.size ≤ gb101)); clear HB; have HB := n0_; have BK101 := n1_; have GW101 := n2_; have GE101 := n3_; clear n0_ n1_ n2_ n3_; clear hb hbox hg; have hcz12_0 : w11.cell? ⟨gb101, 0, none⟩ = some (.int .i64 a0_0) := (blk_cell BK101.out 0).trans rfl; have hcz12_1 : w11.cell? ⟨gb101, 1, none⟩ = some (.int .i64 a0_1) := (blk_cell BK101.out 1).trans rfl; have hfz12_0 := blk_frozen BK101.out 0; have hfz12_1 := blk_frozen BK101.out 1))
        go_ret
        exact ⟨by first | rfl | (simp [errW_none, errW_some] <;> rfl) | (simp [*, errW_none, errW_some] <;> rfl), by repeat (first | (with_reducible first | exact HB.out | apply qA | apply qN | apply qD | refine below_set ?_ GE101.out) | exact HB.out)⟩
      · rw [if_neg c10] at H
        have c10b0 : decide (a2 < a0_1) = false := decide_eq_false c10
        clear c10
        obtain rfl := Option.some.inj H
        go_enter Try.func86, Try.ntmps86
        go_wp2_with (first | ((with_reducible refine gate_dst (N := 3) rfl ?_); refine box_event ?hg (N := 3) ?hd (cs := #[.int .i64 a0_0, .int .i64 a0_1]) (t := 35) ?hr ?_; (case hd => rfl); (case hg => rfl); (case hr => first | (go_simp; done) | (go_simp; rfl)); intro gb101 hg w13 hbox hb; have n0_ := Aside0.mk (below_step (by repeat (first | (with_reducible first | exact HB.out | apply qA | apply qN | apply qD) | exact HB.out)) hb); have n1_ := Aside0.mk (hbox); have n2_ := Aside0.mk ((by rw [hg]; exact (below_size (by repeat (first | (with_reducible first | exact HB.out | apply qA | apply qN | apply qD) | exact HB.out))) : w.heap.size ≤ gb101)); have n3_ := Aside0.mk ((by rw [hg]; exact (below_size (by repeat (first | (with_reducible first | exact HB.out | apply qA | apply qN | apply qD) | exact HB.out))) : w.heap.size ≤ gb101)); clear HB; have HB := n0_; have BK101 := n1_; have GW101 := n2_; have GE101 := n3_; clear n0_ n1_ n2_ n3_; clear hb hbox hg; have hcz14_0 : w13.cell? ⟨gb101, 0, none⟩ = some (.int .i64 a0_0) := (blk_cell BK101.out 0).trans rfl; have hcz14_1 : w13.cell? ⟨gb101, 1, none⟩ = some (.int .i64 a0_1) := (blk_cell BK101.out 1).trans rfl; have hfz14_0 := blk_frozen BK101.out 0; have hfz14_1 := blk_frozen BK101.out 1))
        go_ret
        exact ⟨by first | rfl | (simp [errW_none, errW_some] <;> rfl) | (simp [*, errW_none, errW_some] <;> rfl), by repeat (first | (with_reducible first | exact HB.out | apply qA | apply qN | apply qD | refine below_set ?_ GE101.out) | exact HB.out)⟩

end Go.Proofs.Ytbomgfbfnkfamaa.PAll
end
section
namespace Go.Proofs.Ytbomgfbfnkfamaa.PAll
open Go.RowKit Go.Proofs.YtbomgfbfnkfamaaW.PrintWords Go.Proofs.YtbomgfbfnkfamaaW.PrintLast Go.Proofs.YtbomgfbfnkfamaaW.PrintMore
attribute [local go_sem] max2_int min2_int max_two min_two max_three min_three max_four min_four   -- for this text's walks alone
set_option linter.unusedVariables false
set_option linter.unusedSimpArgs false

/-! ### curve_CheckLaw: function 33 -/
def curve_CheckLaw.f (a0_0 : Int) (a0_1 : Int) (a0_2 : Int) (a0_3 : Int) (a0_4 : Int) (a0_5 : Int) (a0_6 : Int) (a0_7 : Int) (a0_8 : Int) (a0_9 : Int) : Option (Int) :=
  (curve_within.f a0_0 a0_1 0 1000000).bind fun e0 => if e0 = 0 then ((curve_within.f a0_2 a0_3 1 1000000).bind fun e1 => if e1 = 0 then ((curve_within.f a0_4 a0_5 (-1000000) 1000000).bind fun e2 => if e2 = 0 then ((curve_within.f a0_6 a0_7 0 1000000).bind fun e3 => if e3 = 0 then ((curve_within.f a0_8 a0_9 0 1000000).bind fun e4 => if e4 = 0 then (some 0) else some e4) else some e3) else some e2) else some e1) else some e0
theorem below_callL {w W W' : World} (h : Below w.heap.size w W) (k : Below W.heap.size W W') : Below w.heap.size w W' := below_then h h.size k
set_option maxHeartbeats 8000000 in
set_option maxRecDepth 100000 in
theorem curve_CheckLaw.calls (a0_0 : Int) (a0_1 : Int) (a0_2 : Int) (a0_3 : Int) (a0_4 : Int) (a0_5 : Int) (a0_6 : Int) (a0_7 : Int) (a0_8 : Int) (a0_9 : Int) (r : Int) (w : World) (h : curve_CheckLaw.f a0_0 a0_1 a0_2 a0_3 a0_4 a0_5 a0_6 a0_7 a0_8 a0_9 = some r) :
    Calls Try.prog 33 #[.agg #[.int .i64 a0_0, .int .i64 a0_1, .int .i64 a0_2, .int .i64 a0_3, .int .i64 a0_4, .int .i64 a0_5, .int .i64 a0_6, .int .i64 a0_7, .int .i64 a0_8, .int .i64 a0_9]] w fun e w' => e = .returned (.int .i64 r) ∧ Below w.heap.size w w' := by
  have i0 : ∀ W : World, (Instr.index 100 (.agg #[.int .i64 a0_0, .int .i64 a0_1, .int .i64 0, .int .i64 1000000, .int .i64 a0_2, .int .i64 a0_3, .int .i64 1, .int .i64 1000000, .int .i64 a0_4, .int .i64 a0_5, .int .i64 (-1000000), .int .i64 1000000, .int .i64 a0_6, .int .i64 a0_7, .int .i64 0, .int .i64 1000000, .int .i64 a0_8, .int .i64 a0_9, .int .i64 0, .int .i64 1000000]) (.int .i64 0)).run Try.prog W = .ok (.agg #[.int .i64 a0_0, .int .i64 a0_1, .int .i64 0, .int .i64 1000000]) W := fun W => by kernel_rfl
  have i1 : ∀ W : World, (Instr.index 100 (.agg #[.int .i64 a0_0, .int .i64 a0_1, .int .i64 0, .int .i64 1000000, .int .i64 a0_2, .int .i64 a0_3, .int .i64 1, .int .i64 1000000, .int .i64 a0_4, .int .i64 a0_5, .int .i64 (-1000000), .int .i64 1000000, .int .i64 a0_6, .int .i64 a0_7, .int .i64 0, .int .i64 1000000, .int .i64 a0_8, .int .i64 a0_9, .int .i64 0, .int .i64 1000000]) (.int .i64 1)).run Try.prog W = .ok (.agg #[.int .i64 a0_2, .int .i64 a0_3, .int .i64 1, .int .i64 1000000]) W := fun W => by kernel_rfl
  have i2 : ∀ W : World, (Instr.index 100 (.agg #[.int .i64 a0_0, .int .i64 a0_1, .int .i64 0, .int .i64 1000000, .int .i64 a0_2, .int .i64 a0_3, .int .i64 1, .int .i64 1000000, .int .i64 a0_4, .int .i64 a0_5, .int .i64 (-1000000), .int .i64 1000000, .int .i64 a0_6, .int .i64 a0_7, .int .i64 0, .int .i64 1000000, .int .i64 a0_8, .int .i64 a0_9, .int .i64 0, .int .i64 1000000]) (.int .i64 2)).run Try.prog W = .ok (.agg #[.int .i64 a0_4, .int .i64 a0_5, .int .i64 (-1000000), .int .i64 1000000]) W := fun W => by kernel_rfl
  have i3 : ∀ W : World, (Instr.index 100 (.agg #[.int .i64 a0_0, .int .i64 a0_1, .int .i64 0, .int .i64 1000000, .int .i64 a0_2, .int .i64 a0_3, .int .i64 1, .int .i64 1000000, .int .i64 a0_4, .int .i64 a0_5, .int .i64 (-1000000), .int .i64 1000000, .int .i64 a0_6, .int .i64 a0_7, .int .i64 0, .int .i64 1000000, .int .i64 a0_8, .int .i64 a0_9, .int .i64 0, .int .i64 1000000]) (.int .i64 3)).run Try.prog W = .ok (.agg #[.int .i64 a0_6, .int .i64 a0_7, .int .i64 0, .int .i64 1000000]) W := fun W => by kernel_rfl
  have i4 : ∀ W : World, (Instr.index 100 (.agg #[.int .i64 a0_0, .int .i64 a0_1, .int .i64 0, .int .i64 1000000, .int .i64 a0_2, .int .i64 a0_3, .int .i64 1, .int .i64 1000000, .int .i64 a0_4, .int .i64 a0_5, .int .i64 (-1000000), .int .i64 1000000, .int .i64 a0_6, .int .i64 a0_7, .int .i64 0, .int .i64 1000000, .int .i64 a0_8, .int .i64 a0_9, .int .i64 0, .int .i64 1000000]) (.int .i64 4)).run Try.prog W = .ok (.agg #[.int .i64 a0_8, .int .i64 a0_9, .int .i64 0, .int .i64 1000000]) W := fun W => by kernel_rfl
  unfold curve_CheckLaw.f at h
  obtain ⟨e0, B0, h⟩ := Option.bind_eq_some_iff.mp h
  have A0 := Aside0.mk B0
  clear B0
  by_cases z0 : e0 = 0
  · subst z0
    rw [if_pos rfl] at h
    obtain ⟨e1, B1, h⟩ := Option.bind_eq_some_iff.mp h
    have A1 := Aside0.mk B1
    clear B1
    by_cases z1 : e1 = 0
    · subst z1
      rw [if_pos rfl] at h
      obtain ⟨e2, B2, h⟩ := Option.bind_eq_some_iff.mp h
      have A2 := Aside0.mk B2
      clear B2
      by_cases z2 : e2 = 0
      · subst z2
        rw [if_pos rfl] at h
        obtain ⟨e3, B3, h⟩ := Option.bind_eq_some_iff.mp h
        have A3 := Aside0.mk B3
        clear B3
        by_cases z3 : e3 = 0
        · subst z3
          rw [if_pos rfl] at h
          obtain ⟨e4, B4, h⟩ := Option.bind_eq_some_iff.mp h
          have A4 := Aside0.mk B4
          clear B4
          by_cases z4 : e4 = 0
          · subst z4
            rw [if_pos rfl] at h
            obtain rfl := Option.some.inj h
            go_enter Try.func33, Try.ntmps33
            go_wp2_with fail
            refine wp_loop_rounds 6 ?_
            have HB := Aside0.mk (qA (Below.refl w.heap.size w) (Obj.cells #[Value.int IntKind.i64 a0_0, Value.int IntKind.i64 a0_1, Value.int IntKind.i64 a0_2, Value.int IntKind.i64 a0_3, Value.int IntKind.i64 a0_4, Value.int IntKind.i64 a0_5, Value.int IntKind.i64 a0_6, Value.int IntKind.i64 a0_7, Value.int IntKind.i64 a0_8, Value.int IntKind.i64 a0_9] 42))
            rw [rounds_succ]
            go_wp2_with (go_at_call 86; go_loud (refine (curve_within.calls _ _ _ _ _ _ A0.out).mono ?_); rintro e w' ⟨rfl, hb⟩; (have HB := Aside0.mk (below_callL (qA HB.out _) hb)); clear hb)
            rw [rounds_succ]
            go_wp2_with (go_at_call 86; go_loud (refine (curve_within.calls _ _ _ _ _ _ A1.out).mono ?_); rintro e w' ⟨rfl, hb⟩; (have HB := Aside0.mk (below_callL (qA HB.out _) hb)); clear hb)
            rw [rounds_succ]
            go_wp2_with (go_at_call 86; go_loud (refine (curve_within.calls _ _ _ _ _ _ A2.out).mono ?_); rintro e w' ⟨rfl, hb⟩; (have HB := Aside0.mk (below_callL (qA HB.out _) hb)); clear hb)
            rw [rounds_succ]
            go_wp2_with (go_at_call 86; go_loud (refine (curve_within.calls _ _ _ _ _ _ A3.out).mono ?_); rintro e w' ⟨rfl, hb⟩; (have HB := Aside0.mk (below_callL (qA HB.out _) hb)); clear hb)
            rw [rounds_succ]
            go_wp2_with (go_at_call 86; go_loud (refine (curve_within.calls _ _ _ _ _ _ A4.out).mono ?_); rintro e w' ⟨rfl, hb⟩; (have HB := Aside0.mk (below_callL (qA HB.out _) hb)); clear hb)
            rw [rounds_succ]
            go_wp2_with fail
            go_ret
            exact ⟨rfl, HB.out⟩
          · rw [if_neg z4] at h
            obtain rfl := Option.some.inj h
            go_enter Try.func33, Try.ntmps33
            go_wp2_with fail
            refine wp_loop_rounds 6 ?_
            have HB := Aside0.mk (qA (Below.refl w.heap.size w) (Obj.cells #[Value.int IntKind.i64 a0_0, Value.int IntKind.i64 a0_1, Value.int IntKind.i64 a0_2, Value.int IntKind.i64 a0_3, Value.int IntKind.i64 a0_4, Value.int IntKind.i64 a0_5, Value.int IntKind.i64 a0_6, Value.int IntKind.i64 a0_7, Value.int IntKind.i64 a0_8, Value.int IntKind.i64 a0_9] 42))
            rw [rounds_succ]
            go_wp2_with (go_at_call 86; go_loud (refine (curve_within.calls _ _ _ _ _ _ A0.out).mono ?_); rintro e w' ⟨rfl, hb⟩; (have HB := Aside0.mk (below_callL (qA HB.out _) hb)); clear hb)
            rw [rounds_succ]
            go_wp2_with (go_at_call 86; go_loud (refine (curve_within.calls _ _ _ _ _ _ A1.out).mono ?_); rintro e w' ⟨rfl, hb⟩; (have HB := Aside0.mk (below_callL (qA HB.out _) hb)); clear hb)
            rw [rounds_succ]
            go_wp2_with (go_at_call 86; go_loud (refine (curve_within.calls _ _ _ _ _ _ A2.out).mono ?_); rintro e w' ⟨rfl, hb⟩; (have HB := Aside0.mk (below_callL (qA HB.out _) hb)); clear hb)
            rw [rounds_succ]
            go_wp2_with (go_at_call 86; go_loud (refine (curve_within.calls _ _ _ _ _ _ A3.out).mono ?_); rintro e w' ⟨rfl, hb⟩; (have HB := Aside0.mk (below_callL (qA HB.out _) hb)); clear hb)
            rw [rounds_succ]
            go_wp2_with (go_at_call 86; go_loud (refine (curve_within.calls _ _ _ _ _ _ A4.out).mono ?_); rintro e w' ⟨rfl, hb⟩; (have HB := Aside0.mk (below_callL (qA HB.out _) hb)); clear hb)
            go_ret
            exact ⟨rfl, HB.out⟩
        · rw [if_neg z3] at h
          obtain rfl := Option.some.inj h
          go_enter Try.func33, Try.ntmps33
          go_wp2_with fail
          refine wp_loop_rounds 6 ?_
          have HB := Aside0.mk (qA (Below.refl w.heap.size w) (Obj.cells #[Value.int IntKind.i64 a0_0, Value.int IntKind.i64 a0_1, Value.int IntKind.i64 a0_2, Value.int IntKind.i64 a0_3, Value.int IntKind.i64 a0_4, Value.int IntKind.i64 a0_5, Value.int IntKind.i64 a0_6, Value.int IntKind.i64 a0_7, Value.int IntKind.i64 a0_8, Value.int IntKind.i64 a0_9] 42))
          rw [rounds_succ]
          go_wp2_with (go_at_call 86; go_loud (refine (curve_within.calls _ _ _ _ _ _ A0.out).mono ?_); rintro e w' ⟨rfl, hb⟩; (have HB := Aside0.mk (below_callL (qA HB.out _) hb)); clear hb)
          rw [rounds_succ]
          go_wp2_with (go_at_call 86; go_loud (refine (curve_within.calls _ _ _ _ _ _ A1.out).mono ?_); rintro e w' ⟨rfl, hb⟩; (have HB := Aside0.mk (below_callL (qA HB.out _) hb)); clear hb)
          rw [rounds_succ]
          go_wp2_with (go_at_call 86; go_loud (refine (curve_within.calls _ _ _ _ _ _ A2.out).mono ?_); rintro e w' ⟨rfl, hb⟩; (have HB := Aside0.mk (below_callL (qA HB.out _) hb)); clear hb)
          rw [rounds_succ]
          go_wp2_with (go_at_call 86; go_loud (refine (curve_within.calls _ _ _ _ _ _ A3.out).mono ?_); rintro e w' ⟨rfl, hb⟩; (have HB := Aside0.mk (below_callL (qA HB.out _) hb)); clear hb)
          go_ret
          exact ⟨rfl, HB.out⟩
      · rw [if_neg z2] at h
        obtain rfl := Option.some.inj h
        go_enter Try.func33, Try.ntmps33
        go_wp2_with fail
        refine wp_loop_rounds 6 ?_
        have HB := Aside0.mk (qA (Below.refl w.heap.size w) (Obj.cells #[Value.int IntKind.i64 a0_0, Value.int IntKind.i64 a0_1, Value.int IntKind.i64 a0_2, Value.int IntKind.i64 a0_3, Value.int IntKind.i64 a0_4, Value.int IntKind.i64 a0_5, Value.int IntKind.i64 a0_6, Value.int IntKind.i64 a0_7, Value.int IntKind.i64 a0_8, Value.int IntKind.i64 a0_9] 42))
        rw [rounds_succ]
        go_wp2_with (go_at_call 86; go_loud (refine (curve_within.calls _ _ _ _ _ _ A0.out).mono ?_); rintro e w' ⟨rfl, hb⟩; (have HB := Aside0.mk (below_callL (qA HB.out _) hb)); clear hb)
        rw [rounds_succ]
        go_wp2_with (go_at_call 86; go_loud (refine (curve_within.calls _ _ _ _ _ _ A1.out).mono ?_); rintro e w' ⟨rfl, hb⟩; (have HB := Aside0.mk (below_callL (qA HB.out _) hb)); clear hb)
        rw [rounds_succ]
        go_wp2_with (go_at_call 86; go_loud (refine (curve_within.calls _ _ _ _ _ _ A2.out).mono ?_); rintro e w' ⟨rfl, hb⟩; (have HB := Aside0.mk (below_callL (qA HB.out _) hb)); clear hb)
        go_ret
        exact ⟨rfl, HB.out⟩
    · rw [if_neg z1] at h
      obtain rfl := Option.some.inj h
      go_enter Try.func33, Try.ntmps33
      go_wp2_with fail
      refine wp_loop_rounds 6 ?_
      have HB := Aside0.mk (qA (Below.refl w.heap.size w) (Obj.cells #[Value.int IntKind.i64 a0_0, Value.int IntKind.i64 a0_1, Value.int IntKind.i64 a0_2, Value.int IntKind.i64 a0_3, Value.int IntKind.i64 a0_4, Value.int IntKind.i64 a0_5, Value.int IntKind.i64 a0_6, Value.int IntKind.i64 a0_7, Value.int IntKind.i64 a0_8, Value.int IntKind.i64 a0_9] 42))
      rw [rounds_succ]
      go_wp2_with (go_at_call 86; go_loud (refine (curve_within.calls _ _ _ _ _ _ A0.out).mono ?_); rintro e w' ⟨rfl, hb⟩; (have HB := Aside0.mk (below_callL (qA HB.out _) hb)); clear hb)
      rw [rounds_succ]
      go_wp2_with (go_at_call 86; go_loud (refine (curve_within.calls _ _ _ _ _ _ A1.out).mono ?_); rintro e w' ⟨rfl, hb⟩; (have HB := Aside0.mk (below_callL (qA HB.out _) hb)); clear hb)
      go_ret
      exact ⟨rfl, HB.out⟩
  · rw [if_neg z0] at h
    obtain rfl := Option.some.inj h
    go_enter Try.func33, Try.ntmps33
    go_wp2_with fail
    refine wp_loop_rounds 6 ?_
    have HB := Aside0.mk (qA (Below.refl w.heap.size w) (Obj.cells #[Value.int IntKind.i64 a0_0, Value.int IntKind.i64 a0_1, Value.int IntKind.i64 a0_2, Value.int IntKind.i64 a0_3, Value.int IntKind.i64 a0_4, Value.int IntKind.i64 a0_5, Value.int IntKind.i64 a0_6, Value.int IntKind.i64 a0_7, Value.int IntKind.i64 a0_8, Value.int IntKind.i64 a0_9] 42))
    rw [rounds_succ]
    go_wp2_with (go_at_call 86; go_loud (refine (curve_within.calls _ _ _ _ _ _ A0.out).mono ?_); rintro e w' ⟨rfl, hb⟩; (have HB := Aside0.mk (below_callL (qA HB.out _) hb)); clear hb)
    go_ret
    exact ⟨rfl, HB.out⟩

end Go.Proofs.Ytbomgfbfnkfamaa.PAll
end
section
namespace Go.Proofs.Ytbomgfbfnkfamaa.PAll
open Go.RowKit Go.Proofs.YtbomgfbfnkfamaaW.PrintWords Go.Proofs.YtbomgfbfnkfamaaW.PrintLast Go.Proofs.YtbomgfbfnkfamaaW.PrintMore
attribute [local go_sem] max2_int min2_int max_two min_two max_three min_three max_four min_four   -- for this text's walks alone
set_option linter.unusedVariables false
set_option linter.unusedSimpArgs false

/-! ### curve_asked: function 79 -/
def curve_asked.f (a0_0 : Int) (a0_1 : Int) (a0_2 : Int) (a0_3 : Int) (a0_4 : Int) (a0_5 : Int) (a0_6 : Int) (a0_7 : Int) (a0_8 : Int) (a0_9 : Int) (a1 : Int) (a2 : Int) : Option (Int) := (curve_CheckLaw.f a0_0 a0_1 a0_2 a0_3 a0_4 a0_5 a0_6 a0_7 a0_8 a0_9).bind fun t102 => (if t102 = 0 then ((curve_voltages.f a1 a2).bind fun t103 => (if t103 = true then (some 0) else (some 2))) else (some t102))
set_option maxHeartbeats 8000000 in
set_option maxRecDepth 100000 in
theorem curve_asked.calls (a0_0 : Int) (a0_1 : Int) (a0_2 : Int) (a0_3 : Int) (a0_4 : Int) (a0_5 : Int) (a0_6 : Int) (a0_7 : Int) (a0_8 : Int) (a0_9 : Int) (a1 : Int) (a2 : Int) (r : Int) (w : World) (h : curve_asked.f a0_0 a0_1 a0_2 a0_3 a0_4 a0_5 a0_6 a0_7 a0_8 a0_9 a1 a2 = some r) :
    Calls Try.prog 79 #[.agg #[.int .i64 a0_0, .int .i64 a0_1, .int .i64 a0_2, .int .i64 a0_3, .int .i64 a0_4, .int .i64 a0_5, .int .i64 a0_6, .int .i64 a0_7, .int .i64 a0_8, .int .i64 a0_9], .int .i64 a1, .int .i64 a2] w fun e w' => e = .returned (.int .i64 r) ∧ Below w.heap.size w w' := by
  have hu42 := Try.underlying42
  have HB := Aside0.mk (Below.refl w.heap.size w)
  have H : ((curve_CheckLaw.f a0_0 a0_1 a0_2 a0_3 a0_4 a0_5 a0_6 a0_7 a0_8 a0_9).bind fun t102 => (if t102 = 0 then ((curve_voltages.f a1 a2).bind fun t103 => (if t103 = true then (some 0) else (some 2))) else (some t102))) = some r := h
  clear h
  replace H := Option.bind_eq_some_iff.mp H
  obtain ⟨t102, A40, H⟩ := H
  replace H : (if t102 = 0 then ((curve_voltages.f a1 a2).bind fun t103 => (if t103 = true then (some 0) else (some 2))) else (some t102)) = some r := H
  have A4 := Aside0.mk A40
  clear A40
  by_cases c5 : t102 = 0
  · rw [if_pos c5] at H
    have c5b0 : (t102 == 0) = true := beq_iff_eq.mpr c5
    have c5b1 : (t102 != 0) = false := bne_eq_false_iff_eq.mpr c5
    clear c5
    replace H := Option.bind_eq_some_iff.mp H
    obtain ⟨t103, A60, H⟩ := H
    replace H : (if t103 = true then (some 0) else (some 2)) = some r := H
    have A6 := Aside0.mk A60
    clear A60
    by_cases c7 : t103 = true
    · subst c7
      have H1 : (some 0) = some r := by rw [if_pos rfl] at H; exact H
      clear H
      have H := H1
      clear H1
      obtain rfl := Option.some.inj H
      go_enter Try.func79, Try.ntmps79
      go_wp2_with (first | ((with_reducible refine gate_dst (N := 3) rfl ?_); refine box_event ?hg (N := 3) ?hd (cs := #[.int .i64 a0_0, .int .i64 a0_1, .int .i64 a0_2, .int .i64 a0_3, .int .i64 a0_4, .int .i64 a0_5, .int .i64 a0_6, .int .i64 a0_7, .int .i64 a0_8, .int .i64 a0_9]) (t := 42) ?hr ?_; (case hd => rfl); (case hg => rfl); (case hr => first | (go_simp; done) | (go_simp; rfl)); intro gb101 hg w8 hbox hb; have n0_ := Aside0.mk (below_step (by repeat (first | (with_reducible first | exact HB.out | apply qA | apply qN | apply qD) | exact HB.out)) hb); have n1_ := Aside0.mk (hbox); have n2_ := Aside0.mk ((by rw [hg]; exact (below_size (by repeat (first | (with_reducible first | exact HB.out | apply qA | apply qN | apply qD) | exact HB.out))) : w.heap.size ≤ gb101)); have n3_ := Aside0.mk ((by rw [hg]; exact (below_size (by repeat (first | (with_reducible first | exact HB.out | apply qA | apply qN | apply qD) | exact HB.out))) : w.heap.size ≤ gb101)); clear HB; have HB := n0_; have BK101 := n1_; have GW101 := n2_; have GE101 := n3_; clear n0_ n1_ n2_ n3_; clear hb hbox hg; have hcz9_0 : w8.cell? ⟨gb101, 0, none⟩ = some (.int .i64 a0_0) := (blk_cell BK101.out 0).trans rfl; have hcz9_1 : w8.cell? ⟨gb101, 1, none⟩ = some (.int .i64 a0_1) := (blk_cell BK101.out 1).trans rfl; have hcz9_2 : w8.cell? ⟨gb101, 2, none⟩ = some (.int .i64 a0_2) := (blk_cell BK101.out 2).trans rfl; have hcz9_3 : w8.cell? ⟨gb101, 3, none⟩ = some (.int .i64 a0_3) := (blk_cell BK101.out 3).trans rfl; have hcz9_4 : w8.cell? ⟨gb101, 4, none⟩ = some (.int .i64 a0_4) := (blk_cell BK101.out 4).trans rfl; have hcz9_5 : w8.cell? ⟨gb101, 5, none⟩ = some (.int .i64 a0_5) := (blk_cell BK101.out 5).trans rfl; have hcz9_6 : w8.cell? ⟨gb101, 6, none⟩ = some (.int .i64 a0_6) := (blk_cell BK101.out 6).trans rfl; have hcz9_7 : w8.cell? ⟨gb101, 7, none⟩ = some (.int .i64 a0_7) := (blk_cell BK101.out 7).trans rfl; have hcz9_8 : w8.cell? ⟨gb101, 8, none⟩ = some (.int .i64 a0_8) := (blk_cell BK101.out 8).trans rfl; have hcz9_9 : w8.cell? ⟨gb101, 9, none⟩ = some (.int .i64 a0_9) := (blk_cell BK101.out 9).trans rfl; have hfz9_0 := blk_frozen BK101.out 0; have hfz9_1 := blk_frozen BK101.out 1; have hfz9_2 := blk_frozen BK101.out 2; have hfz9_3 := blk_frozen BK101.out 3; have hfz9_4 := blk_frozen BK101.out 4; have hfz9_5 := blk_frozen BK101.out 5; have hfz9_6 := blk_frozen BK101.out 6; have hfz9_7 := blk_frozen BK101.out 7; have hfz9_8 := blk_frozen BK101.out 8; have hfz9_9 := blk_frozen BK101.out 9) | ((with_reducible refine gate_callee (f := 33) rfl ?_); refine goesL_ (some 9) rfl rfl Try.func33 (by kernel_rfl) rfl #[.agg #[.int .i64 a0_0, .int .i64 a0_1, .int .i64 a0_2, .int .i64 a0_3, .int .i64 a0_4, .int .i64 a0_5, .int .i64 a0_6, .int .i64 a0_7, .int .i64 a0_8, .int .i64 a0_9]] rfl (by (try simp only [List.map_toArray, List.map_cons, List.map_nil]); first | done | rfl | (simp only [List.length_drop, List.length_take]; rfl)) ?_; (with_reducible refine (curve_CheckLaw.calls a0_0 a0_1 a0_2 a0_3 a0_4 a0_5 a0_6 a0_7 a0_8 a0_9 t102 _ A4.out).mono ?_); rintro e w10 ⟨rfl, hb⟩; refine ⟨_, rfl, ?_⟩; have n0_ := Aside0.mk (blk_below (by (with_reducible repeat (first | refine qn ?_ _ | refine qd ?_ | refine qa ?_ _)); exact BK101.out) hb); have n1_ := Aside0.mk (below_step (by repeat (first | (with_reducible first | exact HB.out | apply qA | apply qN | apply qD | refine below_set ?_ GE101.out) | exact HB.out)) hb); clear BK101; clear HB; have BK101 := n0_; have HB := n1_; clear n0_ n1_; (try clear hb); (try clear hb2); (try clear hk); (try clear hi)) | ((with_reducible refine gate_callee (f := 67) rfl ?_); refine goesL_ (some 15) rfl rfl Try.func67 (by kernel_rfl) rfl #[.int .i64 a1, .int .i64 a2] rfl (by (try simp only [List.map_toArray, List.map_cons, List.map_nil]); first | done | rfl | (simp only [List.length_drop, List.length_take]; rfl)) ?_; (with_reducible refine (curve_voltages.calls a1 a2 true _ A6.out).mono ?_); rintro e w' ⟨rfl, ⟨nd, rfl⟩⟩; refine ⟨_, rfl, ?_⟩))
      go_ret
      exact ⟨by first | rfl | (simp [errW_none, errW_some] <;> rfl) | (simp [*, errW_none, errW_some] <;> rfl), by repeat (first | (with_reducible first | exact HB.out | apply qA | apply qN | apply qD | refine below_set ?_ GE101.out) | exact HB.out)⟩
    · replace c7 := Bool.eq_false_iff.mpr c7
      subst c7
      have H1 : (some 2) = some r := by rw [if_neg (show ¬ (false = true) by decide)] at H; exact H
      clear H
      have H := H1
      clear H1
      obtain rfl := Option.some.inj H
      go_enter Try.func79, Try.ntmps79
      go_wp2_with (first | ((with_reducible refine gate_dst (N := 3) rfl ?_); refine box_event ?hg (N := 3) ?hd (cs := #[.int .i64 a0_0, .int .i64 a0_1, .int .i64 a0_2, .int .i64 a0_3, .int .i64 a0_4, .int .i64 a0_5, .int .i64 a0_6, .int .i64 a0_7, .int .i64 a0_8, .int .i64 a0_9]) (t := 42) ?hr ?_; (case hd => rfl); (case hg => rfl); (case hr => first | (go_simp; done) | (go_simp; rfl)); intro gb101 hg w11 hbox hb; have n0_ := Aside0.mk (below_step (by repeat (first | (with_reducible first | exact HB.out | apply qA | apply qN | apply qD) | exact HB.out)) hb); have n1_ := Aside0.mk (hbox); have n2_ := Aside0.mk ((by rw [hg]; exact (below_size (by repeat (first | (with_reducible first | exact HB.out | apply qA | apply qN | apply qD) | exact HB.out))) : w.heap.size ≤ gb101)); have n3_ := Aside0.mk ((by rw [hg]; exact (below_size (by repeat (first | (with_reducible first | exact HB.out | apply qA | apply qN | apply qD) | exact HB.out))) : w.heap.size ≤ gb101)); clear HB; have HB := n0_; have BK101 := n1_; have GW101 := n2_; have GE101 := n3_; clear n0_ n1_ n2_ n3_; clear hb hbox hg; have hcz12_0 : w11.cell? ⟨gb101, 0, none⟩ = some (.int .i64 a0_0) := (blk_cell BK101.out 0).trans rfl; have hcz12_1 : w11.cell? ⟨gb101, 1, none⟩ = some (.int .i64 a0_1) := (blk_cell BK101.out 1).trans rfl; have hcz12_2 : w11.cell? ⟨gb101, 2, none⟩ = some (.int .i64 a0_2) := (blk_cell BK101.out 2).trans rfl; have hcz12_3 : w11.cell? ⟨gb101, 3, none⟩ = some (.int .i64 a0_3) := (blk_cell BK101.out 3).trans rfl; have hcz12_4 : w11.cell? ⟨gb101, 4, none⟩ = some (.int .i64 a0_4) := (blk_cell BK101.out 4).trans rfl; have hcz12_5 : w11.cell? ⟨gb101, 5, none⟩ = some (.int .i64 a0_5) := (blk_cell BK101.out 5).trans rfl; have hcz12_6 : w11.cell? ⟨gb101, 6, none⟩ = some (.int .i64 a0_6) := (blk_cell BK101.out 6).trans rfl; have hcz12_7 : w11.cell? ⟨gb101, 7, none⟩ = some (.int .i64 a0_7) := (blk_cell BK101.out 7).trans rfl; have hcz12_8 : w11.cell? ⟨gb101, 8, none⟩ = some (.int .i64 a0_8) := (blk_cell BK101.out 8).trans rfl; have hcz12_9 : w11.cell? ⟨gb101, 9, none⟩ = some (.int .i64 a0_9) := (blk_cell BK101.out 9).trans rfl; have hfz12_0 := blk_frozen BK101.out 0; have hfz12_1 := blk_frozen BK101.out 1; have hfz12_2 := blk_frozen BK101.out 2; have hfz12_3 := blk_frozen BK101.out 3; have hfz12_4 := blk_frozen BK101.out 4; have hfz12_5 := blk_frozen BK101.out 5; have hfz12_6 := blk_frozen BK101.out 6; have hfz12_7 := blk_frozen BK101.out 7; have hfz12_8 := blk_frozen BK101.out 8; have hfz12_9 := blk_frozen BK101.out 9) | ((with_reducible refine gate_callee (f := 33) rfl ?_); refine goesL_ (some 9) rfl rfl Try.func33 (by kernel_rfl) rfl #[.agg #[.int .i64 a0_0, .int .i64 a0_1, .int .i64 a0_2, .int .i64 a0_3, .int .i64 a0_4, .int .i64 a0_5, .int .i64 a0_6, .int .i64 a0_7, .int .i64 a0_8, .int .i64 a0_9]] rfl (by (try simp only [List.map_toArray, List.map_cons, List.map_nil]); first | done | rfl | (simp only [List.length_drop, List.length_take]; rfl)) ?_; (with_reducible refine (curve_CheckLaw.calls a0_0 a0_1 a0_2 a0_3 a0_4 a0_5 a0_6 a0_7 a0_8 a0_9 t102 _ A4.out).mono ?_); rintro e w13 ⟨rfl, hb⟩; refine ⟨_, rfl, ?_⟩; have n0_ := Aside0.mk (blk_below (by (with_reducible repeat (first | refine qn ?_ _ | refine qd ?_ | refine qa ?_ _)); exact BK101.out) hb); have n1_ := Aside0.mk (below_step (by repeat (first | (with_reducible first | exact HB.out | apply qA | apply qN | apply qD | refine below_set ?_ GE101.out) | exact HB.out)) hb); clear BK101; clear HB; have BK101 := n0_; have HB := n1_; clear n0_ n1_; (try clear hb); (try clear hb2); (try clear hk); (try clear hi)) | ((with_reducible refine gate_callee (f := 67) rfl ?_); refine goesL_ (some 15) rfl rfl Try.func67 (by kernel_rfl) rfl #[.int .i64 a1, .int .i64 a2] rfl (by (try simp only [List.map_toArray, List.map_cons, List.map_nil]); first | done | rfl | (simp only [List.length_drop, List.length_take]; rfl)) ?_; (with_reducible refine (curve_voltages.calls a1 a2 false _ A6.out).mono ?_); rintro e w' ⟨rfl, ⟨nd, rfl⟩⟩; refine ⟨_, rfl, ?_⟩))
      go_ret
      exact ⟨by first | rfl | (simp [errW_none, errW_some] <;> rfl) | (simp [*, errW_none, errW_some] <;> rfl), by repeat (first | (with_reducible first | exact HB.out | apply qA | apply qN | apply qD | refine below_set ?_ GE101.out) | exact HB.out)⟩
  · rw [if_neg c5] at H
    have c5b0 : (t102 == 0) = false := beq_eq_false_iff_ne.mpr c5
    have c5b1 : (t102 != 0) = true := bne_iff_ne.mpr c5
    obtain rfl := Option.some.inj H
    go_enter Try.func79, Try.ntmps79
    go_wp2_with (first | ((with_reducible refine gate_dst (N := 3) rfl ?_); refine box_event ?hg (N := 3) ?hd (cs := #[.int .i64 a0_0, .int .i64 a0_1, .int .i64 a0_2, .int .i64 a0_3, .int .i64 a0_4, .int .i64 a0_5, .int .i64 a0_6, .int .i64 a0_7, .int .i64 a0_8, .int .i64 a0_9]) (t := 42) ?hr ?_; (case hd => rfl); (case hg => rfl); (case hr => first | (go_simp; done) | (go_simp; rfl)); intro gb101 hg w14 hbox hb; have n0_ := Aside0.mk (below_step (by repeat (first | (with_reducible first | exact HB.out | apply qA | apply qN | apply qD) | exact HB.out)) hb); have n1_ := Aside0.mk (hbox); have n2_ := Aside0.mk ((by rw [hg]; exact (below_size (by repeat (first | (with_reducible first | exact HB.out | apply qA | apply qN | apply qD) | exact HB.out))) : w.heap.size ≤ gb101)); have n3_ := Aside0.mk ((by rw [hg]; exact (below_size (by repeat (first | (with_reducible first | exact HB.out | apply qA | apply qN | apply qD) | exact HB.out))) : w.heap.size ≤ gb101)); clear HB; have HB := n0_; have BK101 := n1_; have GW101 := n2_; have GE101 := n3_; clear n0_ n1_ n2_ n3_; clear hb hbox hg; have hcz15_0 : w14.cell? ⟨gb101, 0, none⟩ = some (.int .i64 a0_0) := (blk_cell BK101.out 0).trans rfl; have hcz15_1 : w14.cell? ⟨gb101, 1, none⟩ = some (.int .i64 a0_1) := (blk_cell BK101.out 1).trans rfl; have hcz15_2 : w14.cell? ⟨gb101, 2, none⟩ = some (.int .i64 a0_2) := (blk_cell BK101.out 2).trans rfl; have hcz15_3 : w14.cell? ⟨gb101, 3, none⟩ = some (.int .i64 a0_3) := (blk_cell BK101.out 3).trans rfl; have hcz15_4 : w14.cell? ⟨gb101, 4, none⟩ = some (.int .i64 a0_4) := (blk_cell BK101.out 4).trans rfl; have hcz15_5 : w14.cell? ⟨gb101, 5, none⟩ = some (.int .i64 a0_5) := (blk_cell BK101.out 5).trans rfl; have hcz15_6 : w14.cell? ⟨gb101, 6, none⟩ = some (.int .i64 a0_6) := (blk_cell BK101.out 6).trans rfl; have hcz15_7 : w14.cell? ⟨gb101, 7, none⟩ = some (.int .i64 a0_7) := (blk_cell BK101.out 7).trans rfl; have hcz15_8 : w14.cell? ⟨gb101, 8, none⟩ = some (.int .i64 a0_8) := (blk_cell BK101.out 8).trans rfl; have hcz15_9 : w14.cell? ⟨gb101, 9, none⟩ = some (.int .i64 a0_9) := (blk_cell BK101.out 9).trans rfl; have hfz15_0 := blk_frozen BK101.out 0; have hfz15_1 := blk_frozen BK101.out 1; have hfz15_2 := blk_frozen BK101.out 2; have hfz15_3 := blk_frozen BK101.out 3; have hfz15_4 := blk_frozen BK101.out 4; have hfz15_5 := blk_frozen BK101.out 5; have hfz15_6 := blk_frozen BK101.out 6; have hfz15_7 := blk_frozen BK101.out 7; have hfz15_8 := blk_frozen BK101.out 8; have hfz15_9 := blk_frozen BK101.out 9) | ((with_reducible refine gate_callee (f := 33) rfl ?_); refine goesL_ (some 9) rfl rfl Try.func33 (by kernel_rfl) rfl #[.agg #[.int .i64 a0_0, .int .i64 a0_1, .int .i64 a0_2, .int .i64 a0_3, .int .i64 a0_4, .int .i64 a0_5, .int .i64 a0_6, .int .i64 a0_7, .int .i64 a0_8, .int .i64 a0_9]] rfl (by (try simp only [List.map_toArray, List.map_cons, List.map_nil]); first | done | rfl | (simp only [List.length_drop, List.length_take]; rfl)) ?_; (with_reducible refine (curve_CheckLaw.calls a0_0 a0_1 a0_2 a0_3 a0_4 a0_5 a0_6 a0_7 a0_8 a0_9 t102 _ A4.out).mono ?_); rintro e w16 ⟨rfl, hb⟩; refine ⟨_, rfl, ?_⟩; have n0_ := Aside0.mk (blk_below (by (with_reducible repeat (first | refine qn ?_ _ | refine qd ?_ | refine qa ?_ _)); exact BK101.out) hb); have n1_ := Aside0.mk (below_step (by repeat (first | (with_reducible first | exact HB.out | apply qA | apply qN | apply qD | refine below_set ?_ GE101.out) | exact HB.out)) hb); clear BK101; clear HB; have BK101 := n0_; have HB := n1_; clear n0_ n1_; (try clear hb); (try clear hb2); (try clear hk); (try clear hi)))
    go_ret
    exact ⟨by first | rfl | (simp [errW_none, errW_some] <;> rfl) | (simp [*, errW_none, errW_some] <;> rfl), by repeat (first | (with_reducible first | exact HB.out | apply qA | apply qN | apply qD | refine below_set ?_ GE101.out) | exact HB.out)⟩

end Go.Proofs.Ytbomgfbfnkfamaa.PAll
end
section
namespace Go.Proofs.Ytbomgfbfnkfamaa.PAll
open Go.RowKit Go.Proofs.YtbomgfbfnkfamaaW.PrintWords Go.Proofs.YtbomgfbfnkfamaaW.PrintLast Go.Proofs.YtbomgfbfnkfamaaW.PrintMore
attribute [local go_sem] max2_int min2_int max_two min_two max_three min_three max_four min_four   -- for this text's walks alone
set_option linter.unusedVariables false
set_option linter.unusedSimpArgs false

/-! ### curve_floor: function 69 -/
def curve_floor.f (a0 : Int) (a1 : Int) : Option (Int) := if a1 = 0 then (none) else (if (wrap64 ((wrap64 (Int.tdiv a0 a1)) * a1)) > a0 then (some (wrap64 ((wrap64 (Int.tdiv a0 a1)) - 1))) else (some (wrap64 (Int.tdiv a0 a1))))
set_option maxHeartbeats 8000000 in
set_option maxRecDepth 100000 in
theorem curve_floor.calls (a0 : Int) (a1 : Int) (r : Int) (w : World) (h : curve_floor.f a0 a1 = some r) :
    Calls Try.prog 69 #[.int .i64 a0, .int .i64 a1] w fun e w' => e = .returned (.int .i64 r) ∧ Drawn0 w w' := by
  have H : (if a1 = 0 then (none) else (if (wrap64 ((wrap64 (Int.tdiv a0 a1)) * a1)) > a0 then (some (wrap64 ((wrap64 (Int.tdiv a0 a1)) - 1))) else (some (wrap64 (Int.tdiv a0 a1))))) = some r := h
  clear h
  by_cases c3 : a1 = 0
  · rw [if_pos c3] at H
    exact absurd H (by simp)
  · rw [if_neg c3] at H
    have c3b0 : (a1 == 0) = false := beq_eq_false_iff_ne.mpr c3
    have c3b1 : (a1 != 0) = true := bne_iff_ne.mpr c3
    by_cases c4 : (wrap64 ((wrap64 (Int.tdiv a0 a1)) * a1)) > a0
    · rw [if_pos c4] at H
      have c4b0 : decide (a0 < (wrap64 ((wrap64 (Int.tdiv a0 a1)) * a1))) = true := decide_eq_true c4
      clear c4
      obtain rfl := Option.some.inj H
      go_enter Try.func69, Try.ntmps69
      go_wp2
      go_ret
      exact ⟨by first | rfl | (simp; done) | (simp [*]; done), by repeat (first | exact Drawn0.refl _ | apply Drawn0.step)⟩
    · rw [if_neg c4] at H
      have c4b0 : decide (a0 < (wrap64 ((wrap64 (Int.tdiv a0 a1)) * a1))) = false := decide_eq_false c4
      clear c4
      obtain rfl := Option.some.inj H
      go_enter Try.func69, Try.ntmps69
      go_wp2
      go_ret
      exact ⟨by first | rfl | (simp; done) | (simp [*]; done), by repeat (first | exact Drawn0.refl _ | apply Drawn0.step)⟩

end Go.Proofs.Ytbomgfbfnkfamaa.PAll
end
section
namespace Go.Proofs.Ytbomgfbfnkfamaa.PAll
open Go.RowKit Go.Proofs.YtbomgfbfnkfamaaW.PrintWords Go.Proofs.YtbomgfbfnkfamaaW.PrintLast Go.Proofs.YtbomgfbfnkfamaaW.PrintMore
attribute [local go_sem] max2_int min2_int max_two min_two max_three min_three max_four min_four   -- for this text's walks alone
set_option linter.unusedVariables false
set_option linter.unusedSimpArgs false

/-! ### curve_ceil: function 71 -/
def curve_ceil.f (a0 : Int) (a1 : Int) : Option (Int) := if a1 = 0 then (none) else (if (wrap64 ((wrap64 (Int.tdiv a0 a1)) * a1)) < a0 then (some (wrap64 ((wrap64 (Int.tdiv a0 a1)) + 1))) else (some (wrap64 (Int.tdiv a0 a1))))
set_option maxHeartbeats 8000000 in
set_option maxRecDepth 100000 in
theorem curve_ceil.calls (a0 : Int) (a1 : Int) (r : Int) (w : World) (h : curve_ceil.f a0 a1 = some r) :
    Calls Try.prog 71 #[.int .i64 a0, .int .i64 a1] w fun e w' => e = .returned (.int .i64 r) ∧ Drawn0 w w' := by
  have H : (if a1 = 0 then (none) else (if (wrap64 ((wrap64 (Int.tdiv a0 a1)) * a1)) < a0 then (some (wrap64 ((wrap64 (Int.tdiv a0 a1)) + 1))) else (some (wrap64 (Int.tdiv a0 a1))))) = some r := h
  clear h
  by_cases c3 : a1 = 0
  · rw [if_pos c3] at H
    exact absurd H (by simp)
  · rw [if_neg c3] at H
    have c3b0 : (a1 == 0) = false := beq_eq_false_iff_ne.mpr c3
    have c3b1 : (a1 != 0) = true := bne_iff_ne.mpr c3
    by_cases c4 : (wrap64 ((wrap64 (Int.tdiv a0 a1)) * a1)) < a0
    · rw [if_pos c4] at H
      have c4b0 : decide ((wrap64 ((wrap64 (Int.tdiv a0 a1)) * a1)) < a0) = true := decide_eq_true c4
      clear c4
      obtain rfl := Option.some.inj H
      go_enter Try.func71, Try.ntmps71
      go_wp2
      go_ret
      exact ⟨by first | rfl | (simp; done) | (simp [*]; done), by repeat (first | exact Drawn0.refl _ | apply Drawn0.step)⟩
    · rw [if_neg c4] at H
      have c4b0 : decide ((wrap64 ((wrap64 (Int.tdiv a0 a1)) * a1)) < a0) = false := decide_eq_false c4
      clear c4
      obtain rfl := Option.some.inj H
      go_enter Try.func71, Try.ntmps71
      go_wp2
      go_ret
      exact ⟨by first | rfl | (simp; done) | (simp [*]; done), by repeat (first | exact Drawn0.refl _ | apply Drawn0.step)⟩

end Go.Proofs.Ytbomgfbfnkfamaa.PAll
end
section
namespace Go.Proofs.Ytbomgfbfnkfamaa.PAll
open Go.RowKit Go.Proofs.YtbomgfbfnkfamaaW.PrintWords Go.Proofs.YtbomgfbfnkfamaaW.PrintLast Go.Proofs.YtbomgfbfnkfamaaW.PrintMore
attribute [local go_sem] max2_int min2_int max_two min_two max_three min_three max_four min_four   -- for this text's walks alone
set_option linter.unusedVariables false
set_option linter.unusedSimpArgs false

/-! ### curve_brought: function 121 -/
def curve_brought.f (a0 : Int) : Option (Int) := some (mn (mx a0 0) 1000000)
set_option maxHeartbeats 8000000 in
set_option maxRecDepth 100000 in
theorem curve_brought.calls (a0 : Int) (r : Int) (w : World) (h : curve_brought.f a0 = some r) :
    Calls Try.prog 121 #[.int .i64 a0] w fun e w' => e = .returned (.int .i64 r) ∧ Below w.heap.size w w' := by
  have HB := Aside0.mk (Below.refl w.heap.size w)
  have H : (some (mn (mx a0 0) 1000000)) = some r := h
  clear h
  obtain ⟨ji2, hji2⟩ : ∃ j_ : Int, (mx a0 0) = j_ := ⟨_, rfl⟩
  replace H : (some (mn (ji2) 1000000)) = some r := by first | (rw [hji2] at H; exact H) | (simp only [hji2] at H ⊢; exact H)
  (try (have hji2l : 0 ≤ ji2 := by (rw [← hji2]; unfold mx; (repeat' split) <;> omega)))
  (try (have hji2m : 0 ≤ ji2 := by omega))
  have hji2_ : (if a0 < 0 then 0 else a0) = ji2 := hji2
  obtain ⟨ji3, hji3⟩ : ∃ j_ : Int, (mn (ji2) 1000000) = j_ := ⟨_, rfl⟩
  replace H : (some ji3) = some r := by first | (rw [hji3] at H; exact H) | (simp only [hji3] at H ⊢; exact H)
  have hji3_ : (if 1000000 < (ji2) then 1000000 else (ji2)) = ji3 := hji3
  obtain rfl := Option.some.inj H
  go_enter Try.func121, Try.ntmps121
  go_wp2
  go_ret
  exact ⟨by first | rfl | (simp [errW_none, errW_some] <;> rfl) | (simp only [← hji2, ← hji3]; first | rfl | (simp [errW_none, errW_some] <;> rfl)) | (simp [*, errW_none, errW_some] <;> rfl), by repeat (first | (with_reducible first | exact HB.out | apply qA | apply qN | apply qD) | exact HB.out)⟩

end Go.Proofs.Ytbomgfbfnkfamaa.PAll
end
section
namespace Go.Proofs.Ytbomgfbfnkfamaa.PAll
open Go.RowKit Go.Proofs.YtbomgfbfnkfamaaW.PrintWords Go.Proofs.YtbomgfbfnkfamaaW.PrintLast Go.Proofs.YtbomgfbfnkfamaaW.PrintMore
attribute [local go_sem] max2_int min2_int max_two min_two max_three min_three max_four min_four   -- for this text's walks alone
set_option linter.unusedVariables false
set_option linter.unusedSimpArgs false

/-! ### curve_drive: function 83 -/
def curve_drive.f (a0_0 : Int) (a0_1 : Int) (a0_2 : Int) (a0_3 : Int) (a0_4 : Int) (a0_5 : Int) (a0_6 : Int) (a0_7 : Int) (a0_8 : Int) (a0_9 : Int) (a1 : Int) (a2 : Int) : Option (Int × Int) := (curve_floor.f (wrap64 (1000 * a2)) a0_3).bind fun t103 => ((curve_brought.f (wrap64 ((wrap64 (a1 + a0_4)) + t103))).bind fun t104 => ((curve_ceil.f (wrap64 (1000 * a2)) a0_2).bind fun t105 => ((curve_brought.f (wrap64 ((wrap64 (a1 + a0_5)) + t105))).bind fun t106 => (some (t104, t106)))))
def curve_drive.T1 : Bool × List (List Nat × List Nat) := (true, [([], []), ([], []), ([1], [1]), ([2], [2]), ([0, 3], [0, 3]), ([], []), ([5], [5]), ([], []), ([7], [7]), ([8], [8]), ([6, 9], [6, 9]), ([4, 10], [4, 10]), ([11, 10], [11]), ([], []), ([], []), ([14], [14]), ([15], [15]), ([13, 16], [13, 16]), ([], []), ([18], [18]), ([], []), ([20], [20]), ([21], [21]), ([19, 22, 12], [19, 22]), ([17, 23], [17, 23]), ([24, 23], [24]), ([12, 25], [12, 25]), ([26, 25, 0, 1, 2, 3, 4, 5, 6, 7, 8, 9, 10, 11, 12, 13, 14, 15, 16, 17, 18, 19, 20, 21, 22, 23, 24, 25, 26], [26])])
def curve_drive.B1 : List Nat := [0, 0, 2, 6, 15, 0, 32, 0, 128, 384, 992, 2047, 4095, 0, 0, 16384, 49152, 122880, 0, 262144, 0, 1048576, 3145728, 8134655, 16777215, 33554431, 67108863, 134217727]
theorem curve_drive.tab1 : rtab .any (opsOf Try.f83 1) = curve_drive.T1 := by kernel_rfl
theorem curve_drive.bits1 : waitsOk curve_drive.T1.2 curve_drive.B1 = true := by kernel_rfl
set_option maxHeartbeats 8000000 in
set_option maxRecDepth 100000 in
theorem curve_drive.calls (a0_0 : Int) (a0_1 : Int) (a0_2 : Int) (a0_3 : Int) (a0_4 : Int) (a0_5 : Int) (a0_6 : Int) (a0_7 : Int) (a0_8 : Int) (a0_9 : Int) (a1 : Int) (a2 : Int) (r1 : Int) (r2 : Int) (w : World) (h : curve_drive.f a0_0 a0_1 a0_2 a0_3 a0_4 a0_5 a0_6 a0_7 a0_8 a0_9 a1 a2 = some (r1, r2)) :
    Calls Try.prog 83 #[.agg #[.int .i64 a0_0, .int .i64 a0_1, .int .i64 a0_2, .int .i64 a0_3, .int .i64 a0_4, .int .i64 a0_5, .int .i64 a0_6, .int .i64 a0_7, .int .i64 a0_8, .int .i64 a0_9], .int .i64 a1, .int .i64 a2] w fun e w' => e = .returned (.agg #[.int .i64 r1, .int .i64 r2]) ∧ Below w.heap.size w w' := by
  have hu42 := Try.underlying42
  have hu35 := Try.underlying35
  have HB := Aside0.mk (Below.refl w.heap.size w)
  have H : ((curve_floor.f (wrap64 (1000 * a2)) a0_3).bind fun t103 => ((curve_brought.f (wrap64 ((wrap64 (a1 + a0_4)) + t103))).bind fun t104 => ((curve_ceil.f (wrap64 (1000 * a2)) a0_2).bind fun t105 => ((curve_brought.f (wrap64 ((wrap64 (a1 + a0_5)) + t105))).bind fun t106 => (some (t104, t106)))))) = some (r1, r2) := h
  clear h
  replace H := Option.bind_eq_some_iff.mp H
  obtain ⟨t103, A40, H⟩ := H
  replace H : ((curve_brought.f (wrap64 ((wrap64 (a1 + a0_4)) + t103))).bind fun t104 => ((curve_ceil.f (wrap64 (1000 * a2)) a0_2).bind fun t105 => ((curve_brought.f (wrap64 ((wrap64 (a1 + a0_5)) + t105))).bind fun t106 => (some (t104, t106))))) = some (r1, r2) := H
  have A4 := Aside0.mk A40
  clear A40
  replace H := Option.bind_eq_some_iff.mp H
  obtain ⟨t104, A50, H⟩ := H
  replace H : ((curve_ceil.f (wrap64 (1000 * a2)) a0_2).bind fun t105 => ((curve_brought.f (wrap64 ((wrap64 (a1 + a0_5)) + t105))).bind fun t106 => (some (t104, t106)))) = some (r1, r2) := H
  have A5 := Aside0.mk A50
  clear A50
  replace H := Option.bind_eq_some_iff.mp H
  obtain ⟨t105, A60, H⟩ := H
  replace H : ((curve_brought.f (wrap64 ((wrap64 (a1 + a0_5)) + t105))).bind fun t106 => (some (t104, t106))) = some (r1, r2) := H
  have A6 := Aside0.mk A60
  clear A60
  replace H := Option.bind_eq_some_iff.mp H
  obtain ⟨t106, A70, H⟩ := H
  replace H : (some (t104, t106)) = some (r1, r2) := H
  have A7 := Aside0.mk A70
  clear A70
  simp only [Option.some.injEq, Prod.mk.injEq] at H
  obtain ⟨rfl, rfl⟩ := H
  go_enter Try.func83, Try.ntmps83
  try go_wp2_with (first | ((with_reducible refine gate_dst (N := 3) rfl ?_); refine box_event ?hg (N := 3) ?hd (cs := #[.int .i64 a0_0, .int .i64 a0_1, .int .i64 a0_2, .int .i64 a0_3, .int .i64 a0_4, .int .i64 a0_5, .int .i64 a0_6, .int .i64 a0_7, .int .i64 a0_8, .int .i64 a0_9]) (t := 42) ?hr ?_; (case hd => rfl); (case hg => rfl); (case hr => first | (go_simp; done) | (go_simp; rfl)); intro gb101 hg w8 hbox hb; have n0_ := Aside0.mk (below_step (by repeat (first | (with_reducible first | exact HB.out | apply qA | apply qN | apply qD) | exact HB.out)) hb); have n1_ := Aside0.mk (hbox); have n2_ := Aside0.mk ((by rw [hg]; exact (below_size (by repeat (first | (with_reducible first | exact HB.out | apply qA | apply qN | apply qD) | exact HB.out))) : w.heap.size ≤ gb101)); have n3_ := Aside0.mk ((by rw [hg]; exact (below_size (by repeat (first | (with_reducible first | exact HB.out | apply qA | apply qN | apply qD) | exact HB.out))) : w.heap.size ≤ gb101)); clear HB; have HB := n0_; have BK101 := n1_; have GW101 := n2_; have GE101 := n3_; clear n0_ n1_ n2_ n3_; clear hb hbox hg) | ((with_reducible refine gate_dst (N := 6) rfl ?_); refine box_event ?hg (N := 6) ?hd (cs := #[.int .i64 0, .int .i64 0]) (t := 35) ?hr ?_; (case hd => rfl); (case hg => rfl); (case hr => first | (go_simp; done) | (go_simp; rfl)); intro gb102 hg w9 hbox hb; have n0_ := Aside0.mk (blk_below (by (with_reducible repeat (first | refine qn ?_ _ | refine qd ?_ | refine qa ?_ _)); exact BK101.out) hb); have n1_ := Aside0.mk (below_step (by repeat (first | (with_reducible first | exact HB.out | apply qA | apply qN | apply qD | refine below_set ?_ GE101.out) | exact HB.out)) hb); have n2_ := Aside0.mk (hbox); have n3_ := Aside0.mk ((by rw [hg]; exact (below_size (by repeat (first | (with_reducible first | exact HB.out | apply qA | apply qN | apply qD | refine below_set ?_ GE101.out) | exact HB.out))) : w.heap.size ≤ gb102)); have n4_ := Aside0.mk ((by rw [hg]; exact (below_size (by repeat (first | (with_reducible first | exact HB.out | apply qA | apply qN | apply qD | refine below_set ?_ GE101.out) | exact HB.out))) : w.heap.size ≤ gb102)); have n5_ := Aside0.mk ((by rw [hg]; exact Nat.ne_of_lt (blk_lt (by (with_reducible repeat (first | refine qn ?_ _ | refine qd ?_ | refine qa ?_ _)); exact BK101.out)) : gb101 ≠ gb102)); have n6_ := Aside0.mk ((by rw [hg]; exact Nat.ne_of_gt (blk_lt (by (with_reducible repeat (first | refine qn ?_ _ | refine qd ?_ | refine qa ?_ _)); exact BK101.out)) : gb102 ≠ gb101)); clear BK101; clear HB; have BK101 := n0_; have HB := n1_; have BK102 := n2_; have GW102 := n3_; have GE102 := n4_; have NB101_102 := n5_; have NB102_101 := n6_; clear n0_ n1_ n2_ n3_ n4_ n5_ n6_; clear hb hbox hg))
  have n0_ := Aside0.mk (blk_drew BK101.out)
  have n1_ := Aside0.mk (blk_drew BK102.out)
  have n2_ := Aside0.mk (qD HB.out)
  clear BK101
  clear BK102
  clear HB
  have BK101 := n0_
  have BK102 := n1_
  have HB := n2_
  clear n0_ n1_ n2_
  refine start_ (n := 28) (S := fun w' => w'.cell? ⟨gb101, 0, none⟩ = some (.int .i64 a0_0) ∧ w'.cell? ⟨gb101, 1, none⟩ = some (.int .i64 a0_1) ∧ w'.cell? ⟨gb101, 2, none⟩ = some (.int .i64 a0_2) ∧ w'.cell? ⟨gb101, 3, none⟩ = some (.int .i64 a0_3) ∧ w'.cell? ⟨gb101, 4, none⟩ = some (.int .i64 a0_4) ∧ w'.cell? ⟨gb101, 5, none⟩ = some (.int .i64 a0_5) ∧ w'.cell? ⟨gb101, 6, none⟩ = some (.int .i64 a0_6) ∧ w'.cell? ⟨gb101, 7, none⟩ = some (.int .i64 a0_7) ∧ w'.cell? ⟨gb101, 8, none⟩ = some (.int .i64 a0_8) ∧ w'.cell? ⟨gb101, 9, none⟩ = some (.int .i64 a0_9)) (ds := []) #[false, false, false, false, false, false, false, false, false, false, false, false, false, false, false, false, false, false, false, false, false, false, false, false, false, false, false, false] (by kernel_rfl) rfl rfl ⟨(blk_cell BK101.out 0).trans rfl, (blk_cell BK101.out 1).trans rfl, (blk_cell BK101.out 2).trans rfl, (blk_cell BK101.out 3).trans rfl, (blk_cell BK101.out 4).trans rfl, (blk_cell BK101.out 5).trans rfl, (blk_cell BK101.out 6).trans rfl, (blk_cell BK101.out 7).trans rfl, (blk_cell BK101.out 8).trans rfl, (blk_cell BK101.out 9).trans rfl⟩ (fun hHeld => ?_); refine with_tabW curve_drive.tab1 curve_drive.bits1 (fun HT_ HW_ => ?_)
  generalize w9.drew = w10 at BK101 BK102 HB hHeld ⊢
  refine pure_ (i := 0) (N := some 7) (v := ?_) (a' := ?_) #[true, false, false, false, false, false, false, false, false, false, false, false, false, false, false, false, false, false, false, false, false, false, false, false, false, false, false, false] rfl rfl (any_of HT_.out (by kernel_rfl)) (fun _ _ _ h => h) (Or.inl ⟨by rfl, ?_⟩) ?_ ?_
  rotate_left
  · intro w'
    go_simp
    with_reducible rfl
  rotate_left
  · simp only [Act.put, List.setIfInBounds_toArray, List.set_cons_zero, List.set_cons_succ, i64_w, i32_w]
    rfl
  refine pure_ (i := 1) (N := some 8) (v := ?_) (a' := ?_) #[true, true, false, false, false, false, false, false, false, false, false, false, false, false, false, false, false, false, false, false, false, false, false, false, false, false, false, false] rfl rfl (any_of HT_.out (by kernel_rfl)) (fun _ _ _ h => h) (Or.inl ⟨by rfl, ?_⟩) ?_ ?_
  rotate_left
  · intro w'
    go_simp
    with_reducible rfl
  rotate_left
  · simp only [Act.put, List.setIfInBounds_toArray, List.set_cons_zero, List.set_cons_succ, i64_w, i32_w]
    rfl
  refine pure_ (i := 2) (N := some 9) (v := ?_) (a' := ?_) #[true, true, true, false, false, false, false, false, false, false, false, false, false, false, false, false, false, false, false, false, false, false, false, false, false, false, false, false] rfl rfl (any_of HT_.out (by kernel_rfl)) (fun _ _ _ h => h) (Or.inl ⟨by rfl, ?_⟩) ?_ ?_
  rotate_left
  · intro w'
    go_simp
    with_reducible rfl
  rotate_left
  · simp only [Act.put, List.setIfInBounds_toArray, List.set_cons_zero, List.set_cons_succ, i64_w, i32_w]
    rfl
  refine pure_ (i := 5) (N := some 12) (v := ?_) (a' := ?_) #[true, true, true, false, false, true, false, false, false, false, false, false, false, false, false, false, false, false, false, false, false, false, false, false, false, false, false, false] rfl rfl (any_of HT_.out (by kernel_rfl)) (fun _ _ _ h => h) (Or.inl ⟨by rfl, ?_⟩) ?_ ?_
  rotate_left
  · intro w'
    go_simp
    with_reducible rfl
  rotate_left
  · simp only [Act.put, List.setIfInBounds_toArray, List.set_cons_zero, List.set_cons_succ, i64_w, i32_w]
    rfl
  refine pure_ (i := 6) (N := some 13) (v := ?_) (a' := ?_) #[true, true, true, false, false, true, true, false, false, false, false, false, false, false, false, false, false, false, false, false, false, false, false, false, false, false, false, false] rfl rfl (any_of HT_.out (by kernel_rfl)) (fun _ _ _ h => h) (Or.inl ⟨by rfl, ?_⟩) ?_ ?_
  rotate_left
  · intro w'
    go_simp
    with_reducible rfl
  rotate_left
  · simp only [Act.put, List.setIfInBounds_toArray, List.set_cons_zero, List.set_cons_succ, i64_w, i32_w]
    rfl
  refine pure_ (i := 7) (N := some 14) (v := ?_) (a' := ?_) #[true, true, true, false, false, true, true, true, false, false, false, false, false, false, false, false, false, false, false, false, false, false, false, false, false, false, false, false] rfl rfl (any_of HT_.out (by kernel_rfl)) (fun _ _ _ h => h) (Or.inl ⟨by rfl, ?_⟩) ?_ ?_
  rotate_left
  · intro w'
    go_simp
    with_reducible rfl
  rotate_left
  · simp only [Act.put, List.setIfInBounds_toArray, List.set_cons_zero, List.set_cons_succ, i64_w, i32_w]
    rfl
  refine pure_ (i := 8) (N := some 15) (v := ?_) (a' := ?_) #[true, true, true, false, false, true, true, true, true, false, false, false, false, false, false, false, false, false, false, false, false, false, false, false, false, false, false, false] rfl rfl (any_of HT_.out (by kernel_rfl)) (fun _ _ _ h => h) (Or.inl ⟨by rfl, ?_⟩) ?_ ?_
  rotate_left
  · intro w'
    go_simp
    with_reducible rfl
  rotate_left
  · simp only [Act.put, List.setIfInBounds_toArray, List.set_cons_zero, List.set_cons_succ, i64_w, i32_w]
    rfl
  refine pure_ (i := 13) (N := some 20) (v := ?_) (a' := ?_) #[true, true, true, false, false, true, true, true, true, false, false, false, false, true, false, false, false, false, false, false, false, false, false, false, false, false, false, false] rfl rfl (any_of HT_.out (by kernel_rfl)) (fun _ _ _ h => h) (Or.inl ⟨by rfl, ?_⟩) ?_ ?_
  rotate_left
  · intro w'
    go_simp
    with_reducible rfl
  rotate_left
  · simp only [Act.put, List.setIfInBounds_toArray, List.set_cons_zero, List.set_cons_succ, i64_w, i32_w]
    rfl
  refine pure_ (i := 14) (N := some 21) (v := ?_) (a' := ?_) #[true, true, true, false, false, true, true, true, true, false, false, false, false, true, true, false, false, false, false, false, false, false, false, false, false, false, false, false] rfl rfl (any_of HT_.out (by kernel_rfl)) (fun _ _ _ h => h) (Or.inl ⟨by rfl, ?_⟩) ?_ ?_
  rotate_left
  · intro w'
    go_simp
    with_reducible rfl
  rotate_left
  · simp only [Act.put, List.setIfInBounds_toArray, List.set_cons_zero, List.set_cons_succ, i64_w, i32_w]
    rfl
  refine pure_ (i := 15) (N := some 22) (v := ?_) (a' := ?_) #[true, true, true, false, false, true, true, true, true, false, false, false, false, true, true, true, false, false, false, false, false, false, false, false, false, false, false, false] rfl rfl (any_of HT_.out (by kernel_rfl)) (fun _ _ _ h => h) (Or.inl ⟨by rfl, ?_⟩) ?_ ?_
  rotate_left
  · intro w'
    go_simp
    with_reducible rfl
  rotate_left
  · simp only [Act.put, List.setIfInBounds_toArray, List.set_cons_zero, List.set_cons_succ, i64_w, i32_w]
    rfl
  refine pure_ (i := 18) (N := some 25) (v := ?_) (a' := ?_) #[true, true, true, false, false, true, true, true, true, false, false, false, false, true, true, true, false, false, true, false, false, false, false, false, false, false, false, false] rfl rfl (any_of HT_.out (by kernel_rfl)) (fun _ _ _ h => h) (Or.inl ⟨by rfl, ?_⟩) ?_ ?_
  rotate_left
  · intro w'
    go_simp
    with_reducible rfl
  rotate_left
  · simp only [Act.put, List.setIfInBounds_toArray, List.set_cons_zero, List.set_cons_succ, i64_w, i32_w]
    rfl
  refine pure_ (i := 19) (N := some 26) (v := ?_) (a' := ?_) #[true, true, true, false, false, true, true, true, true, false, false, false, false, true, true, true, false, false, true, true, false, false, false, false, false, false, false, false] rfl rfl (any_of HT_.out (by kernel_rfl)) (fun _ _ _ h => h) (Or.inl ⟨by rfl, ?_⟩) ?_ ?_
  rotate_left
  · intro w'
    go_simp
    with_reducible rfl
  rotate_left
  · simp only [Act.put, List.setIfInBounds_toArray, List.set_cons_zero, List.set_cons_succ, i64_w, i32_w]
    rfl
  refine pure_ (i := 20) (N := some 27) (v := ?_) (a' := ?_) #[true, true, true, false, false, true, true, true, true, false, false, false, false, true, true, true, false, false, true, true, true, false, false, false, false, false, false, false] rfl rfl (any_of HT_.out (by kernel_rfl)) (fun _ _ _ h => h) (Or.inl ⟨by rfl, ?_⟩) ?_ ?_
  rotate_left
  · intro w'
    go_simp
    with_reducible rfl
  rotate_left
  · simp only [Act.put, List.setIfInBounds_toArray, List.set_cons_zero, List.set_cons_succ, i64_w, i32_w]
    rfl
  refine pure_ (i := 21) (N := some 28) (v := ?_) (a' := ?_) #[true, true, true, false, false, true, true, true, true, false, false, false, false, true, true, true, false, false, true, true, true, true, false, false, false, false, false, false] rfl rfl (any_of HT_.out (by kernel_rfl)) (fun _ _ _ h => h) (Or.inl ⟨by rfl, ?_⟩) ?_ ?_
  rotate_left
  · intro w'
    go_simp
    with_reducible rfl
  rotate_left
  · simp only [Act.put, List.setIfInBounds_toArray, List.set_cons_zero, List.set_cons_succ, i64_w, i32_w]
    rfl
  refine take_ (i := 3) (N := some 10) (v := ?_) (a' := ?_) #[true, true, true, true, false, true, true, true, true, false, false, false, false, true, true, true, false, false, true, true, true, true, false, false, false, false, false, false] rfl rfl (take_ofW HT_.out HW_.out (by kernel_rfl)) (fun _ _ _ h => h) (Or.inl ⟨by rfl, ?_⟩) hHeld ?_ ?_
  rotate_left
  · rintro w' ⟨s0, s1, s2, s3, s4, s5, s6, s7, s8, s9⟩
    go_simp
    with_reducible rfl
  rotate_left
  · simp only [Act.put, List.setIfInBounds_toArray, List.set_cons_zero, List.set_cons_succ, i64_w, i32_w]
    rfl
  refine pure_ (i := 4) (N := some 11) (v := ?_) (a' := ?_) #[true, true, true, true, true, true, true, true, true, false, false, false, false, true, true, true, false, false, true, true, true, true, false, false, false, false, false, false] rfl rfl (any_of HT_.out (by kernel_rfl)) (fun _ _ _ h => h) (Or.inl ⟨by rfl, ?_⟩) ?_ ?_
  rotate_left
  · intro w'
    go_simp
    with_reducible rfl
  rotate_left
  · simp only [Act.put, List.setIfInBounds_toArray, List.set_cons_zero, List.set_cons_succ, i64_w, i32_w]
    rfl
  refine take_ (i := 9) (N := some 16) (v := ?_) (a' := ?_) #[true, true, true, true, true, true, true, true, true, true, false, false, false, true, true, true, false, false, true, true, true, true, false, false, false, false, false, false] rfl rfl (take_ofW HT_.out HW_.out (by kernel_rfl)) (fun _ _ _ h => h) (Or.inl ⟨by rfl, ?_⟩) hHeld ?_ ?_
  rotate_left
  · rintro w' ⟨s0, s1, s2, s3, s4, s5, s6, s7, s8, s9⟩
    go_simp
    with_reducible rfl
  rotate_left
  · simp only [Act.put, List.setIfInBounds_toArray, List.set_cons_zero, List.set_cons_succ, i64_w, i32_w]
    rfl
  refine take_ (i := 16) (N := some 23) (v := ?_) (a' := ?_) #[true, true, true, true, true, true, true, true, true, true, false, false, false, true, true, true, true, false, true, true, true, true, false, false, false, false, false, false] rfl rfl (take_ofW HT_.out HW_.out (by kernel_rfl)) (fun _ _ _ h => h) (Or.inl ⟨by rfl, ?_⟩) hHeld ?_ ?_
  rotate_left
  · rintro w' ⟨s0, s1, s2, s3, s4, s5, s6, s7, s8, s9⟩
    go_simp
    with_reducible rfl
  rotate_left
  · simp only [Act.put, List.setIfInBounds_toArray, List.set_cons_zero, List.set_cons_succ, i64_w, i32_w]
    rfl
  refine pure_ (i := 17) (N := some 24) (v := ?_) (a' := ?_) #[true, true, true, true, true, true, true, true, true, true, false, false, false, true, true, true, true, true, true, true, true, true, false, false, false, false, false, false] rfl rfl (any_of HT_.out (by kernel_rfl)) (fun _ _ _ h => h) (Or.inl ⟨by rfl, ?_⟩) ?_ ?_
  rotate_left
  · intro w'
    go_simp
    with_reducible rfl
  rotate_left
  · simp only [Act.put, List.setIfInBounds_toArray, List.set_cons_zero, List.set_cons_succ, i64_w, i32_w]
    rfl
  refine take_ (i := 22) (N := some 29) (v := ?_) (a' := ?_) #[true, true, true, true, true, true, true, true, true, true, false, false, false, true, true, true, true, true, true, true, true, true, true, false, false, false, false, false] rfl rfl (take_ofW HT_.out HW_.out (by kernel_rfl)) (fun _ _ _ h => h) (Or.inl ⟨by rfl, ?_⟩) hHeld ?_ ?_
  rotate_left
  · rintro w' ⟨s0, s1, s2, s3, s4, s5, s6, s7, s8, s9⟩
    go_simp
    with_reducible rfl
  rotate_left
  · simp only [Act.put, List.setIfInBounds_toArray, List.set_cons_zero, List.set_cons_succ, i64_w, i32_w]
    rfl
  refine one_ (i := 10) (N := some 17) #[true, true, true, true, true, true, true, true, true, true, true, false, false, true, true, true, true, true, true, true, true, true, true, false, false, false, false, false] rfl rfl (one_of HT_.out (by kernel_rfl)) (by decide) (fun K hK => ?_)
  refine goes_ Try.func69 (by kernel_rfl) rfl #[.int .i64 (wrap64 (1000 * a2)), .int .i64 a0_3] (by rfl) rfl rfl (by (try simp only [List.map_toArray, List.map_cons, List.map_nil]); first | done | rfl | (simp only [List.length_drop, List.length_take]; rfl)) ?_
  with_reducible refine (curve_floor.calls (wrap64 (1000 * a2)) a0_3 t103 _ A4.out).mono ?_
  rintro e w' ⟨rfl, ⟨nd, rfl⟩⟩
  refine ⟨_, rfl, ?_⟩
  refine hK.out _ _ ⟨(blk_cell BK101.out 0).trans rfl, (blk_cell BK101.out 1).trans rfl, (blk_cell BK101.out 2).trans rfl, (blk_cell BK101.out 3).trans rfl, (blk_cell BK101.out 4).trans rfl, (blk_cell BK101.out 5).trans rfl, (blk_cell BK101.out 6).trans rfl, (blk_cell BK101.out 7).trans rfl, (blk_cell BK101.out 8).trans rfl, (blk_cell BK101.out 9).trans rfl⟩ (fun hHeld => ?_)
  clear hK K
  refine norm_ (a' := ?_) ?_ ?_
  rotate_left
  · show Act.put _ (some 17) _ = _
    simp only [Act.put, List.setIfInBounds_toArray, List.set_cons_zero, List.set_cons_succ, i64_w, i32_w]
    rfl
  refine pure_ (i := 11) (N := some 18) (v := ?_) (a' := ?_) #[true, true, true, true, true, true, true, true, true, true, true, true, false, true, true, true, true, true, true, true, true, true, true, false, false, false, false, false] rfl rfl (any_of HT_.out (by kernel_rfl)) (fun _ _ _ h => h) (Or.inl ⟨by rfl, ?_⟩) ?_ ?_
  rotate_left
  · intro w'
    go_simp
    with_reducible rfl
  rotate_left
  · simp only [Act.put, List.setIfInBounds_toArray, List.set_cons_zero, List.set_cons_succ, i64_w, i32_w]
    rfl
  refine one_ (i := 12) (N := some 19) #[true, true, true, true, true, true, true, true, true, true, true, true, true, true, true, true, true, true, true, true, true, true, true, false, false, false, false, false] rfl rfl (one_of HT_.out (by kernel_rfl)) (by decide) (fun K hK => ?_)
  refine goes_ Try.func121 (by kernel_rfl) rfl #[.int .i64 (wrap64 ((wrap64 (a1 + a0_4)) + t103))] (by rfl) rfl rfl (by (try simp only [List.map_toArray, List.map_cons, List.map_nil]); first | done | rfl | (simp only [List.length_drop, List.length_take]; rfl)) ?_
  with_reducible refine (curve_brought.calls (wrap64 ((wrap64 (a1 + a0_4)) + t103)) t104 _ A5.out).mono ?_
  rintro e w11 ⟨rfl, hb⟩
  refine ⟨_, rfl, ?_⟩
  have n0_ := Aside0.mk (blk_below (by (with_reducible repeat (first | refine qn ?_ _ | refine qd ?_ | refine qa ?_ _)); exact BK101.out) hb)
  have n1_ := Aside0.mk (blk_below (by (with_reducible repeat (first | refine qn ?_ _ | refine qd ?_ | refine qa ?_ _)); exact BK102.out) hb)
  have n2_ := Aside0.mk (below_step (by repeat (first | (with_reducible first | exact HB.out | apply qA | apply qN | apply qD | refine below_set ?_ GE101.out | refine below_set ?_ GE102.out) | exact HB.out)) hb)
  clear BK101
  clear BK102
  clear HB
  have BK101 := n0_
  have BK102 := n1_
  have HB := n2_
  clear n0_ n1_ n2_
  (try clear hb)
  (try clear hb2)
  (try clear hk)
  (try clear hi)
  refine hK.out _ _ ⟨(blk_cell BK101.out 0).trans rfl, (blk_cell BK101.out 1).trans rfl, (blk_cell BK101.out 2).trans rfl, (blk_cell BK101.out 3).trans rfl, (blk_cell BK101.out 4).trans rfl, (blk_cell BK101.out 5).trans rfl, (blk_cell BK101.out 6).trans rfl, (blk_cell BK101.out 7).trans rfl, (blk_cell BK101.out 8).trans rfl, (blk_cell BK101.out 9).trans rfl⟩ (fun hHeld => ?_)
  clear hK K
  refine norm_ (a' := ?_) ?_ ?_
  rotate_left
  · show Act.put _ (some 19) _ = _
    simp only [Act.put, List.setIfInBounds_toArray, List.set_cons_zero, List.set_cons_succ, i64_w, i32_w]
    rfl
  refine one_ (i := 23) (N := some 30) #[true, true, true, true, true, true, true, true, true, true, true, true, true, true, true, true, true, true, true, true, true, true, true, true, false, false, false, false] rfl rfl (one_of HT_.out (by kernel_rfl)) (by decide) (fun K hK => ?_)
  refine goes_ Try.func71 (by kernel_rfl) rfl #[.int .i64 (wrap64 (1000 * a2)), .int .i64 a0_2] (by rfl) rfl rfl (by (try simp only [List.map_toArray, List.map_cons, List.map_nil]); first | done | rfl | (simp only [List.length_drop, List.length_take]; rfl)) ?_
  with_reducible refine (curve_ceil.calls (wrap64 (1000 * a2)) a0_2 t105 _ A6.out).mono ?_
  rintro e w' ⟨rfl, ⟨nd, rfl⟩⟩
  refine ⟨_, rfl, ?_⟩
  refine hK.out _ _ ⟨(blk_cell BK101.out 0).trans rfl, (blk_cell BK101.out 1).trans rfl, (blk_cell BK101.out 2).trans rfl, (blk_cell BK101.out 3).trans rfl, (blk_cell BK101.out 4).trans rfl, (blk_cell BK101.out 5).trans rfl, (blk_cell BK101.out 6).trans rfl, (blk_cell BK101.out 7).trans rfl, (blk_cell BK101.out 8).trans rfl, (blk_cell BK101.out 9).trans rfl⟩ (fun hHeld => ?_)
  clear hK K
  refine norm_ (a' := ?_) ?_ ?_
  rotate_left
  · show Act.put _ (some 30) _ = _
    simp only [Act.put, List.setIfInBounds_toArray, List.set_cons_zero, List.set_cons_succ, i64_w, i32_w]
    rfl
  refine pure_ (i := 24) (N := some 31) (v := ?_) (a' := ?_) #[true, true, true, true, true, true, true, true, true, true, true, true, true, true, true, true, true, true, true, true, true, true, true, true, true, false, false, false] rfl rfl (any_of HT_.out (by kernel_rfl)) (fun _ _ _ h => h) (Or.inl ⟨by rfl, ?_⟩) ?_ ?_
  rotate_left
  · intro w'
    go_simp
    with_reducible rfl
  rotate_left
  · simp only [Act.put, List.setIfInBounds_toArray, List.set_cons_zero, List.set_cons_succ, i64_w, i32_w]
    rfl
  refine one_ (i := 25) (N := some 32) #[true, true, true, true, true, true, true, true, true, true, true, true, true, true, true, true, true, true, true, true, true, true, true, true, true, true, false, false] rfl rfl (one_of HT_.out (by kernel_rfl)) (by decide) (fun K hK => ?_)
  refine goes_ Try.func121 (by kernel_rfl) rfl #[.int .i64 (wrap64 ((wrap64 (a1 + a0_5)) + t105))] (by rfl) rfl rfl (by (try simp only [List.map_toArray, List.map_cons, List.map_nil]); first | done | rfl | (simp only [List.length_drop, List.length_take]; rfl)) ?_
  with_reducible refine (curve_brought.calls (wrap64 ((wrap64 (a1 + a0_5)) + t105)) t106 _ A7.out).mono ?_
  rintro e w12 ⟨rfl, hb⟩
  refine ⟨_, rfl, ?_⟩
  have n0_ := Aside0.mk (blk_below (by (with_reducible repeat (first | refine qn ?_ _ | refine qd ?_ | refine qa ?_ _)); exact BK101.out) hb)
  have n1_ := Aside0.mk (blk_below (by (with_reducible repeat (first | refine qn ?_ _ | refine qd ?_ | refine qa ?_ _)); exact BK102.out) hb)
  have n2_ := Aside0.mk (below_step (by repeat (first | (with_reducible first | exact HB.out | apply qA | apply qN | apply qD | refine below_set ?_ GE101.out | refine below_set ?_ GE102.out) | exact HB.out)) hb)
  clear BK101
  clear BK102
  clear HB
  have BK101 := n0_
  have BK102 := n1_
  have HB := n2_
  clear n0_ n1_ n2_
  (try clear hb)
  (try clear hb2)
  (try clear hk)
  (try clear hi)
  refine hK.out _ _ ⟨(blk_cell BK101.out 0).trans rfl, (blk_cell BK101.out 1).trans rfl, (blk_cell BK101.out 2).trans rfl, (blk_cell BK101.out 3).trans rfl, (blk_cell BK101.out 4).trans rfl, (blk_cell BK101.out 5).trans rfl, (blk_cell BK101.out 6).trans rfl, (blk_cell BK101.out 7).trans rfl, (blk_cell BK101.out 8).trans rfl, (blk_cell BK101.out 9).trans rfl⟩ (fun hHeld => ?_)
  clear hK K
  refine norm_ (a' := ?_) ?_ ?_
  rotate_left
  · show Act.put _ (some 32) _ = _
    simp only [Act.put, List.setIfInBounds_toArray, List.set_cons_zero, List.set_cons_succ, i64_w, i32_w]
    rfl
  refine pure_ (i := 26) (N := some 33) (v := ?_) (a' := ?_) #[true, true, true, true, true, true, true, true, true, true, true, true, true, true, true, true, true, true, true, true, true, true, true, true, true, true, true, false] rfl rfl (any_of HT_.out (by kernel_rfl)) (fun _ _ _ h => h) (Or.inl ⟨by rfl, ?_⟩) ?_ ?_
  rotate_left
  · intro w'
    go_simp
    with_reducible rfl
  rotate_left
  · simp only [Act.put, List.setIfInBounds_toArray, List.set_cons_zero, List.set_cons_succ, i64_w, i32_w]
    rfl
  refine one_ (i := 27) (N := none) #[true, true, true, true, true, true, true, true, true, true, true, true, true, true, true, true, true, true, true, true, true, true, true, true, true, true, true, true] rfl rfl (one_of HT_.out (by kernel_rfl)) (by decide) (fun K hK => ?_)
  have hs13 : w12.cell? ⟨gb102, 0, none⟩ = some (.int .i64 0) := (blk_cell BK102.out 0).trans rfl
  have hfs13 := blk_frozen BK102.out 0
  have hns13_0 := NB101_102.out
  have hms13_0 := NB102_101.out
  have hs14 : w12.cell? ⟨gb102, 1, none⟩ = some (.int .i64 0) := (blk_cell BK102.out 1).trans rfl
  have hfs14 := blk_frozen BK102.out 1
  have hns14_0 := NB101_102.out
  have hms14_0 := NB102_101.out
  refine skip_ (w1 := ?_) (by rfl) rfl ?_ ?_
  rotate_left
  · go_simp
    rfl
  refine hK.out _ _ ⟨((cell_far (p := ⟨gb102, _, none⟩) NB101_102.out _).trans (((cell_far (p := ⟨gb102, _, none⟩) NB101_102.out _).trans (hHeld.1)))), ((cell_far (p := ⟨gb102, _, none⟩) NB101_102.out _).trans (((cell_far (p := ⟨gb102, _, none⟩) NB101_102.out _).trans (hHeld.2.1)))), ((cell_far (p := ⟨gb102, _, none⟩) NB101_102.out _).trans (((cell_far (p := ⟨gb102, _, none⟩) NB101_102.out _).trans (hHeld.2.2.1)))), ((cell_far (p := ⟨gb102, _, none⟩) NB101_102.out _).trans (((cell_far (p := ⟨gb102, _, none⟩) NB101_102.out _).trans (hHeld.2.2.2.1)))), ((cell_far (p := ⟨gb102, _, none⟩) NB101_102.out _).trans (((cell_far (p := ⟨gb102, _, none⟩) NB101_102.out _).trans (hHeld.2.2.2.2.1)))), ((cell_far (p := ⟨gb102, _, none⟩) NB101_102.out _).trans (((cell_far (p := ⟨gb102, _, none⟩) NB101_102.out _).trans (hHeld.2.2.2.2.2.1)))), ((cell_far (p := ⟨gb102, _, none⟩) NB101_102.out _).trans (((cell_far (p := ⟨gb102, _, none⟩) NB101_102.out _).trans (hHeld.2.2.2.2.2.2.1)))), ((cell_far (p := ⟨gb102, _, none⟩) NB101_102.out _).trans (((cell_far (p := ⟨gb102, _, none⟩) NB101_102.out _).trans (hHeld.2.2.2.2.2.2.2.1)))), ((cell_far (p := ⟨gb102, _, none⟩) NB101_102.out _).trans (((cell_far (p := ⟨gb102, _, none⟩) NB101_102.out _).trans (hHeld.2.2.2.2.2.2.2.2.1)))), ((cell_far (p := ⟨gb102, _, none⟩) NB101_102.out _).trans (((cell_far (p := ⟨gb102, _, none⟩) NB101_102.out _).trans (hHeld.2.2.2.2.2.2.2.2.2))))⟩ (fun hHeld => ?_)
  clear hK K
  refine done_ (done_of HT_.out (by kernel_rfl)) ?_
  try go_wp2
  refine bodyPost_ret (results_cell_row rfl _ _ gb102 35 #[.int .i64 t104, .int .i64 t106] (0, 0) _ rfl (by (with_reducible repeat (first | refine qn ?_ _ | refine qd ?_ | refine qa ?_ _)); refine blk_put (cs := #[.int .i64 t104, .int .i64 0]) ?_ 1 _ rfl; (with_reducible repeat (first | refine qn ?_ _ | refine qd ?_ | refine qa ?_ _)); refine blk_put (cs := #[.int .i64 0, .int .i64 0]) ?_ 0 _ rfl; (with_reducible repeat (first | refine qn ?_ _ | refine qd ?_ | refine qa ?_ _)); exact BK102.out) Try.underlying35 rfl (by kernel_rfl)) rfl ?_
  exact ⟨by first | rfl | (simp [errW_none, errW_some] <;> rfl) | (simp [*, errW_none, errW_some] <;> rfl), by repeat (first | (with_reducible first | exact HB.out | apply qA | apply qN | apply qD | refine below_set ?_ GE101.out | refine below_set ?_ GE102.out) | exact HB.out)⟩

end Go.Proofs.Ytbomgfbfnkfamaa.PAll
end
section
namespace Go.Proofs.Ytbomgfbfnkfamaa.PAll
open Go.RowKit Go.Proofs.YtbomgfbfnkfamaaW.PrintWords Go.Proofs.YtbomgfbfnkfamaaW.PrintLast Go.Proofs.YtbomgfbfnkfamaaW.PrintMore
attribute [local go_sem] max2_int min2_int max_two min_two max_three min_three max_four min_four   -- for this text's walks alone
set_option linter.unusedVariables false
set_option linter.unusedSimpArgs false

/-! ### bits_Len64: function 148 -/
def lt8 (v : Int) : Int := if h : v.toNat < Lib.len8tab.size then ((Lib.len8tab[v.toNat]'h).toNat : Int) else 0
def len32 (x n : Int) : Int := if 65536 ≤ x then (if 256 ≤ x / 65536 then n + 24 + lt8 (x / 65536 / 256) else n + 16 + lt8 (x / 65536)) else if 256 ≤ x then n + 8 + lt8 (x / 256) else n + lt8 x
def bits_Len64.f (a0 : Int) : Option (Int) := if 0 ≤ a0 ∧ a0 < 18446744073709551616 then some (if 4294967296 ≤ a0 then len32 (a0 / 4294967296) 32 else len32 a0 0) else none
theorem lt8_all : ∀ v : Fin 256, 0 ≤ lt8 (v.val : Int) ∧ lt8 (v.val : Int) ≤ 8 ∧ v.val < 2 ^ (lt8 (v.val : Int)).toNat := by decide +kernel
theorem lt8_at {v : Int} (h0 : 0 ≤ v) (h1 : v < 256) : lt8 v ≤ 8 ∧ 0 ≤ lt8 v ∧ v < 2 ^ (lt8 v).toNat := by
  have h := lt8_all ⟨v.toNat, by omega⟩
  simp only [Int.toNat_of_nonneg h0] at h
  refine ⟨h.2.1, h.1, ?_⟩
  have h3 : ((v.toNat : Nat) : Int) < ((2 ^ (lt8 v).toNat : Nat) : Int) := Int.ofNat_lt.2 h.2.2
  rw [Int.toNat_of_nonneg h0] at h3
  simpa using h3
theorem lt8_spell {v : Int} (h : v.toNat < Lib.len8tab.size) : ((Lib.len8tab[v.toNat]'h).toNat : Int) = lt8 v := by unfold lt8; rw [dif_pos h]

set_option maxHeartbeats 8000000 in
set_option maxRecDepth 100000 in
theorem bits_Len64.calls (a0 : Int) (r : Int) (w : World) (h : bits_Len64.f a0 = some r) :
    Calls Try.prog 148 #[.int .u64 a0] w fun e w' => e = .returned (.int .i64 r) ∧ Drawn0 w w' := by
  unfold bits_Len64.f at h
  split at h
  · rename_i hc
    obtain ⟨h0, h1⟩ := hc
    obtain rfl := Option.some.inj h
    clear h
    by_cases c0 : 4294967296 ≤ a0
    · skip
      have d0 : 0 ≤ a0 / 4294967296 := by omega
      have d1 : a0 / 4294967296 < 4294967296 := by omega
      by_cases c1 : 65536 ≤ a0 / 4294967296
      · by_cases c2 : 256 ≤ a0 / 4294967296 / 65536
        · skip
          obtain ⟨b1, b2, _⟩ := lt8_at (v := a0 / 4294967296 / 65536 / 256) (by omega) (by omega)
          have HX : Aside0 (len32 (a0 / 4294967296) 32 = 56 + lt8 (a0 / 4294967296 / 65536 / 256)) := ⟨by unfold len32; rw [if_pos (by omega), if_pos (by omega)] <;> omega⟩
          have i0 : 0 ≤ a0 / 4294967296 / 65536 / 256 := by omega
          have i1 : a0 / 4294967296 / 65536 / 256 < (Lib.len8tab.size : Int) := by have h : Lib.len8tab.size = 256 := rfl; omega
          have HL := Aside0.mk (@lt8_spell (a0 / 4294967296 / 65536 / 256))
          have HB := Aside0.mk (And.intro b1 b2)
          clear b1 b2
          rw [if_pos c0, HX.out]
          go_enter Try.func148, Try.ntmps148
          go_wp2_with fail
          go_ret
          refine ⟨congrArg (fun x => Ending.returned (.int .i64 x)) ?_, ⟨0, rfl⟩⟩
          try dsimp only
          try rw [HL.out]
          have := HB.out; unfold wrap64; omega
        · skip
          obtain ⟨b1, b2, _⟩ := lt8_at (v := a0 / 4294967296 / 65536) (by omega) (by omega)
          have HX : Aside0 (len32 (a0 / 4294967296) 32 = 48 + lt8 (a0 / 4294967296 / 65536)) := ⟨by unfold len32; rw [if_pos (by omega), if_neg (by omega)] <;> omega⟩
          have i0 : 0 ≤ a0 / 4294967296 / 65536 := by omega
          have i1 : a0 / 4294967296 / 65536 < (Lib.len8tab.size : Int) := by have h : Lib.len8tab.size = 256 := rfl; omega
          have HL := Aside0.mk (@lt8_spell (a0 / 4294967296 / 65536))
          have HB := Aside0.mk (And.intro b1 b2)
          clear b1 b2
          rw [if_pos c0, HX.out]
          go_enter Try.func148, Try.ntmps148
          go_wp2_with fail
          go_ret
          refine ⟨congrArg (fun x => Ending.returned (.int .i64 x)) ?_, ⟨0, rfl⟩⟩
          try dsimp only
          try rw [HL.out]
          have := HB.out; unfold wrap64; omega
      · by_cases c2 : 256 ≤ a0 / 4294967296
        · skip
          obtain ⟨b1, b2, _⟩ := lt8_at (v := a0 / 4294967296 / 256) (by omega) (by omega)
          have HX : Aside0 (len32 (a0 / 4294967296) 32 = 40 + lt8 (a0 / 4294967296 / 256)) := ⟨by unfold len32; rw [if_neg (by omega), if_pos (by omega)] <;> omega⟩
          have i0 : 0 ≤ a0 / 4294967296 / 256 := by omega
          have i1 : a0 / 4294967296 / 256 < (Lib.len8tab.size : Int) := by have h : Lib.len8tab.size = 256 := rfl; omega
          have HL := Aside0.mk (@lt8_spell (a0 / 4294967296 / 256))
          have HB := Aside0.mk (And.intro b1 b2)
          clear b1 b2
          rw [if_pos c0, HX.out]
          go_enter Try.func148, Try.ntmps148
          go_wp2_with fail
          go_ret
          refine ⟨congrArg (fun x => Ending.returned (.int .i64 x)) ?_, ⟨0, rfl⟩⟩
          try dsimp only
          try rw [HL.out]
          have := HB.out; unfold wrap64; omega
        · skip
          obtain ⟨b1, b2, _⟩ := lt8_at (v := a0 / 4294967296) (by omega) (by omega)
          have HX : Aside0 (len32 (a0 / 4294967296) 32 = 32 + lt8 (a0 / 4294967296)) := ⟨by unfold len32; rw [if_neg (by omega), if_neg (by omega)] <;> omega⟩
          have i0 : 0 ≤ a0 / 4294967296 := by omega
          have i1 : a0 / 4294967296 < (Lib.len8tab.size : Int) := by have h : Lib.len8tab.size = 256 := rfl; omega
          have HL := Aside0.mk (@lt8_spell (a0 / 4294967296))
          have HB := Aside0.mk (And.intro b1 b2)
          clear b1 b2
          rw [if_pos c0, HX.out]
          go_enter Try.func148, Try.ntmps148
          go_wp2_with fail
          go_ret
          refine ⟨congrArg (fun x => Ending.returned (.int .i64 x)) ?_, ⟨0, rfl⟩⟩
          try dsimp only
          try rw [HL.out]
          have := HB.out; unfold wrap64; omega
    · skip
      by_cases c1 : 65536 ≤ a0
      · by_cases c2 : 256 ≤ a0 / 65536
        · skip
          obtain ⟨b1, b2, _⟩ := lt8_at (v := a0 / 65536 / 256) (by omega) (by omega)
          have HX : Aside0 (len32 (a0) 0 = 24 + lt8 (a0 / 65536 / 256)) := ⟨by unfold len32; rw [if_pos (by omega), if_pos (by omega)] <;> omega⟩
          have i0 : 0 ≤ a0 / 65536 / 256 := by omega
          have i1 : a0 / 65536 / 256 < (Lib.len8tab.size : Int) := by have h : Lib.len8tab.size = 256 := rfl; omega
          have HL := Aside0.mk (@lt8_spell (a0 / 65536 / 256))
          have HB := Aside0.mk (And.intro b1 b2)
          clear b1 b2
          rw [if_neg (by omega), HX.out]
          go_enter Try.func148, Try.ntmps148
          go_wp2_with fail
          go_ret
          refine ⟨congrArg (fun x => Ending.returned (.int .i64 x)) ?_, ⟨0, rfl⟩⟩
          try dsimp only
          try rw [HL.out]
          have := HB.out; unfold wrap64; omega
        · skip
          obtain ⟨b1, b2, _⟩ := lt8_at (v := a0 / 65536) (by omega) (by omega)
          have HX : Aside0 (len32 (a0) 0 = 16 + lt8 (a0 / 65536)) := ⟨by unfold len32; rw [if_pos (by omega), if_neg (by omega)] <;> omega⟩
          have i0 : 0 ≤ a0 / 65536 := by omega
          have i1 : a0 / 65536 < (Lib.len8tab.size : Int) := by have h : Lib.len8tab.size = 256 := rfl; omega
          have HL := Aside0.mk (@lt8_spell (a0 / 65536))
          have HB := Aside0.mk (And.intro b1 b2)
          clear b1 b2
          rw [if_neg (by omega), HX.out]
          go_enter Try.func148, Try.ntmps148
          go_wp2_with fail
          go_ret
          refine ⟨congrArg (fun x => Ending.returned (.int .i64 x)) ?_, ⟨0, rfl⟩⟩
          try dsimp only
          try rw [HL.out]
          have := HB.out; unfold wrap64; omega
      · by_cases c2 : 256 ≤ a0
        · skip
          obtain ⟨b1, b2, _⟩ := lt8_at (v := a0 / 256) (by omega) (by omega)
          have HX : Aside0 (len32 (a0) 0 = 8 + lt8 (a0 / 256)) := ⟨by unfold len32; rw [if_neg (by omega), if_pos (by omega)] <;> omega⟩
          have i0 : 0 ≤ a0 / 256 := by omega
          have i1 : a0 / 256 < (Lib.len8tab.size : Int) := by have h : Lib.len8tab.size = 256 := rfl; omega
          have HL := Aside0.mk (@lt8_spell (a0 / 256))
          have HB := Aside0.mk (And.intro b1 b2)
          clear b1 b2
          rw [if_neg (by omega), HX.out]
          go_enter Try.func148, Try.ntmps148
          go_wp2_with fail
          go_ret
          refine ⟨congrArg (fun x => Ending.returned (.int .i64 x)) ?_, ⟨0, rfl⟩⟩
          try dsimp only
          try rw [HL.out]
          have := HB.out; unfold wrap64; omega
        · skip
          obtain ⟨b1, b2, _⟩ := lt8_at (v := a0) (by omega) (by omega)
          have HX : Aside0 (len32 (a0) 0 = 0 + lt8 (a0)) := ⟨by unfold len32; rw [if_neg (by omega), if_neg (by omega)] <;> omega⟩
          have i0 : 0 ≤ a0 := by omega
          have i1 : a0 < (Lib.len8tab.size : Int) := by have h : Lib.len8tab.size = 256 := rfl; omega
          have HL := Aside0.mk (@lt8_spell (a0))
          have HB := Aside0.mk (And.intro b1 b2)
          clear b1 b2
          rw [if_neg (by omega), HX.out]
          go_enter Try.func148, Try.ntmps148
          go_wp2_with fail
          go_ret
          refine ⟨congrArg (fun x => Ending.returned (.int .i64 x)) ?_, ⟨0, rfl⟩⟩
          try dsimp only
          try rw [HL.out]
          have := HB.out; unfold wrap64; omega
  · cases h

end Go.Proofs.Ytbomgfbfnkfamaa.PAll
end
section
namespace Go.Proofs.Ytbomgfbfnkfamaa.PAll
open Go.RowKit Go.Proofs.YtbomgfbfnkfamaaW.PrintWords Go.Proofs.YtbomgfbfnkfamaaW.PrintLast Go.Proofs.YtbomgfbfnkfamaaW.PrintMore
attribute [local go_sem] max2_int min2_int max_two min_two max_three min_three max_four min_four   -- for this text's walks alone
set_option linter.unusedVariables false
set_option linter.unusedSimpArgs false

/-! ### bits_Len: function 142 -/
def bits_Len.f (a0 : Int) : Option (Int) := (bits_Len64.f a0).bind fun t101 => (some t101)
set_option maxHeartbeats 8000000 in
set_option maxRecDepth 100000 in
theorem bits_Len.calls (a0 : Int) (r : Int) (w : World) (h : bits_Len.f a0 = some r) :
    Calls Try.prog 142 #[.int .u64 a0] w fun e w' => e = .returned (.int .i64 r) ∧ Drawn0 w w' := by
  have H : ((bits_Len64.f a0).bind fun t101 => (some t101)) = some r := h
  clear h
  replace H := Option.bind_eq_some_iff.mp H
  obtain ⟨t101, A20, H⟩ := H
  replace H : (some t101) = some r := H
  have A2 := Aside0.mk A20
  clear A20
  obtain rfl := Option.some.inj H
  go_enter Try.func142, Try.ntmps142
  go_wp2_with (first | ((with_reducible refine gate_callee (f := 148) rfl ?_); refine goesL_ (some 7) rfl rfl Try.func148 (by kernel_rfl) rfl #[.int .u64 a0] rfl (by (try simp only [List.map_toArray, List.map_cons, List.map_nil]); first | done | rfl | (simp only [List.length_drop, List.length_take]; rfl)) ?_; (with_reducible refine (bits_Len64.calls a0 t101 _ A2.out).mono ?_); rintro e w' ⟨rfl, ⟨nd, rfl⟩⟩; refine ⟨_, rfl, ?_⟩))
  go_ret
  exact ⟨by first | rfl | (simp; done) | (simp [*]; done), by repeat (first | exact Drawn0.refl _ | apply Drawn0.step)⟩

end Go.Proofs.Ytbomgfbfnkfamaa.PAll
end
section
namespace Go.Proofs.Ytbomgfbfnkfamaa.PAll
open Go.RowKit Go.Proofs.YtbomgfbfnkfamaaW.PrintWords Go.Proofs.YtbomgfbfnkfamaaW.PrintLast Go.Proofs.YtbomgfbfnkfamaaW.PrintMore
attribute [local go_sem] max2_int min2_int max_two min_two max_three min_three max_four min_four   -- for this text's walks alone
set_option linter.unusedVariables false
set_option linter.unusedSimpArgs false

/-! ### curve_cubed: function 120 -/
def curve_cubed.l0 : Nat → Int → Int → Option (Int × Bool)
  | 0, _, _ => none
  | k + 1, x4, x5 => if x5 = 0 then (none) else (if (wrap64 (Int.tdiv (wrap64 (x5 + (wrap64 (Int.tdiv x4 x5)))) 2)) ≥ x5 then (some (x5, ((wrap64 (x5 * x5)) == x4))) else (curve_cubed.l0 k x4 (wrap64 (Int.tdiv (wrap64 (x5 + (wrap64 (Int.tdiv x4 x5)))) 2))))
def curve_cubed.f (k : Nat) (a0 : Int) : Option (Int × Bool) := if (wrap64 ((wrap64 (a0 * a0)) * a0)) = 0 then (some (0, true)) else ((bits_Len.f (IntKind.u64.wrap (wrap64 ((wrap64 (a0 * a0)) * a0)))).bind fun t101 => (if 0 ≤ (wrap64 (Int.tdiv (wrap64 (t101 + 1)) 2)) then (curve_cubed.l0 k (wrap64 ((wrap64 (a0 * a0)) * a0)) (shl .i64 1 (wrap64 (Int.tdiv (wrap64 (t101 + 1)) 2)))) else (none)))
theorem curve_cubed.mono_l : ∀ k, (∀ y0 y1, LeO (curve_cubed.l0 k y0 y1) (curve_cubed.l0 (k + 1) y0 y1))
  | 0 => fun _ _ r h => by simp [curve_cubed.l0] at h
  | k + 1 => by
    have ih0 := curve_cubed.mono_l k
    · intro y0 y1
      unfold curve_cubed.l0
      repeat' first
      | (with_reducible exact ih0 _ _)
      | (with_reducible exact LeO.refl _)
      | (with_reducible exact LeO.none _)
      | (with_reducible refine LeO.ite ?_ ?_)
      | (with_reducible refine LeO.bind ?_ (fun _ => ?_))
      | exact ih0 _ _
      | exact LeO.none _
      | refine LeO.ite ?_ ?_
      | refine LeO.bind ?_ (fun _ => ?_)
theorem curve_cubed.mono : ∀ a0 k, LeO (curve_cubed.f k a0) (curve_cubed.f (k + 1) a0) := by
  intro a0 k
  have ih0 := curve_cubed.mono_l k
  unfold curve_cubed.f
  repeat' first
      | (with_reducible exact ih0 _ _)
      | (with_reducible exact LeO.refl _)
      | (with_reducible exact LeO.none _)
      | (with_reducible refine LeO.ite ?_ ?_)
      | (with_reducible refine LeO.bind ?_ (fun _ => ?_))
      | exact ih0 _ _
      | exact LeO.none _
      | refine LeO.ite ?_ ?_
      | refine LeO.bind ?_ (fun _ => ?_)
set_option maxHeartbeats 8000000 in
set_option maxRecDepth 100000 in
theorem curve_cubed.calls (k : Nat) (a0 : Int) (r1 : Int) (r2 : Bool) (w : World) (h : curve_cubed.f k a0 = some (r1, r2)) :
    Calls Try.prog 120 #[.int .i64 a0] w fun e w' => e = .returned (.tuple #[.int .i64 r1, .bool r2]) ∧ Drawn0 w w' := by
  have H : (if (wrap64 ((wrap64 (a0 * a0)) * a0)) = 0 then (some (0, true)) else ((bits_Len.f (IntKind.u64.wrap (wrap64 ((wrap64 (a0 * a0)) * a0)))).bind fun t101 => (if 0 ≤ (wrap64 (Int.tdiv (wrap64 (t101 + 1)) 2)) then (curve_cubed.l0 k (wrap64 ((wrap64 (a0 * a0)) * a0)) (shl .i64 1 (wrap64 (Int.tdiv (wrap64 (t101 + 1)) 2)))) else (none)))) = some (r1, r2) := h
  clear h
  by_cases c2 : (wrap64 ((wrap64 (a0 * a0)) * a0)) = 0
  · rw [if_pos c2] at H
    have c2b0 : ((wrap64 ((wrap64 (a0 * a0)) * a0)) == 0) = true := beq_iff_eq.mpr c2
    have c2b1 : ((wrap64 ((wrap64 (a0 * a0)) * a0)) != 0) = false := bne_eq_false_iff_eq.mpr c2
    clear c2
    simp only [Option.some.injEq, Prod.mk.injEq] at H
    obtain ⟨rfl, rfl⟩ := H
    go_enter Try.func120, Try.ntmps120
    go_wp2
    go_ret2
    exact ⟨by first | rfl | (simp; done) | (simp [*]; done), by repeat (first | exact Drawn0.refl _ | apply Drawn0.step)⟩
  · rw [if_neg c2] at H
    have c2b0 : ((wrap64 ((wrap64 (a0 * a0)) * a0)) == 0) = false := beq_eq_false_iff_ne.mpr c2
    have c2b1 : ((wrap64 ((wrap64 (a0 * a0)) * a0)) != 0) = true := bne_iff_ne.mpr c2
    replace H := Option.bind_eq_some_iff.mp H
    obtain ⟨t101, A30, H⟩ := H
    replace H : (if 0 ≤ (wrap64 (Int.tdiv (wrap64 (t101 + 1)) 2)) then (curve_cubed.l0 k (wrap64 ((wrap64 (a0 * a0)) * a0)) (shl .i64 1 (wrap64 (Int.tdiv (wrap64 (t101 + 1)) 2)))) else (none)) = some (r1, r2) := H
    have A3 := Aside0.mk A30
    clear A30
    obtain ⟨ji4, hji4⟩ : ∃ j_ : Int, (wrap64 (Int.tdiv (wrap64 (t101 + 1)) 2)) = j_ := ⟨_, rfl⟩
    replace H : (if 0 ≤ (ji4) then (curve_cubed.l0 k (wrap64 ((wrap64 (a0 * a0)) * a0)) (shl .i64 1 (ji4))) else (none)) = some (r1, r2) := by first | (rw [hji4] at H; exact H) | (simp only [hji4] at H ⊢; exact H)
    (try rw [hji4] at A3)
    have hji4w : (IntKind.i64.wrap (Int.tdiv (wrap64 (t101 + 1)) 2)) = ji4 := (i64_w _).trans hji4
    by_cases c5 : 0 ≤ (ji4)
    · rw [if_pos c5] at H
      have c5b0 := eq_true c5
      have c5b1 : decide (0 ≤ (ji4)) = true := decide_eq_true c5
      clear c5
      obtain ⟨ji6, hji6⟩ : ∃ j_ : Int, (shl .i64 1 (ji4)) = j_ := ⟨_, rfl⟩
      replace H : (curve_cubed.l0 k (wrap64 ((wrap64 (a0 * a0)) * a0)) ji6) = some (r1, r2) := by first | (rw [hji6] at H; exact H) | (simp only [hji6] at H ⊢; exact H)
      (try rw [hji6] at A3)
      have hji6_ : (IntKind.i64.wrap (1 * 2 ^ min (ji4).toNat 64)) = ji6 := hji6
      have hji6z : (ji4) ≤ 64 → (IntKind.i64.wrap (1 * 2 ^ (ji4).toNat)) = ji6 := shl_small hji6
      have hji6u : (IntKind.i64.wrap (2 ^ min (ji4).toNat 64)) = ji6 := by have h_ := hji6_; rw [Int.one_mul] at h_; exact h_
      have hji6v : (ji4) ≤ 64 → (IntKind.i64.wrap (2 ^ (ji4).toNat)) = ji6 := fun hle_ => by have h_ := hji6z hle_; rw [Int.one_mul] at h_; exact h_
      have hji6y : (wrap64 (1 * 2 ^ min (ji4).toNat 64)) = ji6 := (i64_w _).symm.trans hji6_
      have hji6x : (ji4) ≤ 64 → (wrap64 (1 * 2 ^ (ji4).toNat)) = ji6 := fun h_ => (i64_w _).symm.trans (hji6z h_)
      have H' := Aside0.mk H
      clear H
      go_enter Try.func120, Try.ntmps120
      go_wp2_with (first | ((with_reducible refine gate_callee (f := 142) rfl ?_); refine goesL_ (some 16) rfl rfl Try.func142 (by kernel_rfl) rfl #[.int .u64 (IntKind.u64.wrap (wrap64 ((wrap64 (a0 * a0)) * a0)))] rfl (by (try simp only [List.map_toArray, List.map_cons, List.map_nil]); first | done | rfl | (simp only [List.length_drop, List.length_take]; rfl)) ?_; (with_reducible refine (bits_Len.calls (IntKind.u64.wrap (wrap64 ((wrap64 (a0 * a0)) * a0))) t101 _ A3.out).mono ?_); rintro e w' ⟨rfl, ⟨nd, rfl⟩⟩; refine ⟨_, rfl, ?_⟩))
      go_loopg [5] k (fun kq v5 w' => ∃ (x5_1 : Int), v5 = .int .i64 x5_1 ∧ Aside0 (curve_cubed.l0 kq (wrap64 ((wrap64 (a0 * a0)) * a0)) x5_1 = some (r1, r2)) ∧ Aside0 (kq ≤ k) ∧ Drawn0 w w')
      case atStart => exact ⟨(ji6), (by first | rfl | (simp; done) | (simp only [← hji6] <;> (first | rfl | simp)) | (simp [*]; done)), H', ⟨Nat.le_refl _⟩, by repeat (first | exact Drawn0.refl _ | apply Drawn0.step)⟩
      case round =>
        clear H'
        try clear c1
        try clear c2
        try clear c2b0
        try clear c2b1
        try clear p2
        try clear c5
        try clear c5b0
        try clear c5b1
        try clear p6
        obtain ⟨x5_1, rfl, HA, HK1, ⟨m1, rfl⟩⟩ := hrel
        cases gk with
        | zero => exact absurd HA.out (by simp [curve_cubed.l0])
        | succ k1 =>
          have H := HA.out
          clear HA
          simp only [curve_cubed.l0] at H
          by_cases c7 : x5_1 = 0
          · rw [if_pos c7] at H
            exact absurd H (by simp)
          · rw [if_neg c7] at H
            have c7b0 : (x5_1 == 0) = false := beq_eq_false_iff_ne.mpr c7
            have c7b1 : (x5_1 != 0) = true := bne_iff_ne.mpr c7
            by_cases c8 : (wrap64 (Int.tdiv (wrap64 (x5_1 + (wrap64 (Int.tdiv (wrap64 ((wrap64 (a0 * a0)) * a0)) x5_1)))) 2)) ≥ x5_1
            · rw [if_pos c8] at H
              have c8b0 : decide (x5_1 ≤ (wrap64 (Int.tdiv (wrap64 (x5_1 + (wrap64 (Int.tdiv (wrap64 ((wrap64 (a0 * a0)) * a0)) x5_1)))) 2))) = true := decide_eq_true c8
              clear c8
              simp only [Option.some.injEq, Prod.mk.injEq] at H
              obtain ⟨rfl, rfl⟩ := H
              go_wp2
              go_ret2
              exact ⟨by first | rfl | (simp; done) | (simp only [← hji4, ← hji6] <;> (first | rfl | simp)) | (simp [*]; done), by repeat (first | exact Drawn0.refl _ | apply Drawn0.step)⟩
            · rw [if_neg c8] at H
              have c8b0 : decide (x5_1 ≤ (wrap64 (Int.tdiv (wrap64 (x5_1 + (wrap64 (Int.tdiv (wrap64 ((wrap64 (a0 * a0)) * a0)) x5_1)))) 2))) = false := decide_eq_false c8
              clear c8
              have H' := Aside0.mk H
              clear H
              go_wp2
              go_roundg k1
              case measure => have := HK1.out; omega
              case rel => exact ⟨(wrap64 (Int.tdiv (wrap64 (x5_1 + (wrap64 (Int.tdiv (wrap64 ((wrap64 (a0 * a0)) * a0)) x5_1)))) 2)), (by first | rfl | (simp; done) | (simp [*]; done)), H', ⟨by have := HK1.out; omega⟩, by repeat (first | exact Drawn0.refl _ | apply Drawn0.step)⟩
    · rw [if_neg c5] at H
      exact absurd H (by simp)

end Go.Proofs.Ytbomgfbfnkfamaa.PAll
end
section
namespace Go.Proofs.Ytbomgfbfnkfamaa.PAll
open Go.RowKit Go.Proofs.YtbomgfbfnkfamaaW.PrintWords Go.Proofs.YtbomgfbfnkfamaaW.PrintLast Go.Proofs.YtbomgfbfnkfamaaW.PrintMore
attribute [local go_sem] max2_int min2_int max_two min_two max_three min_three max_four min_four   -- for this text's walks alone
set_option linter.unusedVariables false
set_option linter.unusedSimpArgs false

/-! ### curve_current: function 80 -/
def curve_current.j0 : Nat → Int → Int → Int → Int → Int → Int → Int → Int → Int → Int → Int → Int → Option (Int × Int)
  | 0, _, _, _, _, _, _, _, _, _, _, _, _ => none
  | k + 1, x8, x10, x102000, x102001, x102002, x102003, x102004, x102005, x102006, x102007, x102008, x102009 => (curve_floor.f (wrap64 (x102000 * x8)) 1000000).bind fun t110 => ((curve_ceil.f (wrap64 (x102001 * x10)) 1000000).bind fun t111 => ((curve_floor.f (wrap64 (x102008 * (mn t110 x102006))) 1000000).bind fun t112 => ((curve_ceil.f (wrap64 (x102009 * (mn t111 x102007))) 1000000).bind fun t113 => (some (t112, t113)))))
def curve_current.f (k : Nat) (a0_0 : Int) (a0_1 : Int) (a0_2 : Int) (a0_3 : Int) (a0_4 : Int) (a0_5 : Int) (a0_6 : Int) (a0_7 : Int) (a0_8 : Int) (a0_9 : Int) (a1 : Int) (a2 : Int) : Option (Int × Int) := (curve_drive.f a0_0 a0_1 a0_2 a0_3 a0_4 a0_5 a0_6 a0_7 a0_8 a0_9 a1 a2).bind fun bt103 => ((curve_cubed.f k bt103.1).bind fun bt106 => ((curve_cubed.f k bt103.2).bind fun bt108 => (if bt108.2 = true then (curve_current.j0 k bt106.1 bt108.1 a0_0 a0_1 a0_2 a0_3 a0_4 a0_5 a0_6 a0_7 a0_8 a0_9) else (curve_current.j0 k bt106.1 (wrap64 (bt108.1 + 1)) a0_0 a0_1 a0_2 a0_3 a0_4 a0_5 a0_6 a0_7 a0_8 a0_9))))
theorem curve_current.mono_l : ∀ k, (∀ y0 y1 y2 y3 y4 y5 y6 y7 y8 y9 y10 y11, LeO (curve_current.j0 k y0 y1 y2 y3 y4 y5 y6 y7 y8 y9 y10 y11) (curve_current.j0 (k + 1) y0 y1 y2 y3 y4 y5 y6 y7 y8 y9 y10 y11))
  | 0 => fun _ _ _ _ _ _ _ _ _ _ _ _ r h => by simp [curve_current.j0] at h
  | k + 1 => by
    have ih0 := curve_current.mono_l k
    · intro y0 y1 y2 y3 y4 y5 y6 y7 y8 y9 y10 y11
      unfold curve_current.j0
      repeat' first
      | (with_reducible exact ih0 _ _ _ _ _ _ _ _ _ _ _ _)
      | (with_reducible exact curve_cubed.mono _ _)
      | (with_reducible exact LeO.refl _)
      | (with_reducible exact LeO.none _)
      | (with_reducible refine LeO.ite ?_ ?_)
      | (with_reducible refine LeO.bind ?_ (fun _ => ?_))
      | exact ih0 _ _ _ _ _ _ _ _ _ _ _ _
      | exact curve_cubed.mono _ _
      | exact LeO.none _
      | refine LeO.ite ?_ ?_
      | refine LeO.bind ?_ (fun _ => ?_)
theorem curve_current.mono : ∀ a0 a1 a2 a3 a4 a5 a6 a7 a8 a9 a10 a11 k, LeO (curve_current.f k a0 a1 a2 a3 a4 a5 a6 a7 a8 a9 a10 a11) (curve_current.f (k + 1) a0 a1 a2 a3 a4 a5 a6 a7 a8 a9 a10 a11) := by
  intro a0 a1 a2 a3 a4 a5 a6 a7 a8 a9 a10 a11 k
  have ih0 := curve_current.mono_l k
  unfold curve_current.f
  repeat' first
      | (with_reducible exact ih0 _ _ _ _ _ _ _ _ _ _ _ _)
      | (with_reducible exact curve_cubed.mono _ _)
      | (with_reducible exact LeO.refl _)
      | (with_reducible exact LeO.none _)
      | (with_reducible refine LeO.ite ?_ ?_)
      | (with_reducible refine LeO.bind ?_ (fun _ => ?_))
      | exact ih0 _ _ _ _ _ _ _ _ _ _ _ _
      | exact curve_cubed.mono _ _
      | exact LeO.none _
      | refine LeO.ite ?_ ?_
      | refine LeO.bind ?_ (fun _ => ?_)
def curve_current.T6 : Bool × List (List Nat × List Nat) := (true, [([], []), ([0], [0]), ([1], [1]), ([], []), ([2, 3], [2, 3]), ([4], [4]), ([], []), ([6], [6]), ([7], [7]), ([5, 8], [5, 8]), ([9, 5, 0, 1, 2, 3, 4, 5, 6, 7, 8, 9], [9])])
def curve_current.B6 : List Nat := [0, 1, 3, 0, 15, 31, 0, 64, 192, 511, 1023]
theorem curve_current.tab6 : rtab .any (opsOf Try.f80 6) = curve_current.T6 := by kernel_rfl
theorem curve_current.bits6 : waitsOk curve_current.T6.2 curve_current.B6 = true := by kernel_rfl
def curve_current.T7 : Bool × List (List Nat × List Nat) := (true, [([], []), ([0], [0]), ([1], [1]), ([], []), ([2, 3], [2, 3]), ([4], [4]), ([], []), ([6], [6]), ([7], [7]), ([5, 8], [5, 8]), ([9, 5, 0, 1, 2, 3, 4, 5, 6, 7, 8, 9], [9])])
def curve_current.B7 : List Nat := [0, 1, 3, 0, 15, 31, 0, 64, 192, 511, 1023]
theorem curve_current.tab7 : rtab .any (opsOf Try.f80 7) = curve_current.T7 := by kernel_rfl
theorem curve_current.bits7 : waitsOk curve_current.T7.2 curve_current.B7 = true := by kernel_rfl
def curve_current.T8 : Bool × List (List Nat × List Nat) := (true, [([], []), ([0], [0]), ([1], [1]), ([], []), ([2, 3], [2, 3]), ([4], [4]), ([], []), ([6], [6]), ([7], [7]), ([], []), ([8, 9], [8, 9]), ([10, 5], [10]), ([5, 11], [5, 11]), ([12, 11, 0, 1, 2, 3, 4, 5, 6, 7, 8, 9, 10, 11, 12], [12])])
def curve_current.B8 : List Nat := [0, 1, 3, 0, 15, 31, 0, 64, 192, 0, 960, 2047, 4095, 8191]
theorem curve_current.tab8 : rtab .any (opsOf Try.f80 8) = curve_current.T8 := by kernel_rfl
theorem curve_current.bits8 : waitsOk curve_current.T8.2 curve_current.B8 = true := by kernel_rfl
set_option maxHeartbeats 8000000 in
set_option maxRecDepth 100000 in
theorem curve_current.calls (k : Nat) (a0_0 : Int) (a0_1 : Int) (a0_2 : Int) (a0_3 : Int) (a0_4 : Int) (a0_5 : Int) (a0_6 : Int) (a0_7 : Int) (a0_8 : Int) (a0_9 : Int) (a1 : Int) (a2 : Int) (r1 : Int) (r2 : Int) (w : World) (h : curve_current.f k a0_0 a0_1 a0_2 a0_3 a0_4 a0_5 a0_6 a0_7 a0_8 a0_9 a1 a2 = some (r1, r2)) :
    Calls Try.prog 80 #[.agg #[.int .i64 a0_0, .int .i64 a0_1, .int .i64 a0_2, .int .i64 a0_3, .int .i64 a0_4, .int .i64 a0_5, .int .i64 a0_6, .int .i64 a0_7, .int .i64 a0_8, .int .i64 a0_9], .int .i64 a1, .int .i64 a2] w fun e w' => e = .returned (.agg #[.int .i64 r1, .int .i64 r2]) ∧ Below w.heap.size w w' := by
  have hu42 := Try.underlying42
  have hu35 := Try.underlying35
  have HB := Aside0.mk (Below.refl w.heap.size w)
  have H : ((curve_drive.f a0_0 a0_1 a0_2 a0_3 a0_4 a0_5 a0_6 a0_7 a0_8 a0_9 a1 a2).bind fun bt103 => ((curve_cubed.f k bt103.1).bind fun bt106 => ((curve_cubed.f k bt103.2).bind fun bt108 => (if bt108.2 = true then (curve_current.j0 k bt106.1 bt108.1 a0_0 a0_1 a0_2 a0_3 a0_4 a0_5 a0_6 a0_7 a0_8 a0_9) else (curve_current.j0 k bt106.1 (wrap64 (bt108.1 + 1)) a0_0 a0_1 a0_2 a0_3 a0_4 a0_5 a0_6 a0_7 a0_8 a0_9))))) = some (r1, r2) := h
  clear h
  replace H := Option.bind_eq_some_iff.mp H
  obtain ⟨⟨t103, t104⟩, A40, H⟩ := H
  replace H : ((curve_cubed.f k t103).bind fun bt106 => ((curve_cubed.f k t104).bind fun bt108 => (if bt108.2 = true then (curve_current.j0 k bt106.1 bt108.1 a0_0 a0_1 a0_2 a0_3 a0_4 a0_5 a0_6 a0_7 a0_8 a0_9) else (curve_current.j0 k bt106.1 (wrap64 (bt108.1 + 1)) a0_0 a0_1 a0_2 a0_3 a0_4 a0_5 a0_6 a0_7 a0_8 a0_9)))) = some (r1, r2) := H
  have A4 := Aside0.mk A40
  clear A40
  replace H := Option.bind_eq_some_iff.mp H
  obtain ⟨⟨t106, t107⟩, A50, H⟩ := H
  replace H : ((curve_cubed.f k t104).bind fun bt108 => (if bt108.2 = true then (curve_current.j0 k t106 bt108.1 a0_0 a0_1 a0_2 a0_3 a0_4 a0_5 a0_6 a0_7 a0_8 a0_9) else (curve_current.j0 k t106 (wrap64 (bt108.1 + 1)) a0_0 a0_1 a0_2 a0_3 a0_4 a0_5 a0_6 a0_7 a0_8 a0_9))) = some (r1, r2) := H
  have A5 := Aside0.mk A50
  clear A50
  replace H := Option.bind_eq_some_iff.mp H
  obtain ⟨⟨t108, t109⟩, A60, H⟩ := H
  replace H : (if t109 = true then (curve_current.j0 k t106 t108 a0_0 a0_1 a0_2 a0_3 a0_4 a0_5 a0_6 a0_7 a0_8 a0_9) else (curve_current.j0 k t106 (wrap64 (t108 + 1)) a0_0 a0_1 a0_2 a0_3 a0_4 a0_5 a0_6 a0_7 a0_8 a0_9)) = some (r1, r2) := H
  have A6 := Aside0.mk A60
  clear A60
  have HC7 := Aside0.mk H
  clear H
  go_enter Try.func80, Try.ntmps80
  go_upto_if 31 with (first | ((with_reducible refine gate_dst (N := 3) rfl ?_); refine box_event ?hg (N := 3) ?hd (cs := #[.int .i64 a0_0, .int .i64 a0_1, .int .i64 a0_2, .int .i64 a0_3, .int .i64 a0_4, .int .i64 a0_5, .int .i64 a0_6, .int .i64 a0_7, .int .i64 a0_8, .int .i64 a0_9]) (t := 42) ?hr ?_; (case hd => rfl); (case hg => rfl); (case hr => first | (go_simp; done) | (go_simp; rfl)); intro gb101 hg w8 hbox hb; have n0_ := Aside0.mk (below_step (by repeat (first | (with_reducible first | exact HB.out | apply qA | apply qN | apply qD) | exact HB.out)) hb); have n1_ := Aside0.mk (hbox); have n2_ := Aside0.mk ((by rw [hg]; exact (below_size (by repeat (first | (with_reducible first | exact HB.out | apply qA | apply qN | apply qD) | exact HB.out))) : w.heap.size ≤ gb101)); have n3_ := Aside0.mk ((by rw [hg]; exact (below_size (by repeat (first | (with_reducible first | exact HB.out | apply qA | apply qN | apply qD) | exact HB.out))) : w.heap.size ≤ gb101)); clear HB; have HB := n0_; have BK101 := n1_; have GW101 := n2_; have GE101 := n3_; clear n0_ n1_ n2_ n3_; clear hb hbox hg) | ((with_reducible refine gate_dst (N := 6) rfl ?_); refine box_event ?hg (N := 6) ?hd (cs := #[.int .i64 0, .int .i64 0]) (t := 35) ?hr ?_; (case hd => rfl); (case hg => rfl); (case hr => first | (go_simp; done) | (go_simp; rfl)); intro gb102 hg w9 hbox hb; have n0_ := Aside0.mk (blk_below (by (with_reducible repeat (first | refine qn ?_ _ | refine qd ?_ | refine qa ?_ _)); exact BK101.out) hb); have n1_ := Aside0.mk (below_step (by repeat (first | (with_reducible first | exact HB.out | apply qA | apply qN | apply qD | refine below_set ?_ GE101.out) | exact HB.out)) hb); have n2_ := Aside0.mk (hbox); have n3_ := Aside0.mk ((by rw [hg]; exact (below_size (by repeat (first | (with_reducible first | exact HB.out | apply qA | apply qN | apply qD | refine below_set ?_ GE101.out) | exact HB.out))) : w.heap.size ≤ gb102)); have n4_ := Aside0.mk ((by rw [hg]; exact (below_size (by repeat (first | (with_reducible first | exact HB.out | apply qA | apply qN | apply qD | refine below_set ?_ GE101.out) | exact HB.out))) : w.heap.size ≤ gb102)); have n5_ := Aside0.mk ((by rw [hg]; exact Nat.ne_of_lt (blk_lt (by (with_reducible repeat (first | refine qn ?_ _ | refine qd ?_ | refine qa ?_ _)); exact BK101.out)) : gb101 ≠ gb102)); have n6_ := Aside0.mk ((by rw [hg]; exact Nat.ne_of_gt (blk_lt (by (with_reducible repeat (first | refine qn ?_ _ | refine qd ?_ | refine qa ?_ _)); exact BK101.out)) : gb102 ≠ gb101)); clear BK101; clear HB; have BK101 := n0_; have HB := n1_; have BK102 := n2_; have GW102 := n3_; have GE102 := n4_; have NB101_102 := n5_; have NB102_101 := n6_; clear n0_ n1_ n2_ n3_ n4_ n5_ n6_; clear hb hbox hg; have hnb10 := NB101_102.out; have hnc10 := NB102_101.out; have hcz11_0 : w9.cell? ⟨gb101, 0, none⟩ = some (.int .i64 a0_0) := (blk_cell BK101.out 0).trans rfl; have hcz11_1 : w9.cell? ⟨gb101, 1, none⟩ = some (.int .i64 a0_1) := (blk_cell BK101.out 1).trans rfl; have hcz11_2 : w9.cell? ⟨gb101, 2, none⟩ = some (.int .i64 a0_2) := (blk_cell BK101.out 2).trans rfl; have hcz11_3 : w9.cell? ⟨gb101, 3, none⟩ = some (.int .i64 a0_3) := (blk_cell BK101.out 3).trans rfl; have hcz11_4 : w9.cell? ⟨gb101, 4, none⟩ = some (.int .i64 a0_4) := (blk_cell BK101.out 4).trans rfl; have hcz11_5 : w9.cell? ⟨gb101, 5, none⟩ = some (.int .i64 a0_5) := (blk_cell BK101.out 5).trans rfl; have hcz11_6 : w9.cell? ⟨gb101, 6, none⟩ = some (.int .i64 a0_6) := (blk_cell BK101.out 6).trans rfl; have hcz11_7 : w9.cell? ⟨gb101, 7, none⟩ = some (.int .i64 a0_7) := (blk_cell BK101.out 7).trans rfl; have hcz11_8 : w9.cell? ⟨gb101, 8, none⟩ = some (.int .i64 a0_8) := (blk_cell BK101.out 8).trans rfl; have hcz11_9 : w9.cell? ⟨gb101, 9, none⟩ = some (.int .i64 a0_9) := (blk_cell BK101.out 9).trans rfl; have hfz11_0 := blk_frozen BK101.out 0; have hfz11_1 := blk_frozen BK101.out 1; have hfz11_2 := blk_frozen BK101.out 2; have hfz11_3 := blk_frozen BK101.out 3; have hfz11_4 := blk_frozen BK101.out 4; have hfz11_5 := blk_frozen BK101.out 5; have hfz11_6 := blk_frozen BK101.out 6; have hfz11_7 := blk_frozen BK101.out 7; have hfz11_8 := blk_frozen BK101.out 8; have hfz11_9 := blk_frozen BK101.out 9) | ((with_reducible refine gate_callee (f := 83) rfl ?_); refine goesL_ (some 17) rfl rfl Try.func83 (by kernel_rfl) rfl #[.agg #[.int .i64 a0_0, .int .i64 a0_1, .int .i64 a0_2, .int .i64 a0_3, .int .i64 a0_4, .int .i64 a0_5, .int .i64 a0_6, .int .i64 a0_7, .int .i64 a0_8, .int .i64 a0_9], .int .i64 a1, .int .i64 a2] rfl (by (try simp only [List.map_toArray, List.map_cons, List.map_nil]); first | done | rfl | (simp only [List.length_drop, List.length_take]; rfl)) ?_; (with_reducible refine (curve_drive.calls a0_0 a0_1 a0_2 a0_3 a0_4 a0_5 a0_6 a0_7 a0_8 a0_9 a1 a2 t103 t104 _ A4.out).mono ?_); rintro e w12 ⟨rfl, hb⟩; refine ⟨_, rfl, ?_⟩; have n0_ := Aside0.mk (blk_below (by (with_reducible repeat (first | refine qn ?_ _ | refine qd ?_ | refine qa ?_ _)); exact BK101.out) hb); have n1_ := Aside0.mk (blk_below (by (with_reducible repeat (first | refine qn ?_ _ | refine qd ?_ | refine qa ?_ _)); exact BK102.out) hb); have n2_ := Aside0.mk (below_step (by repeat (first | (with_reducible first | exact HB.out | apply qA | apply qN | apply qD | refine below_set ?_ GE101.out | refine below_set ?_ GE102.out) | exact HB.out)) hb); clear BK101; clear BK102; clear HB; have BK101 := n0_; have BK102 := n1_; have HB := n2_; clear n0_ n1_ n2_; (try clear hb); (try clear hb2); (try clear hk); (try clear hi)) | ((with_reducible refine gate_dst (N := 7) rfl ?_); refine box_event ?hg (N := 7) ?hd (cs := #[.int .i64 0, .int .i64 0]) (t := 35) ?hr ?_; (case hd => rfl); (case hg => rfl); (case hr => first | (go_simp; done) | (go_simp; rfl)); intro gb105 hg w13 hbox hb; have n0_ := Aside0.mk (blk_below (by (with_reducible repeat (first | refine qn ?_ _ | refine qd ?_ | refine qa ?_ _)); exact BK101.out) hb); have n1_ := Aside0.mk (blk_below (by (with_reducible repeat (first | refine qn ?_ _ | refine qd ?_ | refine qa ?_ _)); exact BK102.out) hb); have n2_ := Aside0.mk (below_step (by repeat (first | (with_reducible first | exact HB.out | apply qA | apply qN | apply qD | refine below_set ?_ GE101.out | refine below_set ?_ GE102.out) | exact HB.out)) hb); have n3_ := Aside0.mk (hbox); have n4_ := Aside0.mk ((by rw [hg]; exact (below_size (by repeat (first | (with_reducible first | exact HB.out | apply qA | apply qN | apply qD | refine below_set ?_ GE101.out | refine below_set ?_ GE102.out) | exact HB.out))) : w.heap.size ≤ gb105)); have n5_ := Aside0.mk ((by rw [hg]; exact (below_size (by repeat (first | (with_reducible first | exact HB.out | apply qA | apply qN | apply qD | refine below_set ?_ GE101.out | refine below_set ?_ GE102.out) | exact HB.out))) : w.heap.size ≤ gb105)); have n6_ := Aside0.mk ((by rw [hg]; exact Nat.ne_of_lt (blk_lt (by (with_reducible repeat (first | refine qn ?_ _ | refine qd ?_ | refine qa ?_ _)); exact BK101.out)) : gb101 ≠ gb105)); have n7_ := Aside0.mk ((by rw [hg]; exact Nat.ne_of_gt (blk_lt (by (with_reducible repeat (first | refine qn ?_ _ | refine qd ?_ | refine qa ?_ _)); exact BK101.out)) : gb105 ≠ gb101)); have n8_ := Aside0.mk ((by rw [hg]; exact Nat.ne_of_lt (blk_lt (by (with_reducible repeat (first | refine qn ?_ _ | refine qd ?_ | refine qa ?_ _)); exact BK102.out)) : gb102 ≠ gb105)); have n9_ := Aside0.mk ((by rw [hg]; exact Nat.ne_of_gt (blk_lt (by (with_reducible repeat (first | refine qn ?_ _ | refine qd ?_ | refine qa ?_ _)); exact BK102.out)) : gb105 ≠ gb102)); clear BK101; clear BK102; clear HB; have BK101 := n0_; have BK102 := n1_; have HB := n2_; have BK105 := n3_; have GW105 := n4_; have GE105 := n5_; have NB101_105 := n6_; have NB105_101 := n7_; have NB102_105 := n8_; have NB105_102 := n9_; clear n0_ n1_ n2_ n3_ n4_ n5_ n6_ n7_ n8_ n9_; clear hb hbox hg; have hnb14 := NB105_101.out; have hnc14 := NB101_105.out; have hnb15 := NB105_102.out; have hnc15 := NB102_105.out; have hcz16_0 : w13.cell? ⟨gb105, 0, none⟩ = some (.int .i64 0) := (blk_cell BK105.out 0).trans rfl; have hcz16_1 : w13.cell? ⟨gb105, 1, none⟩ = some (.int .i64 0) := (blk_cell BK105.out 1).trans rfl; have hfz16_0 := blk_frozen BK105.out 0; have hfz16_1 := blk_frozen BK105.out 1) | ((with_reducible refine gate_callee (f := 120) rfl ?_); refine goesL_ (some 21) rfl rfl Try.func120 (by kernel_rfl) rfl #[.int .i64 t103] rfl (by (try simp only [List.map_toArray, List.map_cons, List.map_nil]); first | done | rfl | (simp only [List.length_drop, List.length_take]; rfl)) ?_; (with_reducible refine (curve_cubed.calls k t103 t106 t107 _ A5.out).mono ?_); rintro e w' ⟨rfl, ⟨nd, rfl⟩⟩; refine ⟨_, rfl, ?_⟩) | ((with_reducible refine gate_callee (f := 120) rfl ?_); refine goesL_ (some 27) rfl rfl Try.func120 (by kernel_rfl) rfl #[.int .i64 t104] rfl (by (try simp only [List.map_toArray, List.map_cons, List.map_nil]); first | done | rfl | (simp only [List.length_drop, List.length_take]; rfl)) ?_; (with_reducible refine (curve_cubed.calls k t104 t108 t109 _ A6.out).mono ?_); rintro e w' ⟨rfl, ⟨nd, rfl⟩⟩; refine ⟨_, rfl, ?_⟩))
  (try simp only [Act.put, List.setIfInBounds_toArray, List.set_cons_zero, List.set_cons_succ])
  go_cut [10] (fun v10 wc => ∃ (kq : Nat) (x10_6 : Int), v10 = .int .i64 x10_6 ∧ Aside0 (curve_current.j0 kq t106 x10_6 a0_0 a0_1 a0_2 a0_3 a0_4 a0_5 a0_6 a0_7 a0_8 a0_9 = some (r1, r2)) ∧ Aside0 (kq ≤ k) ∧ Aside0 (wc.heap[gb101]? = some (.cells #[.int .i64 a0_0, .int .i64 a0_1, .int .i64 a0_2, .int .i64 a0_3, .int .i64 a0_4, .int .i64 a0_5, .int .i64 a0_6, .int .i64 a0_7, .int .i64 a0_8, .int .i64 a0_9] 42 (0, 0))) ∧ Aside0 (wc.heap[gb102]? = some (.cells #[.int .i64 0, .int .i64 0] 35 (0, 0))) ∧ Aside0 (wc.heap[gb105]? = some (.cells #[.int .i64 t103, .int .i64 t104] 35 (0, 0))) ∧ Aside0 (Below w.heap.size w wc))
  case first =>
    have H := HC7.out
    clear HC7
    by_cases c17 : t109 = true
    · subst c17
      have H1 : (curve_current.j0 k t106 t108 a0_0 a0_1 a0_2 a0_3 a0_4 a0_5 a0_6 a0_7 a0_8 a0_9) = some (r1, r2) := by rw [if_pos rfl] at H; exact H
      clear H
      have H := H1
      clear H1
      have H' := Aside0.mk H
      clear H
      go_wp2
      go_meet
      case rel => exact ⟨_, (t108), (by first | rfl | (simp; done) | (simp [*]; done)), H', ⟨by first | omega | exact Nat.le_refl _⟩, ⟨by (with_reducible repeat (first | refine qn ?_ _ | refine qd ?_ | refine qa ?_ _)); refine blk_far ?_ NB101_105.out _; (with_reducible repeat (first | refine qn ?_ _ | refine qd ?_ | refine qa ?_ _)); refine blk_far ?_ NB101_105.out _; (with_reducible repeat (first | refine qn ?_ _ | refine qd ?_ | refine qa ?_ _)); exact BK101.out⟩, ⟨by (with_reducible repeat (first | refine qn ?_ _ | refine qd ?_ | refine qa ?_ _)); refine blk_far ?_ NB102_105.out _; (with_reducible repeat (first | refine qn ?_ _ | refine qd ?_ | refine qa ?_ _)); refine blk_far ?_ NB102_105.out _; (with_reducible repeat (first | refine qn ?_ _ | refine qd ?_ | refine qa ?_ _)); exact BK102.out⟩, ⟨by (with_reducible repeat (first | refine qn ?_ _ | refine qd ?_ | refine qa ?_ _)); refine blk_put (cs := #[.int .i64 t103, .int .i64 0]) ?_ 1 _ rfl; (with_reducible repeat (first | refine qn ?_ _ | refine qd ?_ | refine qa ?_ _)); refine blk_put (cs := #[.int .i64 0, .int .i64 0]) ?_ 0 _ rfl; (with_reducible repeat (first | refine qn ?_ _ | refine qd ?_ | refine qa ?_ _)); exact BK105.out⟩, ⟨by repeat (first | (with_reducible first | exact HB.out | apply qA | apply qN | apply qD | refine below_set ?_ GE101.out | refine below_set ?_ GE102.out | refine below_set ?_ GE105.out) | exact HB.out)⟩⟩
    · replace c17 := Bool.eq_false_iff.mpr c17
      subst c17
      have H1 : (curve_current.j0 k t106 (wrap64 (t108 + 1)) a0_0 a0_1 a0_2 a0_3 a0_4 a0_5 a0_6 a0_7 a0_8 a0_9) = some (r1, r2) := by rw [if_neg (show ¬ (false = true) by decide)] at H; exact H
      clear H
      have H := H1
      clear H1
      have H' := Aside0.mk H
      clear H
      go_wp2
      go_meet
      case rel => exact ⟨_, (wrap64 (t108 + 1)), (by first | rfl | (simp; done) | (simp [*]; done)), H', ⟨by first | omega | exact Nat.le_refl _⟩, ⟨by (with_reducible repeat (first | refine qn ?_ _ | refine qd ?_ | refine qa ?_ _)); refine blk_far ?_ NB101_105.out _; (with_reducible repeat (first | refine qn ?_ _ | refine qd ?_ | refine qa ?_ _)); refine blk_far ?_ NB101_105.out _; (with_reducible repeat (first | refine qn ?_ _ | refine qd ?_ | refine qa ?_ _)); exact BK101.out⟩, ⟨by (with_reducible repeat (first | refine qn ?_ _ | refine qd ?_ | refine qa ?_ _)); refine blk_far ?_ NB102_105.out _; (with_reducible repeat (first | refine qn ?_ _ | refine qd ?_ | refine qa ?_ _)); refine blk_far ?_ NB102_105.out _; (with_reducible repeat (first | refine qn ?_ _ | refine qd ?_ | refine qa ?_ _)); exact BK102.out⟩, ⟨by (with_reducible repeat (first | refine qn ?_ _ | refine qd ?_ | refine qa ?_ _)); refine blk_put (cs := #[.int .i64 t103, .int .i64 0]) ?_ 1 _ rfl; (with_reducible repeat (first | refine qn ?_ _ | refine qd ?_ | refine qa ?_ _)); refine blk_put (cs := #[.int .i64 0, .int .i64 0]) ?_ 0 _ rfl; (with_reducible repeat (first | refine qn ?_ _ | refine qd ?_ | refine qa ?_ _)); exact BK105.out⟩, ⟨by repeat (first | (with_reducible first | exact HB.out | apply qA | apply qN | apply qD | refine below_set ?_ GE101.out | refine below_set ?_ GE102.out | refine below_set ?_ GE105.out) | exact HB.out)⟩⟩
  case rest =>
    clear HC7
    try clear c1
    try clear p2
    try clear p6
    try clear c8
    try clear c10
    try clear c12
    try clear c14
    try clear c15
    try clear c17
    try clear hcz11_0
    try clear hcz11_1
    try clear hcz11_2
    try clear hcz11_3
    try clear hcz11_4
    try clear hcz11_5
    try clear hcz11_6
    try clear hcz11_7
    try clear hcz11_8
    try clear hcz11_9
    try clear hcz16_0
    try clear hcz16_1
    try clear hfz11_0
    try clear hfz11_1
    try clear hfz11_2
    try clear hfz11_3
    try clear hfz11_4
    try clear hfz11_5
    try clear hfz11_6
    try clear hfz11_7
    try clear hfz11_8
    try clear hfz11_9
    try clear hfz16_0
    try clear hfz16_1
    obtain ⟨kq, x10_6, rfl, HA, HJ6, BK101, BK102, BK105, HB⟩ := hcut
    cases kq with
    | zero => exact absurd HA.out (by simp [curve_current.j0])
    | succ kj6 =>
      have H := HA.out
      clear HA
      simp only [curve_current.j0] at H
      replace H := Option.bind_eq_some_iff.mp H
      obtain ⟨t110, A180, H⟩ := H
      replace H : ((curve_ceil.f (wrap64 (a0_1 * x10_6)) 1000000).bind fun t111 => ((curve_floor.f (wrap64 (a0_8 * (mn t110 a0_6))) 1000000).bind fun t112 => ((curve_ceil.f (wrap64 (a0_9 * (mn t111 a0_7))) 1000000).bind fun t113 => (some (t112, t113))))) = some (r1, r2) := H
      have A18 := Aside0.mk A180
      clear A180
      obtain ⟨ji19, hji19⟩ : ∃ j_ : Int, (mn t110 a0_6) = j_ := ⟨_, rfl⟩
      replace H : ((curve_ceil.f (wrap64 (a0_1 * x10_6)) 1000000).bind fun t111 => ((curve_floor.f (wrap64 (a0_8 * (ji19))) 1000000).bind fun t112 => ((curve_ceil.f (wrap64 (a0_9 * (mn t111 a0_7))) 1000000).bind fun t113 => (some (t112, t113))))) = some (r1, r2) := by first | (rw [hji19] at H; exact H) | (simp only [hji19] at H ⊢; exact H)
      (try rw [hji19] at A18)
      have hji19_ : (if a0_6 < t110 then a0_6 else t110) = ji19 := hji19
      replace H := Option.bind_eq_some_iff.mp H
      obtain ⟨t111, A200, H⟩ := H
      replace H : ((curve_floor.f (wrap64 (a0_8 * (ji19))) 1000000).bind fun t112 => ((curve_ceil.f (wrap64 (a0_9 * (mn t111 a0_7))) 1000000).bind fun t113 => (some (t112, t113)))) = some (r1, r2) := H
      have A20 := Aside0.mk A200
      clear A200
      obtain ⟨ji21, hji21⟩ : ∃ j_ : Int, (mn t111 a0_7) = j_ := ⟨_, rfl⟩
      replace H : ((curve_floor.f (wrap64 (a0_8 * (ji19))) 1000000).bind fun t112 => ((curve_ceil.f (wrap64 (a0_9 * (ji21))) 1000000).bind fun t113 => (some (t112, t113)))) = some (r1, r2) := by first | (rw [hji21] at H; exact H) | (simp only [hji21] at H ⊢; exact H)
      (try rw [hji21] at A18)
      (try rw [hji21] at A20)
      have hji21_ : (if a0_7 < t111 then a0_7 else t111) = ji21 := hji21
      replace H := Option.bind_eq_some_iff.mp H
      obtain ⟨t112, A220, H⟩ := H
      replace H : ((curve_ceil.f (wrap64 (a0_9 * (ji21))) 1000000).bind fun t113 => (some (t112, t113))) = some (r1, r2) := H
      have A22 := Aside0.mk A220
      clear A220
      replace H := Option.bind_eq_some_iff.mp H
      obtain ⟨t113, A230, H⟩ := H
      replace H : (some (t112, t113)) = some (r1, r2) := H
      have A23 := Aside0.mk A230
      clear A230
      simp only [Option.some.injEq, Prod.mk.injEq] at H
      obtain ⟨rfl, rfl⟩ := H
      try go_wp2
      have n0_ := Aside0.mk (blk_drew BK101.out)
      have n1_ := Aside0.mk (blk_drew BK102.out)
      have n2_ := Aside0.mk (blk_drew BK105.out)
      have n3_ := Aside0.mk (qD HB.out)
      clear BK101
      clear BK102
      clear BK105
      clear HB
      have BK101 := n0_
      have BK102 := n1_
      have BK105 := n2_
      have HB := n3_
      clear n0_ n1_ n2_ n3_
      refine start_ (n := 11) (S := fun w' => w'.cell? ⟨gb101, 0, none⟩ = some (.int .i64 a0_0) ∧ w'.cell? ⟨gb101, 1, none⟩ = some (.int .i64 a0_1) ∧ w'.cell? ⟨gb101, 2, none⟩ = some (.int .i64 a0_2) ∧ w'.cell? ⟨gb101, 3, none⟩ = some (.int .i64 a0_3) ∧ w'.cell? ⟨gb101, 4, none⟩ = some (.int .i64 a0_4) ∧ w'.cell? ⟨gb101, 5, none⟩ = some (.int .i64 a0_5) ∧ w'.cell? ⟨gb101, 6, none⟩ = some (.int .i64 a0_6) ∧ w'.cell? ⟨gb101, 7, none⟩ = some (.int .i64 a0_7) ∧ w'.cell? ⟨gb101, 8, none⟩ = some (.int .i64 a0_8) ∧ w'.cell? ⟨gb101, 9, none⟩ = some (.int .i64 a0_9)) (ds := []) #[false, false, false, false, false, false, false, false, false, false, false] (by kernel_rfl) rfl rfl ⟨(blk_cell BK101.out 0).trans rfl, (blk_cell BK101.out 1).trans rfl, (blk_cell BK101.out 2).trans rfl, (blk_cell BK101.out 3).trans rfl, (blk_cell BK101.out 4).trans rfl, (blk_cell BK101.out 5).trans rfl, (blk_cell BK101.out 6).trans rfl, (blk_cell BK101.out 7).trans rfl, (blk_cell BK101.out 8).trans rfl, (blk_cell BK101.out 9).trans rfl⟩ (fun hHeld => ?_); refine with_tabW curve_current.tab6 curve_current.bits6 (fun HT_ HW_ => ?_)
      generalize wc.drew = w24 at BK101 BK102 BK105 HB hHeld ⊢
      refine pure_ (i := 0) (N := some 34) (v := ?_) (a' := ?_) #[true, false, false, false, false, false, false, false, false, false, false] rfl rfl (any_of HT_.out (by kernel_rfl)) (fun _ _ _ h => h) (Or.inl ⟨by rfl, ?_⟩) ?_ ?_
      rotate_left
      · intro w'
        go_simp
        with_reducible rfl
      rotate_left
      · simp only [Act.put, List.setIfInBounds_toArray, List.set_cons_zero, List.set_cons_succ, i64_w, i32_w]
        rfl
      refine pure_ (i := 1) (N := some 35) (v := ?_) (a' := ?_) #[true, true, false, false, false, false, false, false, false, false, false] rfl rfl (any_of HT_.out (by kernel_rfl)) (fun _ _ _ h => h) (Or.inl ⟨by rfl, ?_⟩) ?_ ?_
      rotate_left
      · intro w'
        go_simp
        with_reducible rfl
      rotate_left
      · simp only [Act.put, List.setIfInBounds_toArray, List.set_cons_zero, List.set_cons_succ, i64_w, i32_w]
        rfl
      refine pure_ (i := 3) (N := some 37) (v := ?_) (a' := ?_) #[true, true, false, true, false, false, false, false, false, false, false] rfl rfl (any_of HT_.out (by kernel_rfl)) (fun _ _ _ h => h) (Or.inl ⟨by rfl, ?_⟩) ?_ ?_
      rotate_left
      · intro w'
        go_simp
        with_reducible rfl
      rotate_left
      · simp only [Act.put, List.setIfInBounds_toArray, List.set_cons_zero, List.set_cons_succ, i64_w, i32_w]
        rfl
      refine pure_ (i := 6) (N := some 40) (v := ?_) (a' := ?_) #[true, true, false, true, false, false, true, false, false, false, false] rfl rfl (any_of HT_.out (by kernel_rfl)) (fun _ _ _ h => h) (Or.inl ⟨by rfl, ?_⟩) ?_ ?_
      rotate_left
      · intro w'
        go_simp
        with_reducible rfl
      rotate_left
      · simp only [Act.put, List.setIfInBounds_toArray, List.set_cons_zero, List.set_cons_succ, i64_w, i32_w]
        rfl
      refine pure_ (i := 7) (N := some 41) (v := ?_) (a' := ?_) #[true, true, false, true, false, false, true, true, false, false, false] rfl rfl (any_of HT_.out (by kernel_rfl)) (fun _ _ _ h => h) (Or.inl ⟨by rfl, ?_⟩) ?_ ?_
      rotate_left
      · intro w'
        go_simp
        with_reducible rfl
      rotate_left
      · simp only [Act.put, List.setIfInBounds_toArray, List.set_cons_zero, List.set_cons_succ, i64_w, i32_w]
        rfl
      refine take_ (i := 2) (N := some 36) (v := ?_) (a' := ?_) #[true, true, true, true, false, false, true, true, false, false, false] rfl rfl (take_ofW HT_.out HW_.out (by kernel_rfl)) (fun _ _ _ h => h) (Or.inl ⟨by rfl, ?_⟩) hHeld ?_ ?_
      rotate_left
      · rintro w' ⟨s0, s1, s2, s3, s4, s5, s6, s7, s8, s9⟩
        go_simp
        with_reducible rfl
      rotate_left
      · simp only [Act.put, List.setIfInBounds_toArray, List.set_cons_zero, List.set_cons_succ, i64_w, i32_w]
        rfl
      refine pure_ (i := 4) (N := some 38) (v := ?_) (a' := ?_) #[true, true, true, true, true, false, true, true, false, false, false] rfl rfl (any_of HT_.out (by kernel_rfl)) (fun _ _ _ h => h) (Or.inl ⟨by rfl, ?_⟩) ?_ ?_
      rotate_left
      · intro w'
        go_simp
        with_reducible rfl
      rotate_left
      · simp only [Act.put, List.setIfInBounds_toArray, List.set_cons_zero, List.set_cons_succ, i64_w, i32_w]
        rfl
      refine take_ (i := 8) (N := some 42) (v := ?_) (a' := ?_) #[true, true, true, true, true, false, true, true, true, false, false] rfl rfl (take_ofW HT_.out HW_.out (by kernel_rfl)) (fun _ _ _ h => h) (Or.inl ⟨by rfl, ?_⟩) hHeld ?_ ?_
      rotate_left
      · rintro w' ⟨s0, s1, s2, s3, s4, s5, s6, s7, s8, s9⟩
        go_simp
        with_reducible rfl
      rotate_left
      · simp only [Act.put, List.setIfInBounds_toArray, List.set_cons_zero, List.set_cons_succ, i64_w, i32_w]
        rfl
      refine one_ (i := 5) (N := some 39) #[true, true, true, true, true, true, true, true, true, false, false] rfl rfl (one_of HT_.out (by kernel_rfl)) (by decide) (fun K hK => ?_)
      refine goes_ Try.func69 (by kernel_rfl) rfl #[.int .i64 (wrap64 (a0_0 * t106)), .int .i64 1000000] (by rfl) rfl rfl (by (try simp only [List.map_toArray, List.map_cons, List.map_nil]); first | done | rfl | (simp only [List.length_drop, List.length_take]; rfl)) ?_
      with_reducible refine (curve_floor.calls (wrap64 (a0_0 * t106)) 1000000 t110 _ A18.out).mono ?_
      rintro e w' ⟨rfl, ⟨nd, rfl⟩⟩
      refine ⟨_, rfl, ?_⟩
      refine hK.out _ _ ⟨(blk_cell BK101.out 0).trans rfl, (blk_cell BK101.out 1).trans rfl, (blk_cell BK101.out 2).trans rfl, (blk_cell BK101.out 3).trans rfl, (blk_cell BK101.out 4).trans rfl, (blk_cell BK101.out 5).trans rfl, (blk_cell BK101.out 6).trans rfl, (blk_cell BK101.out 7).trans rfl, (blk_cell BK101.out 8).trans rfl, (blk_cell BK101.out 9).trans rfl⟩ (fun hHeld => ?_)
      clear hK K
      refine norm_ (a' := ?_) ?_ ?_
      rotate_left
      · show Act.put _ (some 39) _ = _
        simp only [Act.put, List.setIfInBounds_toArray, List.set_cons_zero, List.set_cons_succ, i64_w, i32_w]
        rfl
      refine pure_ (i := 9) (N := some 43) (v := ?_) (a' := ?_) #[true, true, true, true, true, true, true, true, true, true, false] rfl rfl (any_of HT_.out (by kernel_rfl)) (fun _ _ _ h => h) (Or.inl ⟨by rfl, ?_⟩) ?_ ?_
      rotate_left
      · intro w'
        go_simp
        with_reducible rfl
      rotate_left
      · simp only [Act.put, List.setIfInBounds_toArray, List.set_cons_zero, List.set_cons_succ, i64_w, i32_w]
        rfl
      refine pure_ (i := 10) (N := some 12) (v := ?_) (a' := ?_) #[true, true, true, true, true, true, true, true, true, true, true] rfl rfl (any_of HT_.out (by kernel_rfl)) (fun _ _ _ h => h) (Or.inl ⟨by rfl, ?_⟩) ?_ ?_
      rotate_left
      · intro w'
        go_simp
        with_reducible rfl
      rotate_left
      · simp only [Act.put, List.setIfInBounds_toArray, List.set_cons_zero, List.set_cons_succ, i64_w, i32_w]
        rfl
      refine done_ (done_of HT_.out (by kernel_rfl)) ?_
      try go_wp2
      (try (rw [drewN_self w24]; generalize hq_ : World.drewN w24 _ = w24; have n0_ : Aside0 (w24.heap[gb101]? = some (.cells #[.int .i64 a0_0, .int .i64 a0_1, .int .i64 a0_2, .int .i64 a0_3, .int .i64 a0_4, .int .i64 a0_5, .int .i64 a0_6, .int .i64 a0_7, .int .i64 a0_8, .int .i64 a0_9] 42 (0, 0))) := ⟨by rw [← hq_]; exact (by (with_reducible repeat (first | refine qn ?_ _ | refine qd ?_ | refine qa ?_ _)); exact BK101.out)⟩; have n1_ : Aside0 (w24.heap[gb102]? = some (.cells #[.int .i64 0, .int .i64 0] 35 (0, 0))) := ⟨by rw [← hq_]; exact (by (with_reducible repeat (first | refine qn ?_ _ | refine qd ?_ | refine qa ?_ _)); exact BK102.out)⟩; have n2_ : Aside0 (w24.heap[gb105]? = some (.cells #[.int .i64 t103, .int .i64 t104] 35 (0, 0))) := ⟨by rw [← hq_]; exact (by (with_reducible repeat (first | refine qn ?_ _ | refine qd ?_ | refine qa ?_ _)); exact BK105.out)⟩; have n3_ : Aside0 (Below w.heap.size w w24) := ⟨by rw [← hq_]; exact (by repeat (first | (with_reducible first | exact HB.out | apply qA | apply qN | apply qD | refine below_set ?_ GE101.out | refine below_set ?_ GE102.out | refine below_set ?_ GE105.out) | exact HB.out))⟩; clear BK101 BK102 BK105 HB hq_; have BK101 := n0_; have BK102 := n1_; have BK105 := n2_; have HB := n3_; clear n0_ n1_ n2_ n3_))
      have n0_ := Aside0.mk (blk_drew BK101.out)
      have n1_ := Aside0.mk (blk_drew BK102.out)
      have n2_ := Aside0.mk (blk_drew BK105.out)
      have n3_ := Aside0.mk (qD HB.out)
      clear BK101
      clear BK102
      clear BK105
      clear HB
      have BK101 := n0_
      have BK102 := n1_
      have BK105 := n2_
      have HB := n3_
      clear n0_ n1_ n2_ n3_
      refine start_ (n := 11) (S := fun w' => w'.cell? ⟨gb101, 0, none⟩ = some (.int .i64 a0_0) ∧ w'.cell? ⟨gb101, 1, none⟩ = some (.int .i64 a0_1) ∧ w'.cell? ⟨gb101, 2, none⟩ = some (.int .i64 a0_2) ∧ w'.cell? ⟨gb101, 3, none⟩ = some (.int .i64 a0_3) ∧ w'.cell? ⟨gb101, 4, none⟩ = some (.int .i64 a0_4) ∧ w'.cell? ⟨gb101, 5, none⟩ = some (.int .i64 a0_5) ∧ w'.cell? ⟨gb101, 6, none⟩ = some (.int .i64 a0_6) ∧ w'.cell? ⟨gb101, 7, none⟩ = some (.int .i64 a0_7) ∧ w'.cell? ⟨gb101, 8, none⟩ = some (.int .i64 a0_8) ∧ w'.cell? ⟨gb101, 9, none⟩ = some (.int .i64 a0_9)) (ds := []) #[false, false, false, false, false, false, false, false, false, false, false] (by kernel_rfl) rfl rfl ⟨(blk_cell BK101.out 0).trans rfl, (blk_cell BK101.out 1).trans rfl, (blk_cell BK101.out 2).trans rfl, (blk_cell BK101.out 3).trans rfl, (blk_cell BK101.out 4).trans rfl, (blk_cell BK101.out 5).trans rfl, (blk_cell BK101.out 6).trans rfl, (blk_cell BK101.out 7).trans rfl, (blk_cell BK101.out 8).trans rfl, (blk_cell BK101.out 9).trans rfl⟩ (fun hHeld => ?_); refine with_tabW curve_current.tab7 curve_current.bits7 (fun HT_ HW_ => ?_)
      generalize w24.drew = w25 at BK101 BK102 BK105 HB hHeld ⊢
      refine pure_ (i := 0) (N := some 44) (v := ?_) (a' := ?_) #[true, false, false, false, false, false, false, false, false, false, false] rfl rfl (any_of HT_.out (by kernel_rfl)) (fun _ _ _ h => h) (Or.inl ⟨by rfl, ?_⟩) ?_ ?_
      rotate_left
      · intro w'
        go_simp
        with_reducible rfl
      rotate_left
      · simp only [Act.put, List.setIfInBounds_toArray, List.set_cons_zero, List.set_cons_succ, i64_w, i32_w]
        rfl
      refine pure_ (i := 1) (N := some 45) (v := ?_) (a' := ?_) #[true, true, false, false, false, false, false, false, false, false, false] rfl rfl (any_of HT_.out (by kernel_rfl)) (fun _ _ _ h => h) (Or.inl ⟨by rfl, ?_⟩) ?_ ?_
      rotate_left
      · intro w'
        go_simp
        with_reducible rfl
      rotate_left
      · simp only [Act.put, List.setIfInBounds_toArray, List.set_cons_zero, List.set_cons_succ, i64_w, i32_w]
        rfl
      refine pure_ (i := 3) (N := some 47) (v := ?_) (a' := ?_) #[true, true, false, true, false, false, false, false, false, false, false] rfl rfl (any_of HT_.out (by kernel_rfl)) (fun _ _ _ h => h) (Or.inl ⟨by rfl, ?_⟩) ?_ ?_
      rotate_left
      · intro w'
        go_simp
        with_reducible rfl
      rotate_left
      · simp only [Act.put, List.setIfInBounds_toArray, List.set_cons_zero, List.set_cons_succ, i64_w, i32_w]
        rfl
      refine pure_ (i := 6) (N := some 50) (v := ?_) (a' := ?_) #[true, true, false, true, false, false, true, false, false, false, false] rfl rfl (any_of HT_.out (by kernel_rfl)) (fun _ _ _ h => h) (Or.inl ⟨by rfl, ?_⟩) ?_ ?_
      rotate_left
      · intro w'
        go_simp
        with_reducible rfl
      rotate_left
      · simp only [Act.put, List.setIfInBounds_toArray, List.set_cons_zero, List.set_cons_succ, i64_w, i32_w]
        rfl
      refine pure_ (i := 7) (N := some 51) (v := ?_) (a' := ?_) #[true, true, false, true, false, false, true, true, false, false, false] rfl rfl (any_of HT_.out (by kernel_rfl)) (fun _ _ _ h => h) (Or.inl ⟨by rfl, ?_⟩) ?_ ?_
      rotate_left
      · intro w'
        go_simp
        with_reducible rfl
      rotate_left
      · simp only [Act.put, List.setIfInBounds_toArray, List.set_cons_zero, List.set_cons_succ, i64_w, i32_w]
        rfl
      refine take_ (i := 2) (N := some 46) (v := ?_) (a' := ?_) #[true, true, true, true, false, false, true, true, false, false, false] rfl rfl (take_ofW HT_.out HW_.out (by kernel_rfl)) (fun _ _ _ h => h) (Or.inl ⟨by rfl, ?_⟩) hHeld ?_ ?_
      rotate_left
      · rintro w' ⟨s0, s1, s2, s3, s4, s5, s6, s7, s8, s9⟩
        go_simp
        with_reducible rfl
      rotate_left
      · simp only [Act.put, List.setIfInBounds_toArray, List.set_cons_zero, List.set_cons_succ, i64_w, i32_w]
        rfl
      refine pure_ (i := 4) (N := some 48) (v := ?_) (a' := ?_) #[true, true, true, true, true, false, true, true, false, false, false] rfl rfl (any_of HT_.out (by kernel_rfl)) (fun _ _ _ h => h) (Or.inl ⟨by rfl, ?_⟩) ?_ ?_
      rotate_left
      · intro w'
        go_simp
        with_reducible rfl
      rotate_left
      · simp only [Act.put, List.setIfInBounds_toArray, List.set_cons_zero, List.set_cons_succ, i64_w, i32_w]
        rfl
      refine take_ (i := 8) (N := some 52) (v := ?_) (a' := ?_) #[true, true, true, true, true, false, true, true, true, false, false] rfl rfl (take_ofW HT_.out HW_.out (by kernel_rfl)) (fun _ _ _ h => h) (Or.inl ⟨by rfl, ?_⟩) hHeld ?_ ?_
      rotate_left
      · rintro w' ⟨s0, s1, s2, s3, s4, s5, s6, s7, s8, s9⟩
        go_simp
        with_reducible rfl
      rotate_left
      · simp only [Act.put, List.setIfInBounds_toArray, List.set_cons_zero, List.set_cons_succ, i64_w, i32_w]
        rfl
      refine one_ (i := 5) (N := some 49) #[true, true, true, true, true, true, true, true, true, false, false] rfl rfl (one_of HT_.out (by kernel_rfl)) (by decide) (fun K hK => ?_)
      refine goes_ Try.func71 (by kernel_rfl) rfl #[.int .i64 (wrap64 (a0_1 * x10_6)), .int .i64 1000000] (by rfl) rfl rfl (by (try simp only [List.map_toArray, List.map_cons, List.map_nil]); first | done | rfl | (simp only [List.length_drop, List.length_take]; rfl)) ?_
      with_reducible refine (curve_ceil.calls (wrap64 (a0_1 * x10_6)) 1000000 t111 _ A20.out).mono ?_
      rintro e w' ⟨rfl, ⟨nd, rfl⟩⟩
      refine ⟨_, rfl, ?_⟩
      refine hK.out _ _ ⟨(blk_cell BK101.out 0).trans rfl, (blk_cell BK101.out 1).trans rfl, (blk_cell BK101.out 2).trans rfl, (blk_cell BK101.out 3).trans rfl, (blk_cell BK101.out 4).trans rfl, (blk_cell BK101.out 5).trans rfl, (blk_cell BK101.out 6).trans rfl, (blk_cell BK101.out 7).trans rfl, (blk_cell BK101.out 8).trans rfl, (blk_cell BK101.out 9).trans rfl⟩ (fun hHeld => ?_)
      clear hK K
      refine norm_ (a' := ?_) ?_ ?_
      rotate_left
      · show Act.put _ (some 49) _ = _
        simp only [Act.put, List.setIfInBounds_toArray, List.set_cons_zero, List.set_cons_succ, i64_w, i32_w]
        rfl
      refine pure_ (i := 9) (N := some 53) (v := ?_) (a' := ?_) #[true, true, true, true, true, true, true, true, true, true, false] rfl rfl (any_of HT_.out (by kernel_rfl)) (fun _ _ _ h => h) (Or.inl ⟨by rfl, ?_⟩) ?_ ?_
      rotate_left
      · intro w'
        go_simp
        with_reducible rfl
      rotate_left
      · simp only [Act.put, List.setIfInBounds_toArray, List.set_cons_zero, List.set_cons_succ, i64_w, i32_w]
        rfl
      refine pure_ (i := 10) (N := some 13) (v := ?_) (a' := ?_) #[true, true, true, true, true, true, true, true, true, true, true] rfl rfl (any_of HT_.out (by kernel_rfl)) (fun _ _ _ h => h) (Or.inl ⟨by rfl, ?_⟩) ?_ ?_
      rotate_left
      · intro w'
        go_simp
        with_reducible rfl
      rotate_left
      · simp only [Act.put, List.setIfInBounds_toArray, List.set_cons_zero, List.set_cons_succ, i64_w, i32_w]
        rfl
      refine done_ (done_of HT_.out (by kernel_rfl)) ?_
      try go_wp2
      (try (rw [drewN_self w25]; generalize hq_ : World.drewN w25 _ = w25; have n0_ : Aside0 (w25.heap[gb101]? = some (.cells #[.int .i64 a0_0, .int .i64 a0_1, .int .i64 a0_2, .int .i64 a0_3, .int .i64 a0_4, .int .i64 a0_5, .int .i64 a0_6, .int .i64 a0_7, .int .i64 a0_8, .int .i64 a0_9] 42 (0, 0))) := ⟨by rw [← hq_]; exact (by (with_reducible repeat (first | refine qn ?_ _ | refine qd ?_ | refine qa ?_ _)); exact BK101.out)⟩; have n1_ : Aside0 (w25.heap[gb102]? = some (.cells #[.int .i64 0, .int .i64 0] 35 (0, 0))) := ⟨by rw [← hq_]; exact (by (with_reducible repeat (first | refine qn ?_ _ | refine qd ?_ | refine qa ?_ _)); exact BK102.out)⟩; have n2_ : Aside0 (w25.heap[gb105]? = some (.cells #[.int .i64 t103, .int .i64 t104] 35 (0, 0))) := ⟨by rw [← hq_]; exact (by (with_reducible repeat (first | refine qn ?_ _ | refine qd ?_ | refine qa ?_ _)); exact BK105.out)⟩; have n3_ : Aside0 (Below w.heap.size w w25) := ⟨by rw [← hq_]; exact (by repeat (first | (with_reducible first | exact HB.out | apply qA | apply qN | apply qD | refine below_set ?_ GE101.out | refine below_set ?_ GE102.out | refine below_set ?_ GE105.out) | exact HB.out))⟩; clear BK101 BK102 BK105 HB hq_; have BK101 := n0_; have BK102 := n1_; have BK105 := n2_; have HB := n3_; clear n0_ n1_ n2_ n3_))
      have n0_ := Aside0.mk (blk_drew BK101.out)
      have n1_ := Aside0.mk (blk_drew BK102.out)
      have n2_ := Aside0.mk (blk_drew BK105.out)
      have n3_ := Aside0.mk (qD HB.out)
      clear BK101
      clear BK102
      clear BK105
      clear HB
      have BK101 := n0_
      have BK102 := n1_
      have BK105 := n2_
      have HB := n3_
      clear n0_ n1_ n2_ n3_
      refine start_ (n := 14) (S := fun w' => w'.cell? ⟨gb101, 0, none⟩ = some (.int .i64 a0_0) ∧ w'.cell? ⟨gb101, 1, none⟩ = some (.int .i64 a0_1) ∧ w'.cell? ⟨gb101, 2, none⟩ = some (.int .i64 a0_2) ∧ w'.cell? ⟨gb101, 3, none⟩ = some (.int .i64 a0_3) ∧ w'.cell? ⟨gb101, 4, none⟩ = some (.int .i64 a0_4) ∧ w'.cell? ⟨gb101, 5, none⟩ = some (.int .i64 a0_5) ∧ w'.cell? ⟨gb101, 6, none⟩ = some (.int .i64 a0_6) ∧ w'.cell? ⟨gb101, 7, none⟩ = some (.int .i64 a0_7) ∧ w'.cell? ⟨gb101, 8, none⟩ = some (.int .i64 a0_8) ∧ w'.cell? ⟨gb101, 9, none⟩ = some (.int .i64 a0_9)) (ds := []) #[false, false, false, false, false, false, false, false, false, false, false, false, false, false] (by kernel_rfl) rfl rfl ⟨(blk_cell BK101.out 0).trans rfl, (blk_cell BK101.out 1).trans rfl, (blk_cell BK101.out 2).trans rfl, (blk_cell BK101.out 3).trans rfl, (blk_cell BK101.out 4).trans rfl, (blk_cell BK101.out 5).trans rfl, (blk_cell BK101.out 6).trans rfl, (blk_cell BK101.out 7).trans rfl, (blk_cell BK101.out 8).trans rfl, (blk_cell BK101.out 9).trans rfl⟩ (fun hHeld => ?_); refine with_tabW curve_current.tab8 curve_current.bits8 (fun HT_ HW_ => ?_)
      generalize w25.drew = w26 at BK101 BK102 BK105 HB hHeld ⊢
      refine pure_ (i := 0) (N := some 54) (v := ?_) (a' := ?_) #[true, false, false, false, false, false, false, false, false, false, false, false, false, false] rfl rfl (any_of HT_.out (by kernel_rfl)) (fun _ _ _ h => h) (Or.inl ⟨by rfl, ?_⟩) ?_ ?_
      rotate_left
      · intro w'
        go_simp
        with_reducible rfl
      rotate_left
      · simp only [Act.put, List.setIfInBounds_toArray, List.set_cons_zero, List.set_cons_succ, i64_w, i32_w]
        rfl
      refine pure_ (i := 1) (N := some 55) (v := ?_) (a' := ?_) #[true, true, false, false, false, false, false, false, false, false, false, false, false, false] rfl rfl (any_of HT_.out (by kernel_rfl)) (fun _ _ _ h => h) (Or.inl ⟨by rfl, ?_⟩) ?_ ?_
      rotate_left
      · intro w'
        go_simp
        with_reducible rfl
      rotate_left
      · simp only [Act.put, List.setIfInBounds_toArray, List.set_cons_zero, List.set_cons_succ, i64_w, i32_w]
        rfl
      refine pure_ (i := 3) (N := some 57) (v := ?_) (a' := ?_) #[true, true, false, true, false, false, false, false, false, false, false, false, false, false] rfl rfl (any_of HT_.out (by kernel_rfl)) (fun _ _ _ h => h) (Or.inl ⟨by rfl, ?_⟩) ?_ ?_
      rotate_left
      · intro w'
        go_simp
        with_reducible rfl
      rotate_left
      · simp only [Act.put, List.setIfInBounds_toArray, List.set_cons_zero, List.set_cons_succ, i64_w, i32_w]
        rfl
      refine pure_ (i := 6) (N := some 60) (v := ?_) (a' := ?_) #[true, true, false, true, false, false, true, false, false, false, false, false, false, false] rfl rfl (any_of HT_.out (by kernel_rfl)) (fun _ _ _ h => h) (Or.inl ⟨by rfl, ?_⟩) ?_ ?_
      rotate_left
      · intro w'
        go_simp
        with_reducible rfl
      rotate_left
      · simp only [Act.put, List.setIfInBounds_toArray, List.set_cons_zero, List.set_cons_succ, i64_w, i32_w]
        rfl
      refine pure_ (i := 7) (N := some 61) (v := ?_) (a' := ?_) #[true, true, false, true, false, false, true, true, false, false, false, false, false, false] rfl rfl (any_of HT_.out (by kernel_rfl)) (fun _ _ _ h => h) (Or.inl ⟨by rfl, ?_⟩) ?_ ?_
      rotate_left
      · intro w'
        go_simp
        with_reducible rfl
      rotate_left
      · simp only [Act.put, List.setIfInBounds_toArray, List.set_cons_zero, List.set_cons_succ, i64_w, i32_w]
        rfl
      refine pure_ (i := 9) (N := some 63) (v := ?_) (a' := ?_) #[true, true, false, true, false, false, true, true, false, true, false, false, false, false] rfl rfl (any_of HT_.out (by kernel_rfl)) (fun _ _ _ h => h) (Or.inl ⟨by rfl, ?_⟩) ?_ ?_
      rotate_left
      · intro w'
        go_simp
        with_reducible rfl
      rotate_left
      · simp only [Act.put, List.setIfInBounds_toArray, List.set_cons_zero, List.set_cons_succ, i64_w, i32_w]
        rfl
      refine take_ (i := 2) (N := some 56) (v := ?_) (a' := ?_) #[true, true, true, true, false, false, true, true, false, true, false, false, false, false] rfl rfl (take_ofW HT_.out HW_.out (by kernel_rfl)) (fun _ _ _ h => h) (Or.inl ⟨by rfl, ?_⟩) hHeld ?_ ?_
      rotate_left
      · rintro w' ⟨s0, s1, s2, s3, s4, s5, s6, s7, s8, s9⟩
        go_simp
        with_reducible rfl
      rotate_left
      · simp only [Act.put, List.setIfInBounds_toArray, List.set_cons_zero, List.set_cons_succ, i64_w, i32_w]
        rfl
      refine pure_ (i := 4) (N := some 58) (v := ?_) (a' := ?_) #[true, true, true, true, true, false, true, true, false, true, false, false, false, false] rfl rfl (any_of HT_.out (by kernel_rfl)) (fun _ _ _ h => h) (Or.inl ⟨by rfl, ?_⟩) ?_ ?_
      rotate_left
      · intro w'
        go_simp
        with_reducible rfl
      rotate_left
      · simp only [Act.put, List.setIfInBounds_toArray, List.set_cons_zero, List.set_cons_succ, i64_w, i32_w]
        rfl
      refine take_ (i := 8) (N := some 62) (v := ?_) (a' := ?_) #[true, true, true, true, true, false, true, true, true, true, false, false, false, false] rfl rfl (take_ofW HT_.out HW_.out (by kernel_rfl)) (fun _ _ _ h => h) (Or.inl ⟨by rfl, ?_⟩) hHeld ?_ ?_
      rotate_left
      · rintro w' ⟨s0, s1, s2, s3, s4, s5, s6, s7, s8, s9⟩
        go_simp
        with_reducible rfl
      rotate_left
      · simp only [Act.put, List.setIfInBounds_toArray, List.set_cons_zero, List.set_cons_succ, i64_w, i32_w]
        rfl
      refine pure_ (i := 10) (N := some 64) (v := ?_) (a' := ?_) #[true, true, true, true, true, false, true, true, true, true, true, false, false, false] rfl rfl (any_of HT_.out (by kernel_rfl)) (fun _ _ _ h => h) (Or.inl ⟨by rfl, ?_⟩) ?_ ?_
      rotate_left
      · intro w'
        go_simp
        with_reducible rfl
      rotate_left
      · simp only [Act.put, List.setIfInBounds_toArray, List.set_cons_zero, List.set_cons_succ, i64_w, i32_w]
        rfl
      refine one_ (i := 5) (N := some 59) #[true, true, true, true, true, true, true, true, true, true, true, false, false, false] rfl rfl (one_of HT_.out (by kernel_rfl)) (by decide) (fun K hK => ?_)
      refine goes_ Try.func69 (by kernel_rfl) rfl #[.int .i64 (wrap64 (a0_8 * (ji19))), .int .i64 1000000] (by rfl) rfl rfl (by (try simp only [List.map_toArray, List.map_cons, List.map_nil]); first | done | (simp only [hji19]; rfl) | rfl | (simp only [List.length_drop, List.length_take]; rfl)) ?_
      with_reducible refine (curve_floor.calls (wrap64 (a0_8 * (ji19))) 1000000 t112 _ A22.out).mono ?_
      rintro e w' ⟨rfl, ⟨nd, rfl⟩⟩
      refine ⟨_, rfl, ?_⟩
      refine hK.out _ _ ⟨(blk_cell BK101.out 0).trans rfl, (blk_cell BK101.out 1).trans rfl, (blk_cell BK101.out 2).trans rfl, (blk_cell BK101.out 3).trans rfl, (blk_cell BK101.out 4).trans rfl, (blk_cell BK101.out 5).trans rfl, (blk_cell BK101.out 6).trans rfl, (blk_cell BK101.out 7).trans rfl, (blk_cell BK101.out 8).trans rfl, (blk_cell BK101.out 9).trans rfl⟩ (fun hHeld => ?_)
      clear hK K
      refine norm_ (a' := ?_) ?_ ?_
      rotate_left
      · show Act.put _ (some 59) _ = _
        simp only [Act.put, List.setIfInBounds_toArray, List.set_cons_zero, List.set_cons_succ, i64_w, i32_w]
        rfl
      refine one_ (i := 11) (N := some 65) #[true, true, true, true, true, true, true, true, true, true, true, true, false, false] rfl rfl (one_of HT_.out (by kernel_rfl)) (by decide) (fun K hK => ?_)
      refine goes_ Try.func71 (by kernel_rfl) rfl #[.int .i64 (wrap64 (a0_9 * (ji21))), .int .i64 1000000] (by rfl) rfl rfl (by (try simp only [List.map_toArray, List.map_cons, List.map_nil]); first | done | (simp only [hji21]; rfl) | rfl | (simp only [List.length_drop, List.length_take]; rfl)) ?_
      with_reducible refine (curve_ceil.calls (wrap64 (a0_9 * (ji21))) 1000000 t113 _ A23.out).mono ?_
      rintro e w' ⟨rfl, ⟨nd, rfl⟩⟩
      refine ⟨_, rfl, ?_⟩
      refine hK.out _ _ ⟨(blk_cell BK101.out 0).trans rfl, (blk_cell BK101.out 1).trans rfl, (blk_cell BK101.out 2).trans rfl, (blk_cell BK101.out 3).trans rfl, (blk_cell BK101.out 4).trans rfl, (blk_cell BK101.out 5).trans rfl, (blk_cell BK101.out 6).trans rfl, (blk_cell BK101.out 7).trans rfl, (blk_cell BK101.out 8).trans rfl, (blk_cell BK101.out 9).trans rfl⟩ (fun hHeld => ?_)
      clear hK K
      refine norm_ (a' := ?_) ?_ ?_
      rotate_left
      · show Act.put _ (some 65) _ = _
        simp only [Act.put, List.setIfInBounds_toArray, List.set_cons_zero, List.set_cons_succ, i64_w, i32_w]
        rfl
      refine pure_ (i := 12) (N := some 66) (v := ?_) (a' := ?_) #[true, true, true, true, true, true, true, true, true, true, true, true, true, false] rfl rfl (any_of HT_.out (by kernel_rfl)) (fun _ _ _ h => h) (Or.inl ⟨by rfl, ?_⟩) ?_ ?_
      rotate_left
      · intro w'
        go_simp
        with_reducible rfl
      rotate_left
      · simp only [Act.put, List.setIfInBounds_toArray, List.set_cons_zero, List.set_cons_succ, i64_w, i32_w]
        rfl
      refine one_ (i := 13) (N := none) #[true, true, true, true, true, true, true, true, true, true, true, true, true, true] rfl rfl (one_of HT_.out (by kernel_rfl)) (by decide) (fun K hK => ?_)
      have hs27 : w26.cell? ⟨gb102, 0, none⟩ = some (.int .i64 0) := (blk_cell BK102.out 0).trans rfl
      have hfs27 := blk_frozen BK102.out 0
      have hns27_0 := NB101_102.out
      have hns27_2 := NB105_102.out
      have hms27_0 := NB102_101.out
      have hms27_2 := NB102_105.out
      have hs28 : w26.cell? ⟨gb102, 1, none⟩ = some (.int .i64 0) := (blk_cell BK102.out 1).trans rfl
      have hfs28 := blk_frozen BK102.out 1
      have hns28_0 := NB101_102.out
      have hns28_2 := NB105_102.out
      have hms28_0 := NB102_101.out
      have hms28_2 := NB102_105.out
      refine skip_ (w1 := ?_) (by rfl) rfl ?_ ?_
      rotate_left
      · go_simp
        rfl
      refine hK.out _ _ ⟨((cell_far (p := ⟨gb102, _, none⟩) NB101_102.out _).trans (((cell_far (p := ⟨gb102, _, none⟩) NB101_102.out _).trans (hHeld.1)))), ((cell_far (p := ⟨gb102, _, none⟩) NB101_102.out _).trans (((cell_far (p := ⟨gb102, _, none⟩) NB101_102.out _).trans (hHeld.2.1)))), ((cell_far (p := ⟨gb102, _, none⟩) NB101_102.out _).trans (((cell_far (p := ⟨gb102, _, none⟩) NB101_102.out _).trans (hHeld.2.2.1)))), ((cell_far (p := ⟨gb102, _, none⟩) NB101_102.out _).trans (((cell_far (p := ⟨gb102, _, none⟩) NB101_102.out _).trans (hHeld.2.2.2.1)))), ((cell_far (p := ⟨gb102, _, none⟩) NB101_102.out _).trans (((cell_far (p := ⟨gb102, _, none⟩) NB101_102.out _).trans (hHeld.2.2.2.2.1)))), ((cell_far (p := ⟨gb102, _, none⟩) NB101_102.out _).trans (((cell_far (p := ⟨gb102, _, none⟩) NB101_102.out _).trans (hHeld.2.2.2.2.2.1)))), ((cell_far (p := ⟨gb102, _, none⟩) NB101_102.out _).trans (((cell_far (p := ⟨gb102, _, none⟩) NB101_102.out _).trans (hHeld.2.2.2.2.2.2.1)))), ((cell_far (p := ⟨gb102, _, none⟩) NB101_102.out _).trans (((cell_far (p := ⟨gb102, _, none⟩) NB101_102.out _).trans (hHeld.2.2.2.2.2.2.2.1)))), ((cell_far (p := ⟨gb102, _, none⟩) NB101_102.out _).trans (((cell_far (p := ⟨gb102, _, none⟩) NB101_102.out _).trans (hHeld.2.2.2.2.2.2.2.2.1)))), ((cell_far (p := ⟨gb102, _, none⟩) NB101_102.out _).trans (((cell_far (p := ⟨gb102, _, none⟩) NB101_102.out _).trans (hHeld.2.2.2.2.2.2.2.2.2))))⟩ (fun hHeld => ?_)
      clear hK K
      refine done_ (done_of HT_.out (by kernel_rfl)) ?_
      try go_wp2
      refine bodyPost_ret (results_cell_row rfl _ _ gb102 35 #[.int .i64 t112, .int .i64 t113] (0, 0) _ rfl (by (with_reducible repeat (first | refine qn ?_ _ | refine qd ?_ | refine qa ?_ _)); refine blk_put (cs := #[.int .i64 t112, .int .i64 0]) ?_ 1 _ rfl; (with_reducible repeat (first | refine qn ?_ _ | refine qd ?_ | refine qa ?_ _)); refine blk_put (cs := #[.int .i64 0, .int .i64 0]) ?_ 0 _ rfl; (with_reducible repeat (first | refine qn ?_ _ | refine qd ?_ | refine qa ?_ _)); exact BK102.out) Try.underlying35 rfl (by kernel_rfl)) rfl ?_
      exact ⟨by first | rfl | (simp [errW_none, errW_some] <;> rfl) | (simp only [← hji19, ← hji21]; first | rfl | (simp [errW_none, errW_some] <;> rfl)) | (simp [*, errW_none, errW_some] <;> rfl), by repeat (first | (with_reducible first | exact HB.out | apply qA | apply qN | apply qD | refine below_set ?_ GE101.out | refine below_set ?_ GE102.out | refine below_set ?_ GE105.out) | exact HB.out)⟩

end Go.Proofs.Ytbomgfbfnkfamaa.PAll
end
section
namespace Go.Proofs.Ytbomgfbfnkfamaa.PAll
open Go.RowKit Go.Proofs.YtbomgfbfnkfamaaW.PrintWords Go.Proofs.YtbomgfbfnkfamaaW.PrintLast Go.Proofs.YtbomgfbfnkfamaaW.PrintMore
attribute [local go_sem] max2_int min2_int max_two min_two max_three min_three max_four min_four   -- for this text's walks alone
set_option linter.unusedVariables false
set_option linter.unusedSimpArgs false

/-! ### curve_Current: function 27 -/
def curve_Current.f (k : Nat) (a0_0 : Int) (a0_1 : Int) (a0_2 : Int) (a0_3 : Int) (a0_4 : Int) (a0_5 : Int) (a0_6 : Int) (a0_7 : Int) (a0_8 : Int) (a0_9 : Int) (a1 : Int) (a2 : Int) : Option (Int × Int × Int) := (curve_asked.f a0_0 a0_1 a0_2 a0_3 a0_4 a0_5 a0_6 a0_7 a0_8 a0_9 a1 a2).bind fun t103 => (if t103 = 0 then ((curve_current.f k a0_0 a0_1 a0_2 a0_3 a0_4 a0_5 a0_6 a0_7 a0_8 a0_9 a1 a2).bind fun bt104 => (some (bt104.1, bt104.2, 0))) else (some (0, 0, t103)))
theorem curve_Current.mono : ∀ a0 a1 a2 a3 a4 a5 a6 a7 a8 a9 a10 a11 k, LeO (curve_Current.f k a0 a1 a2 a3 a4 a5 a6 a7 a8 a9 a10 a11) (curve_Current.f (k + 1) a0 a1 a2 a3 a4 a5 a6 a7 a8 a9 a10 a11) := by
  intro a0 a1 a2 a3 a4 a5 a6 a7 a8 a9 a10 a11 k
  unfold curve_Current.f
  repeat' first
      | (with_reducible exact curve_current.mono _ _ _ _ _ _ _ _ _ _ _ _ _)
      | (with_reducible exact LeO.refl _)
      | (with_reducible exact LeO.none _)
      | (with_reducible refine LeO.ite ?_ ?_)
      | (with_reducible refine LeO.bind ?_ (fun _ => ?_))
      | exact curve_current.mono _ _ _ _ _ _ _ _ _ _ _ _ _
      | exact LeO.none _
      | refine LeO.ite ?_ ?_
      | refine LeO.bind ?_ (fun _ => ?_)
set_option maxHeartbeats 8000000 in
set_option maxRecDepth 100000 in
theorem curve_Current.calls (k : Nat) (a0_0 : Int) (a0_1 : Int) (a0_2 : Int) (a0_3 : Int) (a0_4 : Int) (a0_5 : Int) (a0_6 : Int) (a0_7 : Int) (a0_8 : Int) (a0_9 : Int) (a1 : Int) (a2 : Int) (r1 : Int) (r2 : Int) (r3 : Int) (w : World) (h : curve_Current.f k a0_0 a0_1 a0_2 a0_3 a0_4 a0_5 a0_6 a0_7 a0_8 a0_9 a1 a2 = some (r1, r2, r3)) :
    Calls Try.prog 27 #[.agg #[.int .i64 a0_0, .int .i64 a0_1, .int .i64 a0_2, .int .i64 a0_3, .int .i64 a0_4, .int .i64 a0_5, .int .i64 a0_6, .int .i64 a0_7, .int .i64 a0_8, .int .i64 a0_9], .int .i64 a1, .int .i64 a2] w fun e w' => e = .returned (.tuple #[.agg #[.int .i64 r1, .int .i64 r2], .int .i64 r3]) ∧ Below w.heap.size w w' := by
  have hu42 := Try.underlying42
  have hu35 := Try.underlying35
  have HB := Aside0.mk (Below.refl w.heap.size w)
  have H : ((curve_asked.f a0_0 a0_1 a0_2 a0_3 a0_4 a0_5 a0_6 a0_7 a0_8 a0_9 a1 a2).bind fun t103 => (if t103 = 0 then ((curve_current.f k a0_0 a0_1 a0_2 a0_3 a0_4 a0_5 a0_6 a0_7 a0_8 a0_9 a1 a2).bind fun bt104 => (some (bt104.1, bt104.2, 0))) else (some (0, 0, t103)))) = some (r1, r2, r3) := h
  clear h
  replace H := Option.bind_eq_some_iff.mp H
  obtain ⟨t103, A40, H⟩ := H
  replace H : (if t103 = 0 then ((curve_current.f k a0_0 a0_1 a0_2 a0_3 a0_4 a0_5 a0_6 a0_7 a0_8 a0_9 a1 a2).bind fun bt104 => (some (bt104.1, bt104.2, 0))) else (some (0, 0, t103))) = some (r1, r2, r3) := H
  have A4 := Aside0.mk A40
  clear A40
  by_cases c5 : t103 = 0
  · rw [if_pos c5] at H
    have c5b0 : (t103 == 0) = true := beq_iff_eq.mpr c5
    have c5b1 : (t103 != 0) = false := bne_eq_false_iff_eq.mpr c5
    clear c5
    replace H := Option.bind_eq_some_iff.mp H
    obtain ⟨⟨t104, t105⟩, A60, H⟩ := H
    replace H : (some (t104, t105, 0)) = some (r1, r2, r3) := H
    have A6 := Aside0.mk A60
    clear A60
    simp only [Option.some.injEq, Prod.mk.injEq] at H
    obtain ⟨rfl, rfl, rfl⟩ := H
    go_enter Try.func27, Try.ntmps27
    go_wp2_with (first | ((with_reducible refine gate_dst (N := 3) rfl ?_); refine box_event ?hg (N := 3) ?hd (cs := #[.int .i64 a0_0, .int .i64 a0_1, .int .i64 a0_2, .int .i64 a0_3, .int .i64 a0_4, .int .i64 a0_5, .int .i64 a0_6, .int .i64 a0_7, .int .i64 a0_8, .int .i64 a0_9]) (t := 42) ?hr ?_; (case hd => rfl); (case hg => rfl); (case hr => first | (go_simp; done) | (go_simp; rfl)); intro gb101 hg w7 hbox hb; have n0_ := Aside0.mk (below_step (by repeat (first | (with_reducible first | exact HB.out | apply qA | apply qN | apply qD) | exact HB.out)) hb); have n1_ := Aside0.mk (hbox); have n2_ := Aside0.mk ((by rw [hg]; exact (below_size (by repeat (first | (with_reducible first | exact HB.out | apply qA | apply qN | apply qD) | exact HB.out))) : w.heap.size ≤ gb101)); have n3_ := Aside0.mk ((by rw [hg]; exact (below_size (by repeat (first | (with_reducible first | exact HB.out | apply qA | apply qN | apply qD) | exact HB.out))) : w.heap.size ≤ gb101)); clear HB; have HB := n0_; have BK101 := n1_; have GW101 := n2_; have GE101 := n3_; clear n0_ n1_ n2_ n3_; clear hb hbox hg) | ((with_reducible refine gate_dst (N := 6) rfl ?_); refine box_event ?hg (N := 6) ?hd (cs := #[.int .i64 0, .int .i64 0]) (t := 35) ?hr ?_; (case hd => rfl); (case hg => rfl); (case hr => first | (go_simp; done) | (go_simp; rfl)); intro gb102 hg w8 hbox hb; have n0_ := Aside0.mk (blk_below (by (with_reducible repeat (first | refine qn ?_ _ | refine qd ?_ | refine qa ?_ _)); exact BK101.out) hb); have n1_ := Aside0.mk (below_step (by repeat (first | (with_reducible first | exact HB.out | apply qA | apply qN | apply qD | refine below_set ?_ GE101.out) | exact HB.out)) hb); have n2_ := Aside0.mk (hbox); have n3_ := Aside0.mk ((by rw [hg]; exact (below_size (by repeat (first | (with_reducible first | exact HB.out | apply qA | apply qN | apply qD | refine below_set ?_ GE101.out) | exact HB.out))) : w.heap.size ≤ gb102)); have n4_ := Aside0.mk ((by rw [hg]; exact (below_size (by repeat (first | (with_reducible first | exact HB.out | apply qA | apply qN | apply qD | refine below_set ?_ GE101.out) | exact HB.out))) : w.heap.size ≤ gb102)); have n5_ := Aside0.mk ((by rw [hg]; exact Nat.ne_of_lt (blk_lt (by (with_reducible repeat (first | refine qn ?_ _ | refine qd ?_ | refine qa ?_ _)); exact BK101.out)) : gb101 ≠ gb102)); have n6_ := Aside0.mk ((by rw [hg]; exact Nat.ne_of_gt (blk_lt (by (with_reducible repeat (first | refine qn ?_ _ | refine qd ?_ | refine qa ?_ _)); exact BK101.out)) : gb102 ≠ gb101)); clear BK101; clear HB; have BK101 := n0_; have HB := n1_; have BK102 := n2_; have GW102 := n3_; have GE102 := n4_; have NB101_102 := n5_; have NB102_101 := n6_; clear n0_ n1_ n2_ n3_ n4_ n5_ n6_; clear hb hbox hg; have hnb9 := NB101_102.out; have hnc9 := NB102_101.out; have hcz10_0 : w8.cell? ⟨gb101, 0, none⟩ = some (.int .i64 a0_0) := (blk_cell BK101.out 0).trans rfl; have hcz10_1 : w8.cell? ⟨gb101, 1, none⟩ = some (.int .i64 a0_1) := (blk_cell BK101.out 1).trans rfl; have hcz10_2 : w8.cell? ⟨gb101, 2, none⟩ = some (.int .i64 a0_2) := (blk_cell BK101.out 2).trans rfl; have hcz10_3 : w8.cell? ⟨gb101, 3, none⟩ = some (.int .i64 a0_3) := (blk_cell BK101.out 3).trans rfl; have hcz10_4 : w8.cell? ⟨gb101, 4, none⟩ = some (.int .i64 a0_4) := (blk_cell BK101.out 4).trans rfl; have hcz10_5 : w8.cell? ⟨gb101, 5, none⟩ = some (.int .i64 a0_5) := (blk_cell BK101.out 5).trans rfl; have hcz10_6 : w8.cell? ⟨gb101, 6, none⟩ = some (.int .i64 a0_6) := (blk_cell BK101.out 6).trans rfl; have hcz10_7 : w8.cell? ⟨gb101, 7, none⟩ = some (.int .i64 a0_7) := (blk_cell BK101.out 7).trans rfl; have hcz10_8 : w8.cell? ⟨gb101, 8, none⟩ = some (.int .i64 a0_8) := (blk_cell BK101.out 8).trans rfl; have hcz10_9 : w8.cell? ⟨gb101, 9, none⟩ = some (.int .i64 a0_9) := (blk_cell BK101.out 9).trans rfl; have hfz10_0 := blk_frozen BK101.out 0; have hfz10_1 := blk_frozen BK101.out 1; have hfz10_2 := blk_frozen BK101.out 2; have hfz10_3 := blk_frozen BK101.out 3; have hfz10_4 := blk_frozen BK101.out 4; have hfz10_5 := blk_frozen BK101.out 5; have hfz10_6 := blk_frozen BK101.out 6; have hfz10_7 := blk_frozen BK101.out 7; have hfz10_8 := blk_frozen BK101.out 8; have hfz10_9 := blk_frozen BK101.out 9) | ((with_reducible refine gate_callee (f := 79) rfl ?_); refine goesL_ (some 12) rfl rfl Try.func79 (by kernel_rfl) rfl #[.agg #[.int .i64 a0_0, .int .i64 a0_1, .int .i64 a0_2, .int .i64 a0_3, .int .i64 a0_4, .int .i64 a0_5, .int .i64 a0_6, .int .i64 a0_7, .int .i64 a0_8, .int .i64 a0_9], .int .i64 a1, .int .i64 a2] rfl (by (try simp only [List.map_toArray, List.map_cons, List.map_nil]); first | done | rfl | (simp only [List.length_drop, List.length_take]; rfl)) ?_; (with_reducible refine (curve_asked.calls a0_0 a0_1 a0_2 a0_3 a0_4 a0_5 a0_6 a0_7 a0_8 a0_9 a1 a2 t103 _ A4.out).mono ?_); rintro e w11 ⟨rfl, hb⟩; refine ⟨_, rfl, ?_⟩; have n0_ := Aside0.mk (blk_below (by (with_reducible repeat (first | refine qn ?_ _ | refine qd ?_ | refine qa ?_ _)); exact BK101.out) hb); have n1_ := Aside0.mk (blk_below (by (with_reducible repeat (first | refine qn ?_ _ | refine qd ?_ | refine qa ?_ _)); exact BK102.out) hb); have n2_ := Aside0.mk (below_step (by repeat (first | (with_reducible first | exact HB.out | apply qA | apply qN | apply qD | refine below_set ?_ GE101.out | refine below_set ?_ GE102.out) | exact HB.out)) hb); clear BK101; clear BK102; clear HB; have BK101 := n0_; have BK102 := n1_; have HB := n2_; clear n0_ n1_ n2_; (try clear hb); (try clear hb2); (try clear hk); (try clear hi); have hcz12_0 : w11.cell? ⟨gb101, 0, none⟩ = some (.int .i64 a0_0) := (blk_cell BK101.out 0).trans rfl; have hcz12_1 : w11.cell? ⟨gb101, 1, none⟩ = some (.int .i64 a0_1) := (blk_cell BK101.out 1).trans rfl; have hcz12_2 : w11.cell? ⟨gb101, 2, none⟩ = some (.int .i64 a0_2) := (blk_cell BK101.out 2).trans rfl; have hcz12_3 : w11.cell? ⟨gb101, 3, none⟩ = some (.int .i64 a0_3) := (blk_cell BK101.out 3).trans rfl; have hcz12_4 : w11.cell? ⟨gb101, 4, none⟩ = some (.int .i64 a0_4) := (blk_cell BK101.out 4).trans rfl; have hcz12_5 : w11.cell? ⟨gb101, 5, none⟩ = some (.int .i64 a0_5) := (blk_cell BK101.out 5).trans rfl; have hcz12_6 : w11.cell? ⟨gb101, 6, none⟩ = some (.int .i64 a0_6) := (blk_cell BK101.out 6).trans rfl; have hcz12_7 : w11.cell? ⟨gb101, 7, none⟩ = some (.int .i64 a0_7) := (blk_cell BK101.out 7).trans rfl; have hcz12_8 : w11.cell? ⟨gb101, 8, none⟩ = some (.int .i64 a0_8) := (blk_cell BK101.out 8).trans rfl; have hcz12_9 : w11.cell? ⟨gb101, 9, none⟩ = some (.int .i64 a0_9) := (blk_cell BK101.out 9).trans rfl; have hfz12_0 := blk_frozen BK101.out 0; have hfz12_1 := blk_frozen BK101.out 1; have hfz12_2 := blk_frozen BK101.out 2; have hfz12_3 := blk_frozen BK101.out 3; have hfz12_4 := blk_frozen BK101.out 4; have hfz12_5 := blk_frozen BK101.out 5; have hfz12_6 := blk_frozen BK101.out 6; have hfz12_7 := blk_frozen BK101.out 7; have hfz12_8 := blk_frozen BK101.out 8; have hfz12_9 := blk_frozen BK101.out 9) | ((with_reducible refine gate_callee (f := 80) rfl ?_); refine goesL_ (some 20) rfl rfl Try.func80 (by kernel_rfl) rfl #[.agg #[.int .i64 a0_0, .int .i64 a0_1, .int .i64 a0_2, .int .i64 a0_3, .int .i64 a0_4, .int .i64 a0_5, .int .i64 a0_6, .int .i64 a0_7, .int .i64 a0_8, .int .i64 a0_9], .int .i64 a1, .int .i64 a2] rfl (by (try simp only [List.map_toArray, List.map_cons, List.map_nil]); first | done | rfl | (simp only [List.length_drop, List.length_take]; rfl)) ?_; (with_reducible refine (curve_current.calls k a0_0 a0_1 a0_2 a0_3 a0_4 a0_5 a0_6 a0_7 a0_8 a0_9 a1 a2 t104 t105 _ A6.out).mono ?_); rintro e w13 ⟨rfl, hb⟩; refine ⟨_, rfl, ?_⟩; have n0_ := Aside0.mk (blk_below (by (with_reducible repeat (first | refine qn ?_ _ | refine qd ?_ | refine qa ?_ _)); exact BK101.out) hb); have n1_ := Aside0.mk (blk_below (by (with_reducible repeat (first | refine qn ?_ _ | refine qd ?_ | refine qa ?_ _)); exact BK102.out) hb); have n2_ := Aside0.mk (below_step (by repeat (first | (with_reducible first | exact HB.out | apply qA | apply qN | apply qD | refine below_set ?_ GE101.out | refine below_set ?_ GE102.out) | exact HB.out)) hb); clear BK101; clear BK102; clear HB; have BK101 := n0_; have BK102 := n1_; have HB := n2_; clear n0_ n1_ n2_; (try clear hb); (try clear hb2); (try clear hk); (try clear hi); have hcz14_0 : w13.cell? ⟨gb102, 0, none⟩ = some (.int .i64 0) := (blk_cell BK102.out 0).trans rfl; have hcz14_1 : w13.cell? ⟨gb102, 1, none⟩ = some (.int .i64 0) := (blk_cell BK102.out 1).trans rfl; have hfz14_0 := blk_frozen BK102.out 0; have hfz14_1 := blk_frozen BK102.out 1))
    refine bodyPost_ret (results_ct rfl _ _ gb102 35 #[.int .i64 t104, .int .i64 t105] (0, 0) _ rfl (by (with_reducible repeat (first | refine qn ?_ _ | refine qd ?_ | refine qa ?_ _)); refine blk_put (cs := #[.int .i64 t104, .int .i64 0]) ?_ 1 _ rfl; (with_reducible repeat (first | refine qn ?_ _ | refine qd ?_ | refine qa ?_ _)); refine blk_put (cs := #[.int .i64 0, .int .i64 0]) ?_ 0 _ rfl; (with_reducible repeat (first | refine qn ?_ _ | refine qd ?_ | refine qa ?_ _)); exact BK102.out) Try.underlying35 rfl (by kernel_rfl)) rfl ?_
    exact ⟨by first | rfl | (simp [errW_none, errW_some] <;> rfl) | (simp [*, errW_none, errW_some] <;> rfl), by repeat (first | (with_reducible first | exact HB.out | apply qA | apply qN | apply qD | refine below_set ?_ GE101.out | refine below_set ?_ GE102.out) | exact HB.out)⟩
  · rw [if_neg c5] at H
    have c5b0 : (t103 == 0) = false := beq_eq_false_iff_ne.mpr c5
    have c5b1 : (t103 != 0) = true := bne_iff_ne.mpr c5
    simp only [Option.some.injEq, Prod.mk.injEq] at H
    obtain ⟨rfl, rfl, rfl⟩ := H
    go_enter Try.func27, Try.ntmps27
    go_wp2_with (first | ((with_reducible refine gate_dst (N := 3) rfl ?_); refine box_event ?hg (N := 3) ?hd (cs := #[.int .i64 a0_0, .int .i64 a0_1, .int .i64 a0_2, .int .i64 a0_3, .int .i64 a0_4, .int .i64 a0_5, .int .i64 a0_6, .int .i64 a0_7, .int .i64 a0_8, .int .i64 a0_9]) (t := 42) ?hr ?_; (case hd => rfl); (case hg => rfl); (case hr => first | (go_simp; done) | (go_simp; rfl)); intro gb101 hg w15 hbox hb; have n0_ := Aside0.mk (below_step (by repeat (first | (with_reducible first | exact HB.out | apply qA | apply qN | apply qD) | exact HB.out)) hb); have n1_ := Aside0.mk (hbox); have n2_ := Aside0.mk ((by rw [hg]; exact (below_size (by repeat (first | (with_reducible first | exact HB.out | apply qA | apply qN | apply qD) | exact HB.out))) : w.heap.size ≤ gb101)); have n3_ := Aside0.mk ((by rw [hg]; exact (below_size (by repeat (first | (with_reducible first | exact HB.out | apply qA | apply qN | apply qD) | exact HB.out))) : w.heap.size ≤ gb101)); clear HB; have HB := n0_; have BK101 := n1_; have GW101 := n2_; have GE101 := n3_; clear n0_ n1_ n2_ n3_; clear hb hbox hg) | ((with_reducible refine gate_dst (N := 6) rfl ?_); refine box_event ?hg (N := 6) ?hd (cs := #[.int .i64 0, .int .i64 0]) (t := 35) ?hr ?_; (case hd => rfl); (case hg => rfl); (case hr => first | (go_simp; done) | (go_simp; rfl)); intro gb102 hg w16 hbox hb; have n0_ := Aside0.mk (blk_below (by (with_reducible repeat (first | refine qn ?_ _ | refine qd ?_ | refine qa ?_ _)); exact BK101.out) hb); have n1_ := Aside0.mk (below_step (by repeat (first | (with_reducible first | exact HB.out | apply qA | apply qN | apply qD | refine below_set ?_ GE101.out) | exact HB.out)) hb); have n2_ := Aside0.mk (hbox); have n3_ := Aside0.mk ((by rw [hg]; exact (below_size (by repeat (first | (with_reducible first | exact HB.out | apply qA | apply qN | apply qD | refine below_set ?_ GE101.out) | exact HB.out))) : w.heap.size ≤ gb102)); have n4_ := Aside0.mk ((by rw [hg]; exact (below_size (by repeat (first | (with_reducible first | exact HB.out | apply qA | apply qN | apply qD | refine below_set ?_ GE101.out) | exact HB.out))) : w.heap.size ≤ gb102)); have n5_ := Aside0.mk ((by rw [hg]; exact Nat.ne_of_lt (blk_lt (by (with_reducible repeat (first | refine qn ?_ _ | refine qd ?_ | refine qa ?_ _)); exact BK101.out)) : gb101 ≠ gb102)); have n6_ := Aside0.mk ((by rw [hg]; exact Nat.ne_of_gt (blk_lt (by (with_reducible repeat (first | refine qn ?_ _ | refine qd ?_ | refine qa ?_ _)); exact BK101.out)) : gb102 ≠ gb101)); clear BK101; clear HB; have BK101 := n0_; have HB := n1_; have BK102 := n2_; have GW102 := n3_; have GE102 := n4_; have NB101_102 := n5_; have NB102_101 := n6_; clear n0_ n1_ n2_ n3_ n4_ n5_ n6_; clear hb hbox hg; have hnb17 := NB101_102.out; have hnc17 := NB102_101.out; have hcz18_0 : w16.cell? ⟨gb101, 0, none⟩ = some (.int .i64 a0_0) := (blk_cell BK101.out 0).trans rfl; have hcz18_1 : w16.cell? ⟨gb101, 1, none⟩ = some (.int .i64 a0_1) := (blk_cell BK101.out 1).trans rfl; have hcz18_2 : w16.cell? ⟨gb101, 2, none⟩ = some (.int .i64 a0_2) := (blk_cell BK101.out 2).trans rfl; have hcz18_3 : w16.cell? ⟨gb101, 3, none⟩ = some (.int .i64 a0_3) := (blk_cell BK101.out 3).trans rfl; have hcz18_4 : w16.cell? ⟨gb101, 4, none⟩ = some (.int .i64 a0_4) := (blk_cell BK101.out 4).trans rfl; have hcz18_5 : w16.cell? ⟨gb101, 5, none⟩ = some (.int .i64 a0_5) := (blk_cell BK101.out 5).trans rfl; have hcz18_6 : w16.cell? ⟨gb101, 6, none⟩ = some (.int .i64 a0_6) := (blk_cell BK101.out 6).trans rfl; have hcz18_7 : w16.cell? ⟨gb101, 7, none⟩ = some (.int .i64 a0_7) := (blk_cell BK101.out 7).trans rfl; have hcz18_8 : w16.cell? ⟨gb101, 8, none⟩ = some (.int .i64 a0_8) := (blk_cell BK101.out 8).trans rfl; have hcz18_9 : w16.cell? ⟨gb101, 9, none⟩ = some (.int .i64 a0_9) := (blk_cell BK101.out 9).trans rfl; have hfz18_0 := blk_frozen BK101.out 0; have hfz18_1 := blk_frozen BK101.out 1; have hfz18_2 := blk_frozen BK101.out 2; have hfz18_3 := blk_frozen BK101.out 3; have hfz18_4 := blk_frozen BK101.out 4; have hfz18_5 := blk_frozen BK101.out 5; have hfz18_6 := blk_frozen BK101.out 6; have hfz18_7 := blk_frozen BK101.out 7; have hfz18_8 := blk_frozen BK101.out 8; have hfz18_9 := blk_frozen BK101.out 9) | ((with_reducible refine gate_callee (f := 79) rfl ?_); refine goesL_ (some 12) rfl rfl Try.func79 (by kernel_rfl) rfl #[.agg #[.int .i64 a0_0, .int .i64 a0_1, .int .i64 a0_2, .int .i64 a0_3, .int .i64 a0_4, .int .i64 a0_5, .int .i64 a0_6, .int .i64 a0_7, .int .i64 a0_8, .int .i64 a0_9], .int .i64 a1, .int .i64 a2] rfl (by (try simp only [List.map_toArray, List.map_cons, List.map_nil]); first | done | rfl | (simp only [List.length_drop, List.length_take]; rfl)) ?_; (with_reducible refine (curve_asked.calls a0_0 a0_1 a0_2 a0_3 a0_4 a0_5 a0_6 a0_7 a0_8 a0_9 a1 a2 t103 _ A4.out).mono ?_); rintro e w19 ⟨rfl, hb⟩; refine ⟨_, rfl, ?_⟩; have n0_ := Aside0.mk (blk_below (by (with_reducible repeat (first | refine qn ?_ _ | refine qd ?_ | refine qa ?_ _)); exact BK101.out) hb); have n1_ := Aside0.mk (blk_below (by (with_reducible repeat (first | refine qn ?_ _ | refine qd ?_ | refine qa ?_ _)); exact BK102.out) hb); have n2_ := Aside0.mk (below_step (by repeat (first | (with_reducible first | exact HB.out | apply qA | apply qN | apply qD | refine below_set ?_ GE101.out | refine below_set ?_ GE102.out) | exact HB.out)) hb); clear BK101; clear BK102; clear HB; have BK101 := n0_; have BK102 := n1_; have HB := n2_; clear n0_ n1_ n2_; (try clear hb); (try clear hb2); (try clear hk); (try clear hi); have hcz20_0 : w19.cell? ⟨gb102, 0, none⟩ = some (.int .i64 0) := (blk_cell BK102.out 0).trans rfl; have hcz20_1 : w19.cell? ⟨gb102, 1, none⟩ = some (.int .i64 0) := (blk_cell BK102.out 1).trans rfl; have hfz20_0 := blk_frozen BK102.out 0; have hfz20_1 := blk_frozen BK102.out 1))
    refine bodyPost_ret (results_ct rfl _ _ gb102 35 #[.int .i64 0, .int .i64 0] (0, 0) _ rfl (by (with_reducible repeat (first | refine qn ?_ _ | refine qd ?_ | refine qa ?_ _)); refine blk_put (cs := #[.int .i64 0, .int .i64 0]) ?_ 1 _ rfl; (with_reducible repeat (first | refine qn ?_ _ | refine qd ?_ | refine qa ?_ _)); refine blk_put (cs := #[.int .i64 0, .int .i64 0]) ?_ 0 _ rfl; (with_reducible repeat (first | refine qn ?_ _ | refine qd ?_ | refine qa ?_ _)); exact BK102.out) Try.underlying35 rfl (by kernel_rfl)) rfl ?_
    exact ⟨by first | rfl | (simp [errW_none, errW_some] <;> rfl) | (simp [*, errW_none, errW_some] <;> rfl), by repeat (first | (with_reducible first | exact HB.out | apply qA | apply qN | apply qD | refine below_set ?_ GE101.out | refine below_set ?_ GE102.out) | exact HB.out)⟩

end Go.Proofs.Ytbomgfbfnkfamaa.PAll
end
section
namespace Go.Proofs.Ytbomgfbfnkfamaa.PAll
open Go.RowKit Go.Proofs.YtbomgfbfnkfamaaW.PrintWords Go.Proofs.YtbomgfbfnkfamaaW.PrintLast Go.Proofs.YtbomgfbfnkfamaaW.PrintMore
attribute [local go_sem] max2_int min2_int max_two min_two max_three min_three max_four min_four   -- for this text's walks alone
set_option linter.unusedVariables false
set_option linter.unusedSimpArgs false

theorem eqA35 (d : Nat) (w : World) (x0 y0 : Int) (x1 y1 : Int) :
    (Op.equalIn (d + 2) 35 (.agg #[.int .i64 x0, .int .i64 x1]) (.agg #[.int .i64 y0, .int .i64 y1])).run Try.prog w = .ok (x0 == y0 && (x1 == y1)) w := by
  refine eqA_of Try.underlying35 (by kernel_rfl) ?_
  refine eqf_cons (by rfl) (by go_simp; rfl) (by go_simp; rfl) (by go_simp) ?_
  exact eqf_last (by rfl) (by go_simp; rfl) (by go_simp; rfl) (by go_simp)
end Go.Proofs.Ytbomgfbfnkfamaa.PAll
end
section
namespace Go.Proofs.Ytbomgfbfnkfamaa.PAll
open Go.RowKit Go.Proofs.YtbomgfbfnkfamaaW.PrintWords Go.Proofs.YtbomgfbfnkfamaaW.PrintLast Go.Proofs.YtbomgfbfnkfamaaW.PrintMore
attribute [local go_sem] max2_int min2_int max_two min_two max_three min_three max_four min_four   -- for this text's walks alone
set_option linter.unusedVariables false
set_option linter.unusedSimpArgs false

/-! ### curve_lines: function 92 -/
/-- The first error of lines from the k-th on (d: how many are left). -/
def scanN (l : List Int) (low : Int) : Nat → Nat → Int
  | 0, _ => 0
  | d + 1, k => if l.getD k 0 < low ∨ 1000000 < l.getD k 0 then 2 else if 0 < k ∧ l.getD k 0 ≤ l.getD (k - 1) 0 then 11 else scanN l low d (k + 1)
def curve_lines.f (l0 : List Int) (l1 : List Int) : Option (Int) :=
  if l0.length = 0 ∨ l1.length = 0 then some 6 else if 40 < l0.length ∨ 40 < l1.length then some 8 else
  if scanN l0 (-1000000) l0.length 0 = 0 then some (scanN l1 0 l1.length 0) else some (scanN l0 (-1000000) l0.length 0)
def voltB (g p : Int) : Bool := decide (-1000000 ≤ g) && decide (g ≤ 1000000) && decide (0 ≤ p) && decide (p ≤ 1000000)
theorem voltB_calls (g p : Int) (w : World) : Calls Try.prog 67 #[.int .i64 g, .int .i64 p] w fun e w' => e = .returned (.bool (voltB g p)) ∧ w = w' := by
  by_cases h1 : -1000000 ≤ g
  · by_cases h2 : g ≤ 1000000
    · by_cases h3 : 0 ≤ p
      · by_cases h4 : p ≤ 1000000
        all_goals
          have HV : Aside0 (voltB g p = decide (p ≤ 1000000)) := ⟨by simp [voltB, h1, h2, h3]⟩
          rw [HV.out]
          go_enter Try.func67, Try.ntmps67
          go_wp2
          go_ret
          first | exact ⟨rfl, rfl⟩ | exact ⟨by simp [h4], rfl⟩
      · have HV : Aside0 (voltB g p = false) := ⟨by simp [voltB, h3]⟩
        rw [HV.out]
        go_enter Try.func67, Try.ntmps67
        go_wp2
        go_ret
        first | exact ⟨rfl, rfl⟩ | exact ⟨by simp [h3], rfl⟩
    · have HV : Aside0 (voltB g p = false) := ⟨by simp [voltB, h2]⟩
      rw [HV.out]
      go_enter Try.func67, Try.ntmps67
      go_wp2
      go_ret
      first | exact ⟨rfl, rfl⟩ | exact ⟨by simp [h2], rfl⟩
  · have HV : Aside0 (voltB g p = false) := ⟨by simp [voltB, h1]⟩
    rw [HV.out]
    go_enter Try.func67, Try.ntmps67
    go_wp2
    go_ret
    first | exact ⟨rfl, rfl⟩ | exact ⟨by simp [h1], rfl⟩
theorem voltB_grid (v : Int) : voltB v 0 = true ↔ ¬ (v < -1000000 ∨ 1000000 < v) := by simp [voltB] <;> omega
theorem voltB_plate (v : Int) : voltB 0 v = true ↔ ¬ (v < 0 ∨ 1000000 < v) := by simp [voltB] <;> omega
theorem scanN_bad {l : List Int} {low : Int} {k : Nat} (hk : k < l.length) (h : l.getD k 0 < low ∨ 1000000 < l.getD k 0) : scanN l low (l.length - k) k = 2 := by
  obtain ⟨d, hd⟩ : ∃ d, l.length - k = d + 1 := ⟨l.length - k - 1, by omega⟩
  rw [hd, scanN, if_pos h]
theorem scanN_order {l : List Int} {low : Int} {k : Nat} (hk : k < l.length) (h : ¬ (l.getD k 0 < low ∨ 1000000 < l.getD k 0)) (h2 : 0 < k ∧ l.getD k 0 ≤ l.getD (k - 1) 0) : scanN l low (l.length - k) k = 11 := by
  obtain ⟨d, hd⟩ : ∃ d, l.length - k = d + 1 := ⟨l.length - k - 1, by omega⟩
  rw [hd, scanN, if_neg h, if_pos h2]
theorem scanN_next {l : List Int} {low : Int} {k : Nat} (hk : k < l.length) (h : ¬ (l.getD k 0 < low ∨ 1000000 < l.getD k 0)) (h2 : ¬ (0 < k ∧ l.getD k 0 ≤ l.getD (k - 1) 0)) : scanN l low (l.length - k) k = scanN l low (l.length - (k + 1)) (k + 1) := by
  obtain ⟨d, hd⟩ : ∃ d, l.length - k = d + 1 := ⟨l.length - k - 1, by omega⟩
  rw [hd, scanN, if_neg h, if_neg h2, show l.length - (k + 1) = d by omega]

set_option maxHeartbeats 8000000 in
set_option maxRecDepth 100000 in
theorem curve_lines.calls (A0 : Option Addr) (c0 : Nat) (l0 : List Int) (A1 : Option Addr) (c1 : Nat) (l1 : List Int) (r : Int) (w : World) (hr0 : Kd.C (Kd.int .i64) w A0 l0.length l0) (hc0 : l0.length ≤ c0) (hr1 : Kd.C (Kd.int .i64) w A1 l1.length l1) (hc1 : l1.length ≤ c1) (h : curve_lines.f l0 l1 = some r) :
    Calls Try.prog 92 #[.slice A0 l0.length c0, .slice A1 l1.length c1] w fun e w' => e = .returned (.int .i64 r) ∧ Drawn0 w w' := by
  unfold curve_lines.f at h
  have i0 : ∀ W : World, (Instr.index 133 (.agg #[.slice A0 l0.length c0, .slice A1 l1.length c1]) (.int .i64 0)).run Try.prog W = .ok (.slice A0 l0.length c0) W := fun W => by kernel_rfl
  have i1 : ∀ W : World, (Instr.index 133 (.agg #[.slice A0 l0.length c0, .slice A1 l1.length c1]) (.int .i64 1)).run Try.prog W = .ok (.slice A1 l1.length c1) W := fun W => by kernel_rfl
  have m0 : l0.length ≤ 9223372036854775807 := hr0.2.1
  have m1 : l1.length ≤ 9223372036854775807 := hr1.2.1
  have HR0 := Aside0.mk hr0
  have HR1 := Aside0.mk hr1
  clear hr0 hr1
  by_cases z : l0.length = 0 ∨ l1.length = 0
  · rw [if_pos z] at h
    obtain rfl := Option.some.inj h
    by_cases z0 : l0.length = 0
    · have hz0 : ((l0.length : Int) == 0) = true := by simp [z0]
      clear z
      have Z0 := Aside0.mk z0
      clear z0
      go_enter Try.func92, Try.ntmps92
      go_wp2_with fail
      go_ret
      exact ⟨rfl, ⟨0, rfl⟩⟩
    · have z1 : l1.length = 0 := by omega
      have hz0 : ((l0.length : Int) == 0) = false := by rw [beq_eq_false_iff_ne]; omega
      have hz1 : ((l1.length : Int) == 0) = true := by simp [z1]
      clear z z0 z1
      go_enter Try.func92, Try.ntmps92
      go_wp2_with fail
      go_ret
      exact ⟨rfl, ⟨0, rfl⟩⟩
  · rw [if_neg z] at h
    have hz0 : ((l0.length : Int) == 0) = false := by rw [beq_eq_false_iff_ne]; omega
    have hz1 : ((l1.length : Int) == 0) = false := by rw [beq_eq_false_iff_ne]; omega
    have q0 : 0 < l0.length := by omega
    have q1 : 0 < l1.length := by omega
    clear z
    by_cases z : 40 < l0.length ∨ 40 < l1.length
    · rw [if_pos z] at h
      obtain rfl := Option.some.inj h
      by_cases z0 : 40 < l0.length
      · clear z
        go_enter Try.func92, Try.ntmps92
        go_wp2_with fail
        go_ret
        exact ⟨rfl, ⟨0, rfl⟩⟩
      · have z1 : 40 < l1.length := by omega
        have z0' : l0.length ≤ 40 := by omega
        clear z z0
        go_enter Try.func92, Try.ntmps92
        go_wp2_with fail
        go_ret
        exact ⟨rfl, ⟨0, rfl⟩⟩
    · rw [if_neg z] at h
      have n0 : l0.length ≤ 40 := by omega
      have n1 : l1.length ≤ 40 := by omega
      clear z
      obtain ⟨E0, hE0⟩ : ∃ E, scanN l0 (-1000000) l0.length 0 = E := ⟨_, rfl⟩
      obtain ⟨E1, hE1⟩ : ∃ E, scanN l1 0 l1.length 0 = E := ⟨_, rfl⟩
      rw [hE0, hE1] at h
      have HE0 := Aside0.mk hE0
      have HE1 := Aside0.mk hE1
      clear hE0 hE1
      have HF0 : Aside0 ((E0 = 2 → Ending.returned (.int .i64 2) = .returned (.int .i64 r)) ∧ (E0 = 11 → Ending.returned (.int .i64 11) = .returned (.int .i64 r)) ∧ True) :=
        ⟨fun z => by rw [if_neg (by omega)] at h; rw [← Option.some.inj h, z], fun z => by rw [if_neg (by omega)] at h; rw [← Option.some.inj h, z], trivial⟩
      have HF1' : Aside0 (E0 = 0 → E1 = r) := ⟨fun z => by rw [if_pos z] at h; exact Option.some.inj h⟩
      clear h
      go_enter Try.func92, Try.ntmps92
      go_wp2_with fail
      refine wp_loop_rounds 3 ?_
      rw [rounds_succ]
      go_wp2_with fail
      go_loop [7, 8, 36] (fun _ _ i => ∃ k : Nat, k ≤ l0.length ∧ i = .int .i64 k ∧ Aside0 (scanN l0 (-1000000) (l0.length - k) k = E0)) (fun _ _ i => l0.length - (intOf i).toNat)
      case atStart => exact ⟨0, Nat.zero_le _, rfl, ⟨HE0.out⟩⟩
      case round =>
        obtain ⟨k, hk, rfl, hs⟩ := hrel
        by_cases hlt : k < l0.length
        · obtain ⟨ad, hA, hcell⟩ := Kd.at_int HR0.out (k : Int) (by omega) (by omega)
          have hcell' : w.cell? (ad.add k) = some (.int .i64 (l0.getD k 0)) := hcell
          clear hcell
          subst hA
          have h64 : l0.length ≤ 9223372036854775807 := HR0.out.2.1
          have HV := Aside0.mk (voltB_grid (l0.getD k 0))
          have HBAD := Aside0.mk (scanN_bad (low := (-1000000)) hlt)
          have HORD := Aside0.mk (scanN_order (low := (-1000000)) hlt)
          have HNXT := Aside0.mk (scanN_next (low := (-1000000)) hlt)
          have HPRE : 0 < k → w.cell? (ad.add (k - 1)) = some (.int .i64 (l0.getD (k - 1) 0)) := fun h => by
            obtain ⟨ad2, hA2, hc2⟩ := Kd.at_int HR0.out ((k - 1 : Nat) : Int) (by omega) (by omega)
            obtain rfl := Option.some.inj hA2
            exact hc2
          generalize l0.getD k 0 = v at *
          by_cases hb : v < (-1000000) ∨ 1000000 < v
          · have hv : voltB v 0 = false := by rw [← Bool.not_eq_true, HV.out]; exact not_not_intro hb
            have HX := Aside0.mk (HBAD.out hb)
            clear hb HBAD HORD HNXT HPRE HV
            go_wp2_with (go_at_call 67; refine (voltB_calls _ _ _).mono ?_; rintro e w' ⟨rfl, rfl⟩)
            go_ret
            exact ⟨HF0.out.1 (hs.out.symm.trans HX.out), ⟨0, rfl⟩⟩
          · have hv : voltB v 0 = true := (HV.out).2 hb
            have HB := Aside0.mk hb
            clear hb HBAD HV
            by_cases hk0 : 0 < k
            · have hc2 := HPRE hk0
              have hj : ((k : Int) - 1).toNat = k - 1 := by omega
              generalize l0.getD (k - 1) 0 = u at *
              have hwr : IntKind.i64.wrap ((k : Int) - 1) = (k : Int) - 1 := IntWalk.i64_in _ (by omega)
              have hk1 : (0 : Int) ≤ (k : Int) - 1 := by omega
              have hk2 : (k : Int) - 1 < l0.length := by omega
              by_cases ho : v ≤ u
              · have HX := Aside0.mk (HORD.out HB.out ⟨hk0, ho⟩)
                clear HORD HNXT HPRE
                go_wp2_with (go_at_call 67; refine (voltB_calls _ _ _).mono ?_; rintro e w' ⟨rfl, rfl⟩)
                go_ret
                exact ⟨HF0.out.2.1 (hs.out.symm.trans HX.out), ⟨0, rfl⟩⟩
              · have HX := Aside0.mk (HNXT.out HB.out (fun z => ho z.2))
                clear HORD HNXT HPRE
                go_wp2_with (go_at_call 67; refine (voltB_calls _ _ _).mono ?_; rintro e w' ⟨rfl, rfl⟩)
                go_round
                case rel => exact ⟨k + 1, by omega, by go_num, ⟨HX.out.symm.trans hs.out⟩⟩
                case measure => simp [intOf]; omega
            · have HX := Aside0.mk (HNXT.out HB.out (fun z => hk0 z.1))
              have hkz : k ≤ 0 := by omega
              clear HORD HNXT HPRE hk0
              go_wp2_with (go_at_call 67; refine (voltB_calls _ _ _).mono ?_; rintro e w' ⟨rfl, rfl⟩)
              go_round
              case rel => exact ⟨k + 1, by omega, by go_num, ⟨HX.out.symm.trans hs.out⟩⟩
              case measure => simp [intOf]; omega
        · obtain rfl : k = l0.length := by omega
          have HZ : Aside0 (E0 = 0) := ⟨by have := hs.out; rw [Nat.sub_self] at this; exact this.symm⟩
          clear hs
          have HF1 : Aside0 ((E1 = 2 → Ending.returned (.int .i64 2) = .returned (.int .i64 r)) ∧ (E1 = 11 → Ending.returned (.int .i64 11) = .returned (.int .i64 r)) ∧ (E1 = 0 → Ending.returned (.int .i64 0) = .returned (.int .i64 r))) := ⟨fun z => by rw [← HF1'.out HZ.out, z], fun z => by rw [← HF1'.out HZ.out, z], fun z => by rw [← HF1'.out HZ.out, z]⟩
          go_wp2_with fail
          rw [rounds_succ]
          go_wp2_with fail
          go_loop [7, 8, 36] (fun _ _ i => ∃ k : Nat, k ≤ l1.length ∧ i = .int .i64 k ∧ Aside0 (scanN l1 0 (l1.length - k) k = E1)) (fun _ _ i => l1.length - (intOf i).toNat)
          case atStart => exact ⟨0, Nat.zero_le _, rfl, ⟨HE1.out⟩⟩
          case round =>
            obtain ⟨k, hk, rfl, hs⟩ := hrel
            by_cases hlt : k < l1.length
            · obtain ⟨ad, hA, hcell⟩ := Kd.at_int HR1.out (k : Int) (by omega) (by omega)
              have hcell' : w.cell? (ad.add k) = some (.int .i64 (l1.getD k 0)) := hcell
              clear hcell
              subst hA
              have h64 : l1.length ≤ 9223372036854775807 := HR1.out.2.1
              have HV := Aside0.mk (voltB_plate (l1.getD k 0))
              have HBAD := Aside0.mk (scanN_bad (low := 0) hlt)
              have HORD := Aside0.mk (scanN_order (low := 0) hlt)
              have HNXT := Aside0.mk (scanN_next (low := 0) hlt)
              have HPRE : 0 < k → w.cell? (ad.add (k - 1)) = some (.int .i64 (l1.getD (k - 1) 0)) := fun h => by
                obtain ⟨ad2, hA2, hc2⟩ := Kd.at_int HR1.out ((k - 1 : Nat) : Int) (by omega) (by omega)
                obtain rfl := Option.some.inj hA2
                exact hc2
              generalize l1.getD k 0 = v at *
              by_cases hb : v < 0 ∨ 1000000 < v
              · have hv : voltB 0 v = false := by rw [← Bool.not_eq_true, HV.out]; exact not_not_intro hb
                have HX := Aside0.mk (HBAD.out hb)
                clear hb HBAD HORD HNXT HPRE HV
                go_wp2_with (go_at_call 67; refine (voltB_calls _ _ _).mono ?_; rintro e w' ⟨rfl, rfl⟩)
                go_ret
                exact ⟨HF1.out.1 (hs.out.symm.trans HX.out), ⟨0, rfl⟩⟩
              · have hv : voltB 0 v = true := (HV.out).2 hb
                have HB := Aside0.mk hb
                clear hb HBAD HV
                by_cases hk0 : 0 < k
                · have hc2 := HPRE hk0
                  have hj : ((k : Int) - 1).toNat = k - 1 := by omega
                  generalize l1.getD (k - 1) 0 = u at *
                  have hwr : IntKind.i64.wrap ((k : Int) - 1) = (k : Int) - 1 := IntWalk.i64_in _ (by omega)
                  have hk1 : (0 : Int) ≤ (k : Int) - 1 := by omega
                  have hk2 : (k : Int) - 1 < l1.length := by omega
                  by_cases ho : v ≤ u
                  · have HX := Aside0.mk (HORD.out HB.out ⟨hk0, ho⟩)
                    clear HORD HNXT HPRE
                    go_wp2_with (go_at_call 67; refine (voltB_calls _ _ _).mono ?_; rintro e w' ⟨rfl, rfl⟩)
                    go_ret
                    exact ⟨HF1.out.2.1 (hs.out.symm.trans HX.out), ⟨0, rfl⟩⟩
                  · have HX := Aside0.mk (HNXT.out HB.out (fun z => ho z.2))
                    clear HORD HNXT HPRE
                    go_wp2_with (go_at_call 67; refine (voltB_calls _ _ _).mono ?_; rintro e w' ⟨rfl, rfl⟩)
                    go_round
                    case rel => exact ⟨k + 1, by omega, by go_num, ⟨HX.out.symm.trans hs.out⟩⟩
                    case measure => simp [intOf]; omega
                · have HX := Aside0.mk (HNXT.out HB.out (fun z => hk0 z.1))
                  have hkz : k ≤ 0 := by omega
                  clear HORD HNXT HPRE hk0
                  go_wp2_with (go_at_call 67; refine (voltB_calls _ _ _).mono ?_; rintro e w' ⟨rfl, rfl⟩)
                  go_round
                  case rel => exact ⟨k + 1, by omega, by go_num, ⟨HX.out.symm.trans hs.out⟩⟩
                  case measure => simp [intOf]; omega
            · obtain rfl : k = l1.length := by omega
              have HZ : Aside0 (E1 = 0) := ⟨by have := hs.out; rw [Nat.sub_self] at this; exact this.symm⟩
              clear hs
              go_wp2_with fail
              rw [rounds_succ]
              go_wp2_with fail
              go_ret
              exact ⟨HF1.out.2.2 HZ.out, ⟨0, rfl⟩⟩

end Go.Proofs.Ytbomgfbfnkfamaa.PAll
end
section
namespace Go.Proofs.Ytbomgfbfnkfamaa.PAll
open Go.RowKit Go.Proofs.YtbomgfbfnkfamaaW.PrintWords Go.Proofs.YtbomgfbfnkfamaaW.PrintLast Go.Proofs.YtbomgfbfnkfamaaW.PrintMore
attribute [local go_sem] max2_int min2_int max_two min_two max_three min_three max_four min_four   -- for this text's walks alone
set_option linter.unusedVariables false
set_option linter.unusedSimpArgs false

/-! ### curve_shaped: function 93 -/
/-- The first row, from the k-th on, that has not so many numbers (d: how many rows are left); -1: none. -/
def ixNe (l : List (List Int)) (many : Int) : Nat → Nat → Int
  | 0, _ => -1
  | d + 1, k => if ((l.getD k []).length : Int) = many then ixNe l many d (k + 1) else k
def curve_shaped.f (l0 : List (List Int)) (a1 : Int) (a2 : Int) : Option (Bool) :=
  if (l0.length : Int) = a1 then some (decide (ixNe l0 a2 l0.length 0 < 0)) else some false
theorem ixNe_bounds (l : List (List Int)) (many : Int) : ∀ (d k : Nat), ixNe l many d k = -1 ∨ 0 ≤ ixNe l many d k
  | 0, _ => .inl rfl
  | d + 1, k => by
    rw [ixNe]; split
    · exact ixNe_bounds l many d (k + 1)
    · right; omega
theorem ixNe_all (l : List (List Int)) (many : Int) : ∀ (d k : Nat), k + d = l.length → (ixNe l many d k < 0 ↔ ∀ j, k ≤ j → j < l.length → ((l.getD j []).length : Int) = many)
  | 0, k => fun h => ⟨fun _ j h1 h2 => by omega, fun _ => by rw [ixNe]; omega⟩
  | d + 1, k => fun h => by
    rw [ixNe]
    by_cases hx : ((l.getD k []).length : Int) = many
    · rw [if_pos hx, ixNe_all l many d (k + 1) (by omega)]
      refine ⟨fun z j h1 h2 => ?_, fun z j h1 h2 => z j (by omega) h2⟩
      rcases Nat.lt_or_ge k j with h3 | h3
      · exact z j h3 h2
      · obtain rfl : j = k := by omega
        exact hx
    · rw [if_neg hx]
      exact ⟨fun z => by omega, fun z => absurd (z k (Nat.le_refl _) (by omega)) hx⟩
theorem shapedT (B : Nat) (many : Int) (A0 : Option Addr) (n c0 : Nat) (hm : (n : Int) = many) (w : World) (c1 : w.cell? ⟨B, 0, none⟩ = some (.int .i64 many)) :
    Calls Try.prog 126 #[.slice A0 n c0, .pointer (some ⟨B, 0, none⟩)] w fun e w' => e = .returned (.bool false) ∧ w = w' := by
  have hb : ((n : Int) != many) = false := by simp [hm]
  clear hm
  go_enter Try.func126, Try.ntmps126
  go_wp2_with fail
  go_ret
  exact ⟨rfl, rfl⟩
theorem shapedF (B : Nat) (many : Int) (A0 : Option Addr) (n c0 : Nat) (hm : ¬ (n : Int) = many) (w : World) (c1 : w.cell? ⟨B, 0, none⟩ = some (.int .i64 many)) :
    Calls Try.prog 126 #[.slice A0 n c0, .pointer (some ⟨B, 0, none⟩)] w fun e w' => e = .returned (.bool true) ∧ w = w' := by
  have hb : ((n : Int) != many) = true := by simp [hm]
  clear hm
  go_enter Try.func126, Try.ntmps126
  go_wp2_with fail
  go_ret
  exact ⟨rfl, rfl⟩
set_option maxHeartbeats 2000000 in
set_option maxRecDepth 100000 in
theorem shapedIx (B : Nat) (many E : Int) (A0 : Option Addr) (c0 : Nat) (l0 : List (List Int)) (w : World) (c1 : w.cell? ⟨B, 0, none⟩ = some (.int .i64 many)) (hr0 : Kd.C (Kd.slice 3 (Kd.int .i64)) w A0 l0.length l0) (hc0 : l0.length ≤ c0) (hE : ixNe l0 many l0.length 0 = E) :
    Calls Try.prog 143 #[.slice A0 l0.length c0, .func (.func 126) #[] #[.pointer (some ⟨B, 0, none⟩)]] w fun e w' => e = .returned (.int .i64 E) ∧ w = w' := by
  have m0 : l0.length ≤ 9223372036854775807 := hr0.2.1
  have HR0 := Aside0.mk hr0
  have HC1 := Aside0.mk c1
  have HE := Aside0.mk hE
  clear hr0 c1 hE
  go_enter Try.func143, Try.ntmps143
  go_wp2_with fail
  go_loop [5, 8] (fun _ i => ∃ k : Nat, k ≤ l0.length ∧ i = .int .i64 k ∧ Aside0 (ixNe l0 many (l0.length - k) k = E)) (fun _ i => l0.length - (intOf i).toNat)
  case atStart => exact ⟨0, Nat.zero_le _, rfl, ⟨HE.out⟩⟩
  case round =>
    obtain ⟨k, hk, rfl, hs⟩ := hrel
    by_cases hlt : k < l0.length
    · obtain ⟨ad, Ar, cr, hA, hcell, _, _⟩ := @at_L1 _ _ _ _ HR0.out (k : Int) (by omega) (by omega)
      have hcell' : w.cell? (ad.add k) = some (.slice Ar (l0.getD k []).length cr) := hcell
      clear hcell
      subst hA
      have hd : ixNe l0 many (l0.length - k) k = if ((l0.getD k []).length : Int) = many then ixNe l0 many (l0.length - (k + 1)) (k + 1) else k := by
        obtain ⟨d, hd⟩ : ∃ d, l0.length - k = d + 1 := ⟨l0.length - k - 1, by omega⟩
        rw [hd, ixNe, show l0.length - (k + 1) = d by omega]
      generalize (l0.getD k []).length = n at *
      by_cases hn : (n : Int) = many
      · have HX : Aside0 (ixNe l0 many (l0.length - (k + 1)) (k + 1) = E) := ⟨by rw [if_pos hn] at hd; rw [← hd]; exact hs.out⟩
        have HT := Aside0.mk (shapedT B many Ar n cr hn)
        clear hd hn hs
        go_wp2_with (go_at_call 126; refine (HT.out w HC1.out).mono ?_; rintro e w' ⟨rfl, rfl⟩)
        go_round
        case rel => exact ⟨k + 1, by omega, by go_num, HX⟩
        case measure => simp [intOf]; omega
      · have HX : Aside0 ((k : Int) = E) := ⟨by rw [if_neg hn] at hd; rw [← hd]; exact hs.out⟩
        have HT := Aside0.mk (shapedF B many Ar n cr hn)
        clear hd hn hs
        go_wp2_with (go_at_call 126; refine (HT.out w HC1.out).mono ?_; rintro e w' ⟨rfl, rfl⟩)
        go_ret
        exact ⟨congrArg (fun x => Ending.returned (.int .i64 x)) HX.out, rfl⟩
    · obtain rfl : k = l0.length := by omega
      have HX : Aside0 (E = -1) := ⟨by have := hs.out; rw [Nat.sub_self, ixNe] at this; exact this.symm⟩
      clear hs
      go_wp2_with fail
      go_ret
      exact ⟨congrArg (fun x => Ending.returned (.int .i64 x)) HX.out.symm, rfl⟩
set_option maxHeartbeats 1000000 in
theorem shapedHas (B : Nat) (many : Int) (A0 : Option Addr) (c0 : Nat) (l0 : List (List Int)) (w : World) (c1 : w.cell? ⟨B, 0, none⟩ = some (.int .i64 many)) (hr0 : Kd.C (Kd.slice 3 (Kd.int .i64)) w A0 l0.length l0) (hc0 : l0.length ≤ c0) :
    Calls Try.prog 125 #[.slice A0 l0.length c0, .func (.func 126) #[] #[.pointer (some ⟨B, 0, none⟩)]] w fun e w' => e = .returned (.bool (decide (0 ≤ ixNe l0 many l0.length 0))) ∧ w = w' := by
  have HT := Aside0.mk (fun E hE => shapedIx B many E A0 c0 l0 w c1 hr0 hc0 hE)
  obtain ⟨E, hE⟩ : ∃ E, ixNe l0 many l0.length 0 = E := ⟨_, rfl⟩
  rw [hE]
  have HE := Aside0.mk hE
  clear hE hr0 hc0 c1
  go_enter Try.func125, Try.ntmps125
  go_wp2_with (go_at_call 143; refine (HT.out E HE.out).mono ?_; rintro e w' ⟨rfl, rfl⟩)
  all_goals
    go_ret
    first | exact ⟨rfl, rfl⟩ | exact ⟨by simp [*], rfl⟩
set_option maxHeartbeats 8000000 in
set_option maxRecDepth 100000 in
theorem curve_shaped.calls (A0 : Option Addr) (c0 : Nat) (l0 : List (List Int)) (a1 : Int) (a2 : Int) (r : Bool) (w : World) (hr0 : Kd.C (Kd.slice 3 (Kd.int .i64)) w A0 l0.length l0) (hc0 : l0.length ≤ c0) (h : curve_shaped.f l0 a1 a2 = some r) :
    Calls Try.prog 93 #[.slice A0 l0.length c0, .int .i64 a1, .int .i64 a2] w fun e w' => e = .returned (.bool r) ∧ Below w.heap.size w w' := by
  unfold curve_shaped.f at h
  by_cases hn : (l0.length : Int) = a1
  · rw [if_pos hn] at h
    obtain rfl := Option.some.inj h
    have hb : ((l0.length : Int) == a1) = true := by simp [hn]
    have HN : Aside0 ((!(decide (0 ≤ ixNe l0 a2 l0.length 0))) = decide (ixNe l0 a2 l0.length 0 < 0)) := ⟨by rw [← decide_not]; exact decide_eq_decide.2 (by omega)⟩
    have HT := Aside0.mk (fun B W c1 (hb : Below w.heap.size w W) => shapedHas B a2 A0 c0 l0 W c1 (Kd.C_below hr0 hb) hc0)
    have HB := Aside0.mk (fun o => qA (Below.refl w.heap.size w) o)
    rw [← HN.out]
    generalize decide (0 ≤ ixNe l0 a2 l0.length 0) = bb at *
    clear hn h hr0 hc0 HN
    go_enter Try.func93, Try.ntmps93
    go_wp2_with (go_at_call 125; refine (HT.out w.heap.size _ (by simp) (HB.out _)).mono ?_; rintro e w' ⟨rfl, rfl⟩)
    go_ret
    exact ⟨rfl, HB.out _⟩
  · rw [if_neg hn] at h
    obtain rfl := Option.some.inj h
    have hb : ((l0.length : Int) == a1) = false := by simp [hn]
    have HB := Aside0.mk (fun o => qA (Below.refl w.heap.size w) o)
    clear hn h hr0 hc0
    go_enter Try.func93, Try.ntmps93
    go_wp2_with fail
    go_ret
    exact ⟨rfl, HB.out _⟩

end Go.Proofs.Ytbomgfbfnkfamaa.PAll
end
section
namespace Go.Proofs.Ytbomgfbfnkfamaa.PAll
open Go.RowKit Go.Proofs.YtbomgfbfnkfamaaW.PrintWords Go.Proofs.YtbomgfbfnkfamaaW.PrintLast Go.Proofs.YtbomgfbfnkfamaaW.PrintMore
attribute [local go_sem] max2_int min2_int max_two min_two max_three min_three max_four min_four   -- for this text's walks alone
set_option linter.unusedVariables false
set_option linter.unusedSimpArgs false

/-! ### curve_Check: function 37 -/
def vc (t : List (List Int)) (i k : Nat) : Int := (t.getD i []).getD k 0
def cellE (a b a1 b1 a2 b2 : Int) (i k : Nat) : Int :=
  if a < 0 ∨ b < 0 ∨ 1000000 < a ∨ 1000000 < b then 2 else if b < a then 12 else
  if 0 < i ∧ (a < a1 ∨ b < b1) then 11 else if 0 < k ∧ (a < a2 ∨ b < b2) then 11 else 0
def cellErr (lo hi : List (List Int)) (i k : Nat) : Int := cellE (vc lo i k) (vc hi i k) (vc lo (i - 1) k) (vc hi (i - 1) k) (vc lo i (k - 1)) (vc hi i (k - 1)) i k
def rowErrN (lo hi : List (List Int)) (i : Nat) : Nat → Nat → Int
  | 0, _ => 0
  | d + 1, k => if cellErr lo hi i k = 0 then rowErrN lo hi i d (k + 1) else cellErr lo hi i k
def tabErrN (lo hi : List (List Int)) (m : Nat) : Nat → Nat → Int
  | 0, _ => 0
  | d + 1, i => if rowErrN lo hi i m 0 = 0 then tabErrN lo hi m d (i + 1) else rowErrN lo hi i m 0
def curve_Check.f (l0_0 : List Int) (l0_1 : List Int) (l0_2 : List (List Int)) (l0_3 : List (List Int)) : Option (Int) :=
  (curve_lines.f l0_0 l0_1).bind fun e => if e = 0 then (curve_shaped.f l0_2 (l0_0.length : Int) (l0_1.length : Int)).bind fun b => if b = true then (curve_shaped.f l0_3 (l0_0.length : Int) (l0_1.length : Int)).bind fun c => if c = true then some (tabErrN l0_2 l0_3 l0_1.length l0_0.length 0) else some 3 else some 3 else some e
theorem below_callC {w W W' : World} (h : Below w.heap.size w W) (k : Below W.heap.size W W') : Below w.heap.size w W' := below_then h h.size k
theorem shaped_len {t : List (List Int)} {n m : Int} (h : curve_shaped.f t n m = some true) : (t.length : Int) = n ∧ ∀ j, j < t.length → ((t.getD j []).length : Int) = m := by
  unfold curve_shaped.f at h
  split at h
  · rename_i hn
    have h2 := of_decide_eq_true (Option.some.inj h)
    exact ⟨hn, fun j hj => (ixNe_all t m t.length 0 (by omega)).1 h2 j (by omega) hj⟩
  · cases h
theorem rowFacts {w : World} {A : Option Addr} {n : Nat} {t : List (List Int)} (h : Kd.C (Kd.slice 3 (Kd.int .i64)) w A n t) (i k : Nat) (hi : i < n) (hk : k < (t.getD i []).length) :
    ∃ ad a c, A = some ad ∧ w.cell? (ad.add i) = some (.slice (some a) (t.getD i []).length c) ∧ (∀ j, j < (t.getD i []).length → w.cell? (a.add j) = some (.int .i64 (vc t i j))) ∧ (t.getD i []).length ≤ c := by
  obtain ⟨ad, Ar, cr, hA, hcell, hl, hC⟩ := @at_L1 _ _ _ _ h (i : Int) (by omega) (by omega)
  obtain ⟨a, hA2, _⟩ := Kd.at_int hC (k : Int) (by omega) (by show (k : Int) < ((t.getD i []).length : Int); omega)
  refine ⟨ad, a, cr, hA, by rw [← hA2]; exact hcell, fun j hj => ?_, hl⟩
  obtain ⟨a2, hA3, hc3⟩ := Kd.at_int hC (j : Int) (by omega) (by show (j : Int) < ((t.getD i []).length : Int); omega)
  obtain rfl : a = a2 := Option.some.inj (hA2.symm.trans hA3)
  exact hc3
theorem rowErr_bad {lo hi : List (List Int)} {i m k : Nat} (hk : k < m) {e : Int} (he : cellErr lo hi i k = e) (hne : e ≠ 0) : rowErrN lo hi i (m - k) k = e := by
  obtain ⟨d, hd⟩ : ∃ d, m - k = d + 1 := ⟨m - k - 1, by omega⟩
  rw [hd, rowErrN, if_neg (by rw [he]; exact hne), he]
theorem rowErr_next {lo hi : List (List Int)} {i m k : Nat} (hk : k < m) (he : cellErr lo hi i k = 0) : rowErrN lo hi i (m - k) k = rowErrN lo hi i (m - (k + 1)) (k + 1) := by
  obtain ⟨d, hd⟩ : ∃ d, m - k = d + 1 := ⟨m - k - 1, by omega⟩
  rw [hd, rowErrN, if_pos he, show m - (k + 1) = d by omega]
theorem tabErr_bad {lo hi : List (List Int)} {n m i : Nat} (hi' : i < n) {e : Int} (he : rowErrN lo hi i m 0 = e) (hne : e ≠ 0) : tabErrN lo hi m (n - i) i = e := by
  obtain ⟨d, hd⟩ : ∃ d, n - i = d + 1 := ⟨n - i - 1, by omega⟩
  rw [hd, tabErrN, if_neg (by rw [he]; exact hne), he]
theorem endErr {lo hi : List (List Int)} {n m i k : Nat} {E E2 e : Int} (hi' : i < n) (hk : k < m) (hE2 : rowErrN lo hi i m 0 = E2) (hs : rowErrN lo hi i (m - k) k = E2) (ht : tabErrN lo hi m (n - i) i = E) (he : cellErr lo hi i k = e) (hne : e ≠ 0) : Ending.returned (.int .i64 e) = .returned (.int .i64 E) := by
  rw [rowErr_bad hk he hne] at hs
  rw [tabErr_bad hi' (hE2.trans hs.symm) hne] at ht
  rw [ht]
theorem tabErr_next {lo hi : List (List Int)} {n m i : Nat} (hi' : i < n) (he : rowErrN lo hi i m 0 = 0) : tabErrN lo hi m (n - i) i = tabErrN lo hi m (n - (i + 1)) (i + 1) := by
  obtain ⟨d, hd⟩ : ∃ d, n - i = d + 1 := ⟨n - i - 1, by omega⟩
  rw [hd, tabErrN, if_pos he, show n - (i + 1) = d by omega]

set_option maxHeartbeats 8000000 in
set_option maxRecDepth 100000 in
theorem curve_Check.calls (A0_0 : Option Addr) (c0_0 : Nat) (l0_0 : List Int) (A0_1 : Option Addr) (c0_1 : Nat) (l0_1 : List Int) (A0_2 : Option Addr) (c0_2 : Nat) (l0_2 : List (List Int)) (A0_3 : Option Addr) (c0_3 : Nat) (l0_3 : List (List Int)) (r : Int) (w : World) (hr0_0 : Kd.C (Kd.int .i64) w A0_0 l0_0.length l0_0) (hc0_0 : l0_0.length ≤ c0_0) (hr0_1 : Kd.C (Kd.int .i64) w A0_1 l0_1.length l0_1) (hc0_1 : l0_1.length ≤ c0_1) (hr0_2 : Kd.C (Kd.slice 3 (Kd.int .i64)) w A0_2 l0_2.length l0_2) (hc0_2 : l0_2.length ≤ c0_2) (hr0_3 : Kd.C (Kd.slice 3 (Kd.int .i64)) w A0_3 l0_3.length l0_3) (hc0_3 : l0_3.length ≤ c0_3) (h : curve_Check.f l0_0 l0_1 l0_2 l0_3 = some r) :
    Calls Try.prog 37 #[.agg #[.slice A0_0 l0_0.length c0_0, .slice A0_1 l0_1.length c0_1, .slice A0_2 l0_2.length c0_2, .slice A0_3 l0_3.length c0_3]] w fun e w' => e = .returned (.int .i64 r) ∧ Below w.heap.size w w' := by
  unfold curve_Check.f at h
  have n0 : l0_0.length ≤ 9223372036854775807 := hr0_0.2.1
  have n1 : l0_1.length ≤ 9223372036854775807 := hr0_1.2.1
  have n2 : l0_2.length ≤ 9223372036854775807 := hr0_2.2.1
  have n3 : l0_3.length ≤ 9223372036854775807 := hr0_3.2.1
  obtain ⟨e, he, h⟩ := Option.bind_eq_some_iff.mp h
  have HL := Aside0.mk (fun W (hb : Below w.heap.size w W) => curve_lines.calls A0_0 c0_0 l0_0 A0_1 c0_1 l0_1 e W (Kd.C_below hr0_0 hb) hc0_0 (Kd.C_below hr0_1 hb) hc0_1 he)
  have HW := Aside0.mk (fun o => qA (Below.refl w.heap.size w) o)
  have HC2 := Aside0.mk hr0_2
  have HC3 := Aside0.mk hr0_3
  clear hr0_0 hr0_1 hr0_2 hr0_3 he
  by_cases z : e = 0
  · subst z
    rw [if_pos rfl] at h
    obtain ⟨b, hb, h⟩ := Option.bind_eq_some_iff.mp h
    have HS1 := Aside0.mk (fun W (hw : Below w.heap.size w W) => curve_shaped.calls A0_2 c0_2 l0_2 l0_0.length l0_1.length b W (Kd.C_below HC2.out hw) hc0_2 hb)
    cases b with
    | false =>
      rw [if_neg (by simp)] at h
      obtain rfl := Option.some.inj h
      clear hb h HC2 HC3
      go_enter Try.func37, Try.ntmps37
      go_wp2_with (first | (go_at_call 92; (refine (HL.out (w.alloc _) (HW.out _)).mono ?_); rintro e ww ⟨rfl, ⟨nq, rfl⟩⟩; (have HB1 := Aside0.mk (qN (HW.out (Obj.cells #[.slice A0_0 l0_0.length c0_0, .slice A0_1 l0_1.length c0_1, .slice A0_2 l0_2.length c0_2, .slice A0_3 l0_3.length c0_3] 25)) nq))) | (go_at_call 93; (refine (HS1.out _ HB1.out).mono ?_); rintro e ww ⟨rfl, hb⟩; (have HB2 := Aside0.mk (below_callC HB1.out hb)); (have kf0 := pw_cell_below hb (show World.cell? _ ⟨w.heap.size, 0, none⟩ = some (.slice A0_0 l0_0.length c0_0) by simp)); (have kf1 := pw_cell_below hb (show World.cell? _ ⟨w.heap.size, 1, none⟩ = some (.slice A0_1 l0_1.length c0_1) by simp)); (have kf2 := pw_cell_below hb (show World.cell? _ ⟨w.heap.size, 2, none⟩ = some (.slice A0_2 l0_2.length c0_2) by simp)); (have kf3 := pw_cell_below hb (show World.cell? _ ⟨w.heap.size, 3, none⟩ = some (.slice A0_3 l0_3.length c0_3) by simp)); clear hb HB1))
      go_ret
      exact ⟨rfl, HB2.out⟩
    | true =>
      rw [if_pos rfl] at h
      have hq2 := shaped_len hb
      clear hb
      obtain ⟨b, hb, h⟩ := Option.bind_eq_some_iff.mp h
      have HS2 := Aside0.mk (fun W (hw : Below w.heap.size w W) => curve_shaped.calls A0_3 c0_3 l0_3 l0_0.length l0_1.length b W (Kd.C_below HC3.out hw) hc0_3 hb)
      cases b with
      | false =>
        rw [if_neg (by simp)] at h
        obtain rfl := Option.some.inj h
        clear hb h HC2 HC3 hq2
        go_enter Try.func37, Try.ntmps37
        go_wp2_with (first | (go_at_call 92; (refine (HL.out (w.alloc _) (HW.out _)).mono ?_); rintro e ww ⟨rfl, ⟨nq, rfl⟩⟩; (have HB1 := Aside0.mk (qN (HW.out (Obj.cells #[.slice A0_0 l0_0.length c0_0, .slice A0_1 l0_1.length c0_1, .slice A0_2 l0_2.length c0_2, .slice A0_3 l0_3.length c0_3] 25)) nq))) | (go_at_call 93; (refine (HS1.out _ HB1.out).mono ?_); rintro e ww ⟨rfl, hb⟩; (have HB2 := Aside0.mk (below_callC HB1.out hb)); (have kf0 := pw_cell_below hb (show World.cell? _ ⟨w.heap.size, 0, none⟩ = some (.slice A0_0 l0_0.length c0_0) by simp)); (have kf1 := pw_cell_below hb (show World.cell? _ ⟨w.heap.size, 1, none⟩ = some (.slice A0_1 l0_1.length c0_1) by simp)); (have kf2 := pw_cell_below hb (show World.cell? _ ⟨w.heap.size, 2, none⟩ = some (.slice A0_2 l0_2.length c0_2) by simp)); (have kf3 := pw_cell_below hb (show World.cell? _ ⟨w.heap.size, 3, none⟩ = some (.slice A0_3 l0_3.length c0_3) by simp)); clear hb HB1) | (go_at_call 93; (refine (HS2.out _ HB2.out).mono ?_); rintro e ww ⟨rfl, hb⟩; (have HB3 := Aside0.mk (below_callC HB2.out hb)); (have kg0 := pw_cell_below hb kf0); (have kg1 := pw_cell_below hb kf1); (have kg2 := pw_cell_below hb kf2); (have kg3 := pw_cell_below hb kf3); clear hb HB2))
        go_ret
        exact ⟨rfl, HB3.out⟩
      | true =>
        rw [if_pos rfl] at h
        have hq3 := shaped_len hb
        obtain rfl := Option.some.inj h
        clear hb h
        have HQ2 : Aside0 (l0_2.length = l0_0.length ∧ ∀ j, j < l0_2.length → (l0_2.getD j []).length = l0_1.length) := ⟨by omega, fun j hj => by have := hq2.2 j hj; omega⟩
        have HQ3 : Aside0 (l0_3.length = l0_0.length ∧ ∀ j, j < l0_3.length → (l0_3.getD j []).length = l0_1.length) := ⟨by omega, fun j hj => by have := hq3.2 j hj; omega⟩
        clear hq2 hq3
        obtain ⟨E, hE⟩ : ∃ E, tabErrN l0_2 l0_3 l0_1.length l0_0.length 0 = E := ⟨_, rfl⟩
        rw [hE]
        have HE := Aside0.mk hE
        clear hE
        go_enter Try.func37, Try.ntmps37
        go_wp2_with (first | (go_at_call 92; (refine (HL.out (w.alloc _) (HW.out _)).mono ?_); rintro e ww ⟨rfl, ⟨nq, rfl⟩⟩; (have HB1 := Aside0.mk (qN (HW.out (Obj.cells #[.slice A0_0 l0_0.length c0_0, .slice A0_1 l0_1.length c0_1, .slice A0_2 l0_2.length c0_2, .slice A0_3 l0_3.length c0_3] 25)) nq))) | (go_at_call 93; (refine (HS1.out _ HB1.out).mono ?_); rintro e ww ⟨rfl, hb⟩; (have HB2 := Aside0.mk (below_callC HB1.out hb)); (have kf0 := pw_cell_below hb (show World.cell? _ ⟨w.heap.size, 0, none⟩ = some (.slice A0_0 l0_0.length c0_0) by simp)); (have kf1 := pw_cell_below hb (show World.cell? _ ⟨w.heap.size, 1, none⟩ = some (.slice A0_1 l0_1.length c0_1) by simp)); (have kf2 := pw_cell_below hb (show World.cell? _ ⟨w.heap.size, 2, none⟩ = some (.slice A0_2 l0_2.length c0_2) by simp)); (have kf3 := pw_cell_below hb (show World.cell? _ ⟨w.heap.size, 3, none⟩ = some (.slice A0_3 l0_3.length c0_3) by simp)); clear hb HB1) | (go_at_call 93; (refine (HS2.out _ HB2.out).mono ?_); rintro e ww ⟨rfl, hb⟩; (have HB3 := Aside0.mk (below_callC HB2.out hb)); (have kg0 := pw_cell_below hb kf0); (have kg1 := pw_cell_below hb kf1); (have kg2 := pw_cell_below hb kf2); (have kg3 := pw_cell_below hb kf3); clear hb HB2))
        have HK := Aside0.mk (And.intro kg0 (And.intro kg1 (And.intro kg2 kg3)))
        clear kf0 kf1 kf2 kf3 kg0 kg1 kg2 kg3 HS1 HS2 HL HW
        obtain ⟨w3, hw3⟩ : ∃ w3 : World, w3 = ww := ⟨_, rfl⟩
        subst hw3
        go_loopw [40] (fun i wr => ∃ i' : Nat, i' ≤ l0_0.length ∧ i = .int .i64 i' ∧ Aside0 (tabErrN l0_2 l0_3 l0_1.length (l0_0.length - i') i' = E) ∧ Aside0 (Below w3.heap.size w3 wr)) (fun i _ => l0_0.length - (intOf i).toNat)
        case atStart => exact ⟨0, Nat.zero_le _, rfl, ⟨HE.out⟩, ⟨Below.refl _ _⟩⟩
        case round =>
          obtain ⟨i, hi, rfl, hsi, hBi⟩ := hrel
          have g0 : wr.cell? ⟨w.heap.size, 0, none⟩ = some (.slice A0_0 l0_0.length c0_0) := pw_cell_below hBi.out HK.out.1
          have g1 : wr.cell? ⟨w.heap.size, 1, none⟩ = some (.slice A0_1 l0_1.length c0_1) := pw_cell_below hBi.out HK.out.2.1
          by_cases hil : i < l0_0.length
          · go_wp2_with fail
            obtain ⟨w4, hw4⟩ : ∃ w4 : World, w4 = wr := ⟨_, rfl⟩
            subst hw4
            clear g0 g1
            obtain ⟨E2, hE2⟩ : ∃ E2, rowErrN l0_2 l0_3 i l0_1.length 0 = E2 := ⟨_, rfl⟩
            have HE2 := Aside0.mk hE2
            clear hE2
            go_loopw [46] (fun j wr => ∃ k : Nat, k ≤ l0_1.length ∧ j = .int .i64 k ∧ Aside0 (rowErrN l0_2 l0_3 i (l0_1.length - k) k = E2) ∧ Aside0 (Below w3.heap.size w3 wr)) (fun j _ => l0_1.length - (intOf j).toNat)
            case atStart => exact ⟨0, Nat.zero_le _, rfl, ⟨HE2.out⟩, hBi⟩
            case round =>
              obtain ⟨k, hk, rfl, hsk, hBk⟩ := hrel
              by_cases hkl : k < l0_1.length
              · have hbw : Below w.heap.size w wr := below_callC HB3.out hBk.out
                have g2 : wr.cell? ⟨w.heap.size, 2, none⟩ = some (.slice A0_2 l0_2.length c0_2) := pw_cell_below hBk.out HK.out.2.2.1
                have g3 : wr.cell? ⟨w.heap.size, 3, none⟩ = some (.slice A0_3 l0_3.length c0_3) := pw_cell_below hBk.out HK.out.2.2.2
                have q2 := HQ2.out.2 i (by have := HQ2.out.1; omega)
                have q3 := HQ3.out.2 i (by have := HQ3.out.1; omega)
                obtain ⟨dl, al, cl, hAl, hrl, hel, hcl⟩ := rowFacts (Kd.C_below HC2.out hbw) i k (by have := HQ2.out.1; omega) (by omega)
                obtain ⟨dh, ah, ch, hAh, hrh, heh, hch⟩ := rowFacts (Kd.C_below HC3.out hbw) i k (by have := HQ3.out.1; omega) (by omega)
                rw [q2] at hrl hel hcl
                rw [q3] at hrh heh hch
                rw [hAl] at g2
                rw [hAh] at g3
                have m2 : i < l0_2.length := by have := HQ2.out.1; omega
                have m3 : i < l0_3.length := by have := HQ3.out.1; omega
                have e0 := hel k hkl
                have e1 := heh k hkl
                have HCE : Aside0 (cellErr l0_2 l0_3 i k = cellE (vc l0_2 i k) (vc l0_3 i k) (vc l0_2 (i - 1) k) (vc l0_3 (i - 1) k) (vc l0_2 i (k - 1)) (vc l0_3 i (k - 1)) i k) := ⟨rfl⟩
                have HEND := Aside0.mk (fun e => endErr (e := e) hil hkl HE2.out hsk.out hsi.out)
                have HNEXT : Aside0 (cellErr l0_2 l0_3 i k = 0 → rowErrN l0_2 l0_3 i (l0_1.length - (k + 1)) (k + 1) = E2) := ⟨fun z => (rowErr_next hkl z).symm.trans hsk.out⟩
                have HP : Aside0 (0 < i → ∃ al1 cl1 ah1 ch1, wr.cell? (dl.add (i - 1)) = some (.slice (some al1) l0_1.length cl1) ∧ wr.cell? (al1.add k) = some (.int .i64 (vc l0_2 (i - 1) k)) ∧ wr.cell? (dh.add (i - 1)) = some (.slice (some ah1) l0_1.length ch1) ∧ wr.cell? (ah1.add k) = some (.int .i64 (vc l0_3 (i - 1) k))) := ⟨fun hi0 => by
                  have q2 := HQ2.out.2 (i - 1) (by omega)
                  have q3 := HQ3.out.2 (i - 1) (by omega)
                  obtain ⟨dl1, al1, cl1, hAl1, hrl1, hel1, _⟩ := rowFacts (Kd.C_below HC2.out hbw) (i - 1) k (by omega) (by omega)
                  obtain ⟨dh1, ah1, ch1, hAh1, hrh1, heh1, _⟩ := rowFacts (Kd.C_below HC3.out hbw) (i - 1) k (by omega) (by omega)
                  obtain rfl := Option.some.inj (hAl.symm.trans hAl1)
                  obtain rfl := Option.some.inj (hAh.symm.trans hAh1)
                  rw [q2] at hrl1 hel1
                  rw [q3] at hrh1 heh1
                  exact ⟨al1, cl1, ah1, ch1, hrl1, hel1 k hkl, hrh1, heh1 k hkl⟩⟩
                have HD : Aside0 (0 < k → wr.cell? (al.add (k - 1)) = some (.int .i64 (vc l0_2 i (k - 1))) ∧ wr.cell? (ah.add (k - 1)) = some (.int .i64 (vc l0_3 i (k - 1)))) := ⟨fun _ => ⟨hel (k - 1) (by omega), heh (k - 1) (by omega)⟩⟩
                clear q2 q3 hel heh hsk HE HC2 HC3 hAl hAh
                generalize cellErr l0_2 l0_3 i k = CE at *
                generalize vc l0_2 i k = a at *
                generalize vc l0_3 i k = b at *
                generalize vc l0_2 (i - 1) k = a1 at *
                generalize vc l0_3 (i - 1) k = b1 at *
                generalize vc l0_2 i (k - 1) = a2 at *
                generalize vc l0_3 i (k - 1) = b2 at *
                by_cases c3 : b < a
                · have hmx : (if a < b then b else a) = a := by split <;> omega
                  have hmn : (if b < a then b else a) = b := by split <;> omega
                  by_cases c1 : b < 0
                  · skip
                    have HX : Aside0 (CE = 2) := ⟨by rw [HCE.out]; unfold cellE; repeat (first | rw [if_pos (by omega)] | rw [if_neg (by omega)])⟩
                    go_wp2_with fail
                    go_region_held3 (fun w' => w'.cell? ⟨w.heap.size, 2, none⟩ = some (.slice (some dl) l0_2.length c0_2) ∧ w'.cell? (dl.add i) = some (.slice (some al) l0_1.length cl) ∧ w'.cell? ⟨w.heap.size, 3, none⟩ = some (.slice (some dh) l0_3.length c0_3) ∧ w'.cell? (dh.add i) = some (.slice (some ah) l0_1.length ch) ∧ w'.cell? (al.add k) = some (.int .i64 a) ∧ w'.cell? (ah.add k) = some (.int .i64 b)) (refine ⟨pw_cell_below ?_ g2, pw_cell_below ?_ hrl, pw_cell_below ?_ g3, pw_cell_below ?_ hrh, pw_cell_below ?_ e0, pw_cell_below ?_ e1⟩ <;> (repeat (first | exact Below.refl _ _ | apply qA | apply qD | refine below_set ?_ (by simp)))) (first | (fail))
                    rename_i hHeld
                    clear hHeld
                    have hb6 : Below wr.heap.size wr (wr.alloc (Obj.cells #[.int .i64 a, .int .i64 b] 35)).drew := below_drew (qA (Below.refl _ _) _)
                    have r0 : (wr.alloc (Obj.cells #[.int .i64 a, .int .i64 b] 35)).drew.cell? ⟨wr.heap.size, 0, none⟩ = some (.int .i64 a) := by simp
                    have r1 : (wr.alloc (Obj.cells #[.int .i64 a, .int .i64 b] 35)).drew.cell? ⟨wr.heap.size, 1, none⟩ = some (.int .i64 b) := by simp
                    replace hbw := below_callC hbw hb6
                    replace g2 := pw_cell_below hb6 g2
                    replace hrl := pw_cell_below hb6 hrl
                    replace g3 := pw_cell_below hb6 g3
                    replace hrh := pw_cell_below hb6 hrh
                    replace e0 := pw_cell_below hb6 e0
                    replace e1 := pw_cell_below hb6 e1
                    replace hBk := Aside0.mk (below_callC hBk.out hb6)
                    clear hb6
                    generalize (wr.alloc (Obj.cells #[.int .i64 a, .int .i64 b] 35)).drew = w6 at *
                    go_wp2_with fail
                    go_ret
                    exact ⟨HEND.out _ HX.out (by decide), hbw⟩
                  · by_cases c2 : 1000000 < a
                    · skip
                      have HX : Aside0 (CE = 2) := ⟨by rw [HCE.out]; unfold cellE; repeat (first | rw [if_pos (by omega)] | rw [if_neg (by omega)])⟩
                      go_wp2_with fail
                      go_region_held3 (fun w' => w'.cell? ⟨w.heap.size, 2, none⟩ = some (.slice (some dl) l0_2.length c0_2) ∧ w'.cell? (dl.add i) = some (.slice (some al) l0_1.length cl) ∧ w'.cell? ⟨w.heap.size, 3, none⟩ = some (.slice (some dh) l0_3.length c0_3) ∧ w'.cell? (dh.add i) = some (.slice (some ah) l0_1.length ch) ∧ w'.cell? (al.add k) = some (.int .i64 a) ∧ w'.cell? (ah.add k) = some (.int .i64 b)) (refine ⟨pw_cell_below ?_ g2, pw_cell_below ?_ hrl, pw_cell_below ?_ g3, pw_cell_below ?_ hrh, pw_cell_below ?_ e0, pw_cell_below ?_ e1⟩ <;> (repeat (first | exact Below.refl _ _ | apply qA | apply qD | refine below_set ?_ (by simp)))) (first | (fail))
                      rename_i hHeld
                      clear hHeld
                      have hb6 : Below wr.heap.size wr (wr.alloc (Obj.cells #[.int .i64 a, .int .i64 b] 35)).drew := below_drew (qA (Below.refl _ _) _)
                      have r0 : (wr.alloc (Obj.cells #[.int .i64 a, .int .i64 b] 35)).drew.cell? ⟨wr.heap.size, 0, none⟩ = some (.int .i64 a) := by simp
                      have r1 : (wr.alloc (Obj.cells #[.int .i64 a, .int .i64 b] 35)).drew.cell? ⟨wr.heap.size, 1, none⟩ = some (.int .i64 b) := by simp
                      replace hbw := below_callC hbw hb6
                      replace g2 := pw_cell_below hb6 g2
                      replace hrl := pw_cell_below hb6 hrl
                      replace g3 := pw_cell_below hb6 g3
                      replace hrh := pw_cell_below hb6 hrh
                      replace e0 := pw_cell_below hb6 e0
                      replace e1 := pw_cell_below hb6 e1
                      replace hBk := Aside0.mk (below_callC hBk.out hb6)
                      clear hb6
                      generalize (wr.alloc (Obj.cells #[.int .i64 a, .int .i64 b] 35)).drew = w6 at *
                      go_wp2_with fail
                      go_ret
                      exact ⟨HEND.out _ HX.out (by decide), hbw⟩
                    · skip
                      have HX : Aside0 (CE = 12) := ⟨by rw [HCE.out]; unfold cellE; repeat (first | rw [if_pos (by omega)] | rw [if_neg (by omega)])⟩
                      go_wp2_with fail
                      go_region_held3 (fun w' => w'.cell? ⟨w.heap.size, 2, none⟩ = some (.slice (some dl) l0_2.length c0_2) ∧ w'.cell? (dl.add i) = some (.slice (some al) l0_1.length cl) ∧ w'.cell? ⟨w.heap.size, 3, none⟩ = some (.slice (some dh) l0_3.length c0_3) ∧ w'.cell? (dh.add i) = some (.slice (some ah) l0_1.length ch) ∧ w'.cell? (al.add k) = some (.int .i64 a) ∧ w'.cell? (ah.add k) = some (.int .i64 b)) (refine ⟨pw_cell_below ?_ g2, pw_cell_below ?_ hrl, pw_cell_below ?_ g3, pw_cell_below ?_ hrh, pw_cell_below ?_ e0, pw_cell_below ?_ e1⟩ <;> (repeat (first | exact Below.refl _ _ | apply qA | apply qD | refine below_set ?_ (by simp)))) (first | (fail))
                      rename_i hHeld
                      clear hHeld
                      have hb6 : Below wr.heap.size wr (wr.alloc (Obj.cells #[.int .i64 a, .int .i64 b] 35)).drew := below_drew (qA (Below.refl _ _) _)
                      have r0 : (wr.alloc (Obj.cells #[.int .i64 a, .int .i64 b] 35)).drew.cell? ⟨wr.heap.size, 0, none⟩ = some (.int .i64 a) := by simp
                      have r1 : (wr.alloc (Obj.cells #[.int .i64 a, .int .i64 b] 35)).drew.cell? ⟨wr.heap.size, 1, none⟩ = some (.int .i64 b) := by simp
                      replace hbw := below_callC hbw hb6
                      replace g2 := pw_cell_below hb6 g2
                      replace hrl := pw_cell_below hb6 hrl
                      replace g3 := pw_cell_below hb6 g3
                      replace hrh := pw_cell_below hb6 hrh
                      replace e0 := pw_cell_below hb6 e0
                      replace e1 := pw_cell_below hb6 e1
                      replace hBk := Aside0.mk (below_callC hBk.out hb6)
                      clear hb6
                      generalize (wr.alloc (Obj.cells #[.int .i64 a, .int .i64 b] 35)).drew = w6 at *
                      go_wp2_with fail
                      go_ret
                      exact ⟨HEND.out _ HX.out (by decide), hbw⟩
                · replace c3 : a ≤ b := by omega
                  have hmx : (if a < b then b else a) = b := by split <;> omega
                  have hmn : (if b < a then b else a) = a := by split <;> omega
                  by_cases c1 : a < 0
                  · skip
                    have HX : Aside0 (CE = 2) := ⟨by rw [HCE.out]; unfold cellE; repeat (first | rw [if_pos (by omega)] | rw [if_neg (by omega)])⟩
                    go_wp2_with fail
                    go_region_held3 (fun w' => w'.cell? ⟨w.heap.size, 2, none⟩ = some (.slice (some dl) l0_2.length c0_2) ∧ w'.cell? (dl.add i) = some (.slice (some al) l0_1.length cl) ∧ w'.cell? ⟨w.heap.size, 3, none⟩ = some (.slice (some dh) l0_3.length c0_3) ∧ w'.cell? (dh.add i) = some (.slice (some ah) l0_1.length ch) ∧ w'.cell? (al.add k) = some (.int .i64 a) ∧ w'.cell? (ah.add k) = some (.int .i64 b)) (refine ⟨pw_cell_below ?_ g2, pw_cell_below ?_ hrl, pw_cell_below ?_ g3, pw_cell_below ?_ hrh, pw_cell_below ?_ e0, pw_cell_below ?_ e1⟩ <;> (repeat (first | exact Below.refl _ _ | apply qA | apply qD | refine below_set ?_ (by simp)))) (first | (fail))
                    rename_i hHeld
                    clear hHeld
                    have hb6 : Below wr.heap.size wr (wr.alloc (Obj.cells #[.int .i64 a, .int .i64 b] 35)).drew := below_drew (qA (Below.refl _ _) _)
                    have r0 : (wr.alloc (Obj.cells #[.int .i64 a, .int .i64 b] 35)).drew.cell? ⟨wr.heap.size, 0, none⟩ = some (.int .i64 a) := by simp
                    have r1 : (wr.alloc (Obj.cells #[.int .i64 a, .int .i64 b] 35)).drew.cell? ⟨wr.heap.size, 1, none⟩ = some (.int .i64 b) := by simp
                    replace hbw := below_callC hbw hb6
                    replace g2 := pw_cell_below hb6 g2
                    replace hrl := pw_cell_below hb6 hrl
                    replace g3 := pw_cell_below hb6 g3
                    replace hrh := pw_cell_below hb6 hrh
                    replace e0 := pw_cell_below hb6 e0
                    replace e1 := pw_cell_below hb6 e1
                    replace hBk := Aside0.mk (below_callC hBk.out hb6)
                    clear hb6
                    generalize (wr.alloc (Obj.cells #[.int .i64 a, .int .i64 b] 35)).drew = w6 at *
                    go_wp2_with fail
                    go_ret
                    exact ⟨HEND.out _ HX.out (by decide), hbw⟩
                  · by_cases c2 : 1000000 < b
                    · skip
                      have HX : Aside0 (CE = 2) := ⟨by rw [HCE.out]; unfold cellE; repeat (first | rw [if_pos (by omega)] | rw [if_neg (by omega)])⟩
                      go_wp2_with fail
                      go_region_held3 (fun w' => w'.cell? ⟨w.heap.size, 2, none⟩ = some (.slice (some dl) l0_2.length c0_2) ∧ w'.cell? (dl.add i) = some (.slice (some al) l0_1.length cl) ∧ w'.cell? ⟨w.heap.size, 3, none⟩ = some (.slice (some dh) l0_3.length c0_3) ∧ w'.cell? (dh.add i) = some (.slice (some ah) l0_1.length ch) ∧ w'.cell? (al.add k) = some (.int .i64 a) ∧ w'.cell? (ah.add k) = some (.int .i64 b)) (refine ⟨pw_cell_below ?_ g2, pw_cell_below ?_ hrl, pw_cell_below ?_ g3, pw_cell_below ?_ hrh, pw_cell_below ?_ e0, pw_cell_below ?_ e1⟩ <;> (repeat (first | exact Below.refl _ _ | apply qA | apply qD | refine below_set ?_ (by simp)))) (first | (fail))
                      rename_i hHeld
                      clear hHeld
                      have hb6 : Below wr.heap.size wr (wr.alloc (Obj.cells #[.int .i64 a, .int .i64 b] 35)).drew := below_drew (qA (Below.refl _ _) _)
                      have r0 : (wr.alloc (Obj.cells #[.int .i64 a, .int .i64 b] 35)).drew.cell? ⟨wr.heap.size, 0, none⟩ = some (.int .i64 a) := by simp
                      have r1 : (wr.alloc (Obj.cells #[.int .i64 a, .int .i64 b] 35)).drew.cell? ⟨wr.heap.size, 1, none⟩ = some (.int .i64 b) := by simp
                      replace hbw := below_callC hbw hb6
                      replace g2 := pw_cell_below hb6 g2
                      replace hrl := pw_cell_below hb6 hrl
                      replace g3 := pw_cell_below hb6 g3
                      replace hrh := pw_cell_below hb6 hrh
                      replace e0 := pw_cell_below hb6 e0
                      replace e1 := pw_cell_below hb6 e1
                      replace hBk := Aside0.mk (below_callC hBk.out hb6)
                      clear hb6
                      generalize (wr.alloc (Obj.cells #[.int .i64 a, .int .i64 b] 35)).drew = w6 at *
                      go_wp2_with fail
                      go_ret
                      exact ⟨HEND.out _ HX.out (by decide), hbw⟩
                    · by_cases hi0 : 0 < i
                      · obtain ⟨al1, cl1, ah1, ch1, hrl1, f0, hrh1, f1⟩ := HP.out hi0
                        have hji : ((i : Int) - 1).toNat = i - 1 := by omega
                        have hwi : IntKind.i64.wrap ((i : Int) - 1) = (i : Int) - 1 := IntWalk.i64_in _ (by omega)
                        have hi1 : (0 : Int) ≤ (i : Int) - 1 := by omega
                        have hi2 : (i : Int) - 1 < l0_2.length := by omega
                        have hi3 : (i : Int) - 1 < l0_3.length := by omega
                        by_cases ci : a < a1
                        · skip
                          have HX : Aside0 (CE = 11) := ⟨by rw [HCE.out]; unfold cellE; repeat (first | rw [if_pos (by omega)] | rw [if_neg (by omega)])⟩
                          go_wp2_with fail
                          go_region_held3 (fun w' => w'.cell? ⟨w.heap.size, 2, none⟩ = some (.slice (some dl) l0_2.length c0_2) ∧ w'.cell? (dl.add i) = some (.slice (some al) l0_1.length cl) ∧ w'.cell? ⟨w.heap.size, 3, none⟩ = some (.slice (some dh) l0_3.length c0_3) ∧ w'.cell? (dh.add i) = some (.slice (some ah) l0_1.length ch) ∧ w'.cell? (al.add k) = some (.int .i64 a) ∧ w'.cell? (ah.add k) = some (.int .i64 b)) (refine ⟨pw_cell_below ?_ g2, pw_cell_below ?_ hrl, pw_cell_below ?_ g3, pw_cell_below ?_ hrh, pw_cell_below ?_ e0, pw_cell_below ?_ e1⟩ <;> (repeat (first | exact Below.refl _ _ | apply qA | apply qD | refine below_set ?_ (by simp)))) (first | (fail))
                          rename_i hHeld
                          clear hHeld
                          have hb6 : Below wr.heap.size wr (wr.alloc (Obj.cells #[.int .i64 a, .int .i64 b] 35)).drew := below_drew (qA (Below.refl _ _) _)
                          have r0 : (wr.alloc (Obj.cells #[.int .i64 a, .int .i64 b] 35)).drew.cell? ⟨wr.heap.size, 0, none⟩ = some (.int .i64 a) := by simp
                          have r1 : (wr.alloc (Obj.cells #[.int .i64 a, .int .i64 b] 35)).drew.cell? ⟨wr.heap.size, 1, none⟩ = some (.int .i64 b) := by simp
                          replace hbw := below_callC hbw hb6
                          replace g2 := pw_cell_below hb6 g2
                          replace hrl := pw_cell_below hb6 hrl
                          replace g3 := pw_cell_below hb6 g3
                          replace hrh := pw_cell_below hb6 hrh
                          replace e0 := pw_cell_below hb6 e0
                          replace e1 := pw_cell_below hb6 e1
                          replace hrl1 := pw_cell_below hb6 hrl1
                          replace hrh1 := pw_cell_below hb6 hrh1
                          replace f0 := pw_cell_below hb6 f0
                          replace f1 := pw_cell_below hb6 f1
                          replace hBk := Aside0.mk (below_callC hBk.out hb6)
                          clear hb6
                          generalize (wr.alloc (Obj.cells #[.int .i64 a, .int .i64 b] 35)).drew = w6 at *
                          go_wp2_with fail
                          go_quiet (fail)
                          go_wp2_with fail
                          go_ret
                          exact ⟨HEND.out _ HX.out (by decide), qN hbw _⟩
                        · have hdci : decide (a < a1) = false := decide_eq_false ci
                          by_cases ci2 : b < b1
                          · skip
                            have HX : Aside0 (CE = 11) := ⟨by rw [HCE.out]; unfold cellE; repeat (first | rw [if_pos (by omega)] | rw [if_neg (by omega)])⟩
                            go_wp2_with fail
                            go_region_held3 (fun w' => w'.cell? ⟨w.heap.size, 2, none⟩ = some (.slice (some dl) l0_2.length c0_2) ∧ w'.cell? (dl.add i) = some (.slice (some al) l0_1.length cl) ∧ w'.cell? ⟨w.heap.size, 3, none⟩ = some (.slice (some dh) l0_3.length c0_3) ∧ w'.cell? (dh.add i) = some (.slice (some ah) l0_1.length ch) ∧ w'.cell? (al.add k) = some (.int .i64 a) ∧ w'.cell? (ah.add k) = some (.int .i64 b)) (refine ⟨pw_cell_below ?_ g2, pw_cell_below ?_ hrl, pw_cell_below ?_ g3, pw_cell_below ?_ hrh, pw_cell_below ?_ e0, pw_cell_below ?_ e1⟩ <;> (repeat (first | exact Below.refl _ _ | apply qA | apply qD | refine below_set ?_ (by simp)))) (first | (fail))
                            rename_i hHeld
                            clear hHeld
                            have hb6 : Below wr.heap.size wr (wr.alloc (Obj.cells #[.int .i64 a, .int .i64 b] 35)).drew := below_drew (qA (Below.refl _ _) _)
                            have r0 : (wr.alloc (Obj.cells #[.int .i64 a, .int .i64 b] 35)).drew.cell? ⟨wr.heap.size, 0, none⟩ = some (.int .i64 a) := by simp
                            have r1 : (wr.alloc (Obj.cells #[.int .i64 a, .int .i64 b] 35)).drew.cell? ⟨wr.heap.size, 1, none⟩ = some (.int .i64 b) := by simp
                            replace hbw := below_callC hbw hb6
                            replace g2 := pw_cell_below hb6 g2
                            replace hrl := pw_cell_below hb6 hrl
                            replace g3 := pw_cell_below hb6 g3
                            replace hrh := pw_cell_below hb6 hrh
                            replace e0 := pw_cell_below hb6 e0
                            replace e1 := pw_cell_below hb6 e1
                            replace hrl1 := pw_cell_below hb6 hrl1
                            replace hrh1 := pw_cell_below hb6 hrh1
                            replace f0 := pw_cell_below hb6 f0
                            replace f1 := pw_cell_below hb6 f1
                            replace hBk := Aside0.mk (below_callC hBk.out hb6)
                            clear hb6
                            generalize (wr.alloc (Obj.cells #[.int .i64 a, .int .i64 b] 35)).drew = w6 at *
                            go_wp2_with fail
                            go_quiet (fail)
                            go_wp2_with fail
                            go_ret
                            exact ⟨HEND.out _ HX.out (by decide), qN hbw _⟩
                          · skip
                            by_cases hk0 : 0 < k
                            · obtain ⟨d0, d1⟩ := HD.out hk0
                              have hjk : ((k : Int) - 1).toNat = k - 1 := by omega
                              have hwk : IntKind.i64.wrap ((k : Int) - 1) = (k : Int) - 1 := IntWalk.i64_in _ (by omega)
                              have hk1 : (0 : Int) ≤ (k : Int) - 1 := by omega
                              have hk2 : (k : Int) - 1 < l0_1.length := by omega
                              by_cases ck : a < a2
                              · skip
                                have HX : Aside0 (CE = 11) := ⟨by rw [HCE.out]; unfold cellE; repeat (first | rw [if_pos (by omega)] | rw [if_neg (by omega)])⟩
                                go_wp2_with fail
                                go_region_held3 (fun w' => w'.cell? ⟨w.heap.size, 2, none⟩ = some (.slice (some dl) l0_2.length c0_2) ∧ w'.cell? (dl.add i) = some (.slice (some al) l0_1.length cl) ∧ w'.cell? ⟨w.heap.size, 3, none⟩ = some (.slice (some dh) l0_3.length c0_3) ∧ w'.cell? (dh.add i) = some (.slice (some ah) l0_1.length ch) ∧ w'.cell? (al.add k) = some (.int .i64 a) ∧ w'.cell? (ah.add k) = some (.int .i64 b)) (refine ⟨pw_cell_below ?_ g2, pw_cell_below ?_ hrl, pw_cell_below ?_ g3, pw_cell_below ?_ hrh, pw_cell_below ?_ e0, pw_cell_below ?_ e1⟩ <;> (repeat (first | exact Below.refl _ _ | apply qA | apply qD | refine below_set ?_ (by simp)))) (first | (fail))
                                rename_i hHeld
                                clear hHeld
                                have hb6 : Below wr.heap.size wr (wr.alloc (Obj.cells #[.int .i64 a, .int .i64 b] 35)).drew := below_drew (qA (Below.refl _ _) _)
                                have r0 : (wr.alloc (Obj.cells #[.int .i64 a, .int .i64 b] 35)).drew.cell? ⟨wr.heap.size, 0, none⟩ = some (.int .i64 a) := by simp
                                have r1 : (wr.alloc (Obj.cells #[.int .i64 a, .int .i64 b] 35)).drew.cell? ⟨wr.heap.size, 1, none⟩ = some (.int .i64 b) := by simp
                                replace hbw := below_callC hbw hb6
                                replace g2 := pw_cell_below hb6 g2
                                replace hrl := pw_cell_below hb6 hrl
                                replace g3 := pw_cell_below hb6 g3
                                replace hrh := pw_cell_below hb6 hrh
                                replace e0 := pw_cell_below hb6 e0
                                replace e1 := pw_cell_below hb6 e1
                                replace hrl1 := pw_cell_below hb6 hrl1
                                replace hrh1 := pw_cell_below hb6 hrh1
                                replace f0 := pw_cell_below hb6 f0
                                replace f1 := pw_cell_below hb6 f1
                                replace d0 := pw_cell_below hb6 d0
                                replace d1 := pw_cell_below hb6 d1
                                replace hBk := Aside0.mk (below_callC hBk.out hb6)
                                clear hb6
                                generalize (wr.alloc (Obj.cells #[.int .i64 a, .int .i64 b] 35)).drew = w6 at *
                                go_wp2_with fail
                                go_quiet (fail)
                                go_wp2_with fail
                                go_quiet (fail)
                                go_wp2_with fail
                                go_ret
                                exact ⟨HEND.out _ HX.out (by decide), qN (qN hbw _) _⟩
                              · have hdck : decide (a < a2) = false := decide_eq_false ck
                                by_cases ck2 : b < b2
                                · skip
                                  have HX : Aside0 (CE = 11) := ⟨by rw [HCE.out]; unfold cellE; repeat (first | rw [if_pos (by omega)] | rw [if_neg (by omega)])⟩
                                  go_wp2_with fail
                                  go_region_held3 (fun w' => w'.cell? ⟨w.heap.size, 2, none⟩ = some (.slice (some dl) l0_2.length c0_2) ∧ w'.cell? (dl.add i) = some (.slice (some al) l0_1.length cl) ∧ w'.cell? ⟨w.heap.size, 3, none⟩ = some (.slice (some dh) l0_3.length c0_3) ∧ w'.cell? (dh.add i) = some (.slice (some ah) l0_1.length ch) ∧ w'.cell? (al.add k) = some (.int .i64 a) ∧ w'.cell? (ah.add k) = some (.int .i64 b)) (refine ⟨pw_cell_below ?_ g2, pw_cell_below ?_ hrl, pw_cell_below ?_ g3, pw_cell_below ?_ hrh, pw_cell_below ?_ e0, pw_cell_below ?_ e1⟩ <;> (repeat (first | exact Below.refl _ _ | apply qA | apply qD | refine below_set ?_ (by simp)))) (first | (fail))
                                  rename_i hHeld
                                  clear hHeld
                                  have hb6 : Below wr.heap.size wr (wr.alloc (Obj.cells #[.int .i64 a, .int .i64 b] 35)).drew := below_drew (qA (Below.refl _ _) _)
                                  have r0 : (wr.alloc (Obj.cells #[.int .i64 a, .int .i64 b] 35)).drew.cell? ⟨wr.heap.size, 0, none⟩ = some (.int .i64 a) := by simp
                                  have r1 : (wr.alloc (Obj.cells #[.int .i64 a, .int .i64 b] 35)).drew.cell? ⟨wr.heap.size, 1, none⟩ = some (.int .i64 b) := by simp
                                  replace hbw := below_callC hbw hb6
                                  replace g2 := pw_cell_below hb6 g2
                                  replace hrl := pw_cell_below hb6 hrl
                                  replace g3 := pw_cell_below hb6 g3
                                  replace hrh := pw_cell_below hb6 hrh
                                  replace e0 := pw_cell_below hb6 e0
                                  replace e1 := pw_cell_below hb6 e1
                                  replace hrl1 := pw_cell_below hb6 hrl1
                                  replace hrh1 := pw_cell_below hb6 hrh1
                                  replace f0 := pw_cell_below hb6 f0
                                  replace f1 := pw_cell_below hb6 f1
                                  replace d0 := pw_cell_below hb6 d0
                                  replace d1 := pw_cell_below hb6 d1
                                  replace hBk := Aside0.mk (below_callC hBk.out hb6)
                                  clear hb6
                                  generalize (wr.alloc (Obj.cells #[.int .i64 a, .int .i64 b] 35)).drew = w6 at *
                                  go_wp2_with fail
                                  go_quiet (fail)
                                  go_wp2_with fail
                                  go_quiet (fail)
                                  go_wp2_with fail
                                  go_ret
                                  exact ⟨HEND.out _ HX.out (by decide), qN (qN hbw _) _⟩
                                · skip
                                  have HX : Aside0 (CE = 0) := ⟨by rw [HCE.out]; unfold cellE; repeat (first | rw [if_pos (by omega)] | rw [if_neg (by omega)])⟩
                                  go_wp2_with fail
                                  go_region_held3 (fun w' => w'.cell? ⟨w.heap.size, 2, none⟩ = some (.slice (some dl) l0_2.length c0_2) ∧ w'.cell? (dl.add i) = some (.slice (some al) l0_1.length cl) ∧ w'.cell? ⟨w.heap.size, 3, none⟩ = some (.slice (some dh) l0_3.length c0_3) ∧ w'.cell? (dh.add i) = some (.slice (some ah) l0_1.length ch) ∧ w'.cell? (al.add k) = some (.int .i64 a) ∧ w'.cell? (ah.add k) = some (.int .i64 b)) (refine ⟨pw_cell_below ?_ g2, pw_cell_below ?_ hrl, pw_cell_below ?_ g3, pw_cell_below ?_ hrh, pw_cell_below ?_ e0, pw_cell_below ?_ e1⟩ <;> (repeat (first | exact Below.refl _ _ | apply qA | apply qD | refine below_set ?_ (by simp)))) (first | (fail))
                                  rename_i hHeld
                                  clear hHeld
                                  have hb6 : Below wr.heap.size wr (wr.alloc (Obj.cells #[.int .i64 a, .int .i64 b] 35)).drew := below_drew (qA (Below.refl _ _) _)
                                  have r0 : (wr.alloc (Obj.cells #[.int .i64 a, .int .i64 b] 35)).drew.cell? ⟨wr.heap.size, 0, none⟩ = some (.int .i64 a) := by simp
                                  have r1 : (wr.alloc (Obj.cells #[.int .i64 a, .int .i64 b] 35)).drew.cell? ⟨wr.heap.size, 1, none⟩ = some (.int .i64 b) := by simp
                                  replace hbw := below_callC hbw hb6
                                  replace g2 := pw_cell_below hb6 g2
                                  replace hrl := pw_cell_below hb6 hrl
                                  replace g3 := pw_cell_below hb6 g3
                                  replace hrh := pw_cell_below hb6 hrh
                                  replace e0 := pw_cell_below hb6 e0
                                  replace e1 := pw_cell_below hb6 e1
                                  replace hrl1 := pw_cell_below hb6 hrl1
                                  replace hrh1 := pw_cell_below hb6 hrh1
                                  replace f0 := pw_cell_below hb6 f0
                                  replace f1 := pw_cell_below hb6 f1
                                  replace d0 := pw_cell_below hb6 d0
                                  replace d1 := pw_cell_below hb6 d1
                                  replace hBk := Aside0.mk (below_callC hBk.out hb6)
                                  clear hb6
                                  generalize (wr.alloc (Obj.cells #[.int .i64 a, .int .i64 b] 35)).drew = w6 at *
                                  go_wp2_with fail
                                  go_quiet (fail)
                                  go_wp2_with fail
                                  go_quiet (fail)
                                  go_wp2_with fail
                                  go_roundw
                                  case rel => exact ⟨k + 1, by omega, by go_num, ⟨HNEXT.out HX.out⟩, ⟨by repeat (first | exact hBk.out | apply qD | apply qN)⟩⟩
                                  case measure => simp [intOf]; omega
                            · have zk : k ≤ 0 := by omega
                              have HX : Aside0 (CE = 0) := ⟨by rw [HCE.out]; unfold cellE; repeat (first | rw [if_pos (by omega)] | rw [if_neg (by omega)])⟩
                              go_wp2_with fail
                              go_region_held3 (fun w' => w'.cell? ⟨w.heap.size, 2, none⟩ = some (.slice (some dl) l0_2.length c0_2) ∧ w'.cell? (dl.add i) = some (.slice (some al) l0_1.length cl) ∧ w'.cell? ⟨w.heap.size, 3, none⟩ = some (.slice (some dh) l0_3.length c0_3) ∧ w'.cell? (dh.add i) = some (.slice (some ah) l0_1.length ch) ∧ w'.cell? (al.add k) = some (.int .i64 a) ∧ w'.cell? (ah.add k) = some (.int .i64 b)) (refine ⟨pw_cell_below ?_ g2, pw_cell_below ?_ hrl, pw_cell_below ?_ g3, pw_cell_below ?_ hrh, pw_cell_below ?_ e0, pw_cell_below ?_ e1⟩ <;> (repeat (first | exact Below.refl _ _ | apply qA | apply qD | refine below_set ?_ (by simp)))) (first | (fail))
                              rename_i hHeld
                              clear hHeld
                              have hb6 : Below wr.heap.size wr (wr.alloc (Obj.cells #[.int .i64 a, .int .i64 b] 35)).drew := below_drew (qA (Below.refl _ _) _)
                              have r0 : (wr.alloc (Obj.cells #[.int .i64 a, .int .i64 b] 35)).drew.cell? ⟨wr.heap.size, 0, none⟩ = some (.int .i64 a) := by simp
                              have r1 : (wr.alloc (Obj.cells #[.int .i64 a, .int .i64 b] 35)).drew.cell? ⟨wr.heap.size, 1, none⟩ = some (.int .i64 b) := by simp
                              replace hbw := below_callC hbw hb6
                              replace g2 := pw_cell_below hb6 g2
                              replace hrl := pw_cell_below hb6 hrl
                              replace g3 := pw_cell_below hb6 g3
                              replace hrh := pw_cell_below hb6 hrh
                              replace e0 := pw_cell_below hb6 e0
                              replace e1 := pw_cell_below hb6 e1
                              replace hrl1 := pw_cell_below hb6 hrl1
                              replace hrh1 := pw_cell_below hb6 hrh1
                              replace f0 := pw_cell_below hb6 f0
                              replace f1 := pw_cell_below hb6 f1
                              replace hBk := Aside0.mk (below_callC hBk.out hb6)
                              clear hb6
                              generalize (wr.alloc (Obj.cells #[.int .i64 a, .int .i64 b] 35)).drew = w6 at *
                              go_wp2_with fail
                              go_quiet (fail)
                              go_wp2_with fail
                              go_quiet (fail)
                              go_wp2_with fail
                              go_roundw
                              case rel => exact ⟨k + 1, by omega, by go_num, ⟨HNEXT.out HX.out⟩, ⟨by repeat (first | exact hBk.out | apply qD | apply qN)⟩⟩
                              case measure => simp [intOf]; omega
                      · have zi : i ≤ 0 := by omega
                        by_cases hk0 : 0 < k
                        · obtain ⟨d0, d1⟩ := HD.out hk0
                          have hjk : ((k : Int) - 1).toNat = k - 1 := by omega
                          have hwk : IntKind.i64.wrap ((k : Int) - 1) = (k : Int) - 1 := IntWalk.i64_in _ (by omega)
                          have hk1 : (0 : Int) ≤ (k : Int) - 1 := by omega
                          have hk2 : (k : Int) - 1 < l0_1.length := by omega
                          by_cases ck : a < a2
                          · skip
                            have HX : Aside0 (CE = 11) := ⟨by rw [HCE.out]; unfold cellE; repeat (first | rw [if_pos (by omega)] | rw [if_neg (by omega)])⟩
                            go_wp2_with fail
                            go_region_held3 (fun w' => w'.cell? ⟨w.heap.size, 2, none⟩ = some (.slice (some dl) l0_2.length c0_2) ∧ w'.cell? (dl.add i) = some (.slice (some al) l0_1.length cl) ∧ w'.cell? ⟨w.heap.size, 3, none⟩ = some (.slice (some dh) l0_3.length c0_3) ∧ w'.cell? (dh.add i) = some (.slice (some ah) l0_1.length ch) ∧ w'.cell? (al.add k) = some (.int .i64 a) ∧ w'.cell? (ah.add k) = some (.int .i64 b)) (refine ⟨pw_cell_below ?_ g2, pw_cell_below ?_ hrl, pw_cell_below ?_ g3, pw_cell_below ?_ hrh, pw_cell_below ?_ e0, pw_cell_below ?_ e1⟩ <;> (repeat (first | exact Below.refl _ _ | apply qA | apply qD | refine below_set ?_ (by simp)))) (first | (fail))
                            rename_i hHeld
                            clear hHeld
                            have hb6 : Below wr.heap.size wr (wr.alloc (Obj.cells #[.int .i64 a, .int .i64 b] 35)).drew := below_drew (qA (Below.refl _ _) _)
                            have r0 : (wr.alloc (Obj.cells #[.int .i64 a, .int .i64 b] 35)).drew.cell? ⟨wr.heap.size, 0, none⟩ = some (.int .i64 a) := by simp
                            have r1 : (wr.alloc (Obj.cells #[.int .i64 a, .int .i64 b] 35)).drew.cell? ⟨wr.heap.size, 1, none⟩ = some (.int .i64 b) := by simp
                            replace hbw := below_callC hbw hb6
                            replace g2 := pw_cell_below hb6 g2
                            replace hrl := pw_cell_below hb6 hrl
                            replace g3 := pw_cell_below hb6 g3
                            replace hrh := pw_cell_below hb6 hrh
                            replace e0 := pw_cell_below hb6 e0
                            replace e1 := pw_cell_below hb6 e1
                            replace d0 := pw_cell_below hb6 d0
                            replace d1 := pw_cell_below hb6 d1
                            replace hBk := Aside0.mk (below_callC hBk.out hb6)
                            clear hb6
                            generalize (wr.alloc (Obj.cells #[.int .i64 a, .int .i64 b] 35)).drew = w6 at *
                            go_wp2_with fail
                            go_quiet (fail)
                            go_wp2_with fail
                            go_quiet (fail)
                            go_wp2_with fail
                            go_ret
                            exact ⟨HEND.out _ HX.out (by decide), qN (qN hbw _) _⟩
                          · have hdck : decide (a < a2) = false := decide_eq_false ck
                            by_cases ck2 : b < b2
                            · skip
                              have HX : Aside0 (CE = 11) := ⟨by rw [HCE.out]; unfold cellE; repeat (first | rw [if_pos (by omega)] | rw [if_neg (by omega)])⟩
                              go_wp2_with fail
                              go_region_held3 (fun w' => w'.cell? ⟨w.heap.size, 2, none⟩ = some (.slice (some dl) l0_2.length c0_2) ∧ w'.cell? (dl.add i) = some (.slice (some al) l0_1.length cl) ∧ w'.cell? ⟨w.heap.size, 3, none⟩ = some (.slice (some dh) l0_3.length c0_3) ∧ w'.cell? (dh.add i) = some (.slice (some ah) l0_1.length ch) ∧ w'.cell? (al.add k) = some (.int .i64 a) ∧ w'.cell? (ah.add k) = some (.int .i64 b)) (refine ⟨pw_cell_below ?_ g2, pw_cell_below ?_ hrl, pw_cell_below ?_ g3, pw_cell_below ?_ hrh, pw_cell_below ?_ e0, pw_cell_below ?_ e1⟩ <;> (repeat (first | exact Below.refl _ _ | apply qA | apply qD | refine below_set ?_ (by simp)))) (first | (fail))
                              rename_i hHeld
                              clear hHeld
                              have hb6 : Below wr.heap.size wr (wr.alloc (Obj.cells #[.int .i64 a, .int .i64 b] 35)).drew := below_drew (qA (Below.refl _ _) _)
                              have r0 : (wr.alloc (Obj.cells #[.int .i64 a, .int .i64 b] 35)).drew.cell? ⟨wr.heap.size, 0, none⟩ = some (.int .i64 a) := by simp
                              have r1 : (wr.alloc (Obj.cells #[.int .i64 a, .int .i64 b] 35)).drew.cell? ⟨wr.heap.size, 1, none⟩ = some (.int .i64 b) := by simp
                              replace hbw := below_callC hbw hb6
                              replace g2 := pw_cell_below hb6 g2
                              replace hrl := pw_cell_below hb6 hrl
                              replace g3 := pw_cell_below hb6 g3
                              replace hrh := pw_cell_below hb6 hrh
                              replace e0 := pw_cell_below hb6 e0
                              replace e1 := pw_cell_below hb6 e1
                              replace d0 := pw_cell_below hb6 d0
                              replace d1 := pw_cell_below hb6 d1
                              replace hBk := Aside0.mk (below_callC hBk.out hb6)
                              clear hb6
                              generalize (wr.alloc (Obj.cells #[.int .i64 a, .int .i64 b] 35)).drew = w6 at *
                              go_wp2_with fail
                              go_quiet (fail)
                              go_wp2_with fail
                              go_quiet (fail)
                              go_wp2_with fail
                              go_ret
                              exact ⟨HEND.out _ HX.out (by decide), qN (qN hbw _) _⟩
                            · skip
                              have HX : Aside0 (CE = 0) := ⟨by rw [HCE.out]; unfold cellE; repeat (first | rw [if_pos (by omega)] | rw [if_neg (by omega)])⟩
                              go_wp2_with fail
                              go_region_held3 (fun w' => w'.cell? ⟨w.heap.size, 2, none⟩ = some (.slice (some dl) l0_2.length c0_2) ∧ w'.cell? (dl.add i) = some (.slice (some al) l0_1.length cl) ∧ w'.cell? ⟨w.heap.size, 3, none⟩ = some (.slice (some dh) l0_3.length c0_3) ∧ w'.cell? (dh.add i) = some (.slice (some ah) l0_1.length ch) ∧ w'.cell? (al.add k) = some (.int .i64 a) ∧ w'.cell? (ah.add k) = some (.int .i64 b)) (refine ⟨pw_cell_below ?_ g2, pw_cell_below ?_ hrl, pw_cell_below ?_ g3, pw_cell_below ?_ hrh, pw_cell_below ?_ e0, pw_cell_below ?_ e1⟩ <;> (repeat (first | exact Below.refl _ _ | apply qA | apply qD | refine below_set ?_ (by simp)))) (first | (fail))
                              rename_i hHeld
                              clear hHeld
                              have hb6 : Below wr.heap.size wr (wr.alloc (Obj.cells #[.int .i64 a, .int .i64 b] 35)).drew := below_drew (qA (Below.refl _ _) _)
                              have r0 : (wr.alloc (Obj.cells #[.int .i64 a, .int .i64 b] 35)).drew.cell? ⟨wr.heap.size, 0, none⟩ = some (.int .i64 a) := by simp
                              have r1 : (wr.alloc (Obj.cells #[.int .i64 a, .int .i64 b] 35)).drew.cell? ⟨wr.heap.size, 1, none⟩ = some (.int .i64 b) := by simp
                              replace hbw := below_callC hbw hb6
                              replace g2 := pw_cell_below hb6 g2
                              replace hrl := pw_cell_below hb6 hrl
                              replace g3 := pw_cell_below hb6 g3
                              replace hrh := pw_cell_below hb6 hrh
                              replace e0 := pw_cell_below hb6 e0
                              replace e1 := pw_cell_below hb6 e1
                              replace d0 := pw_cell_below hb6 d0
                              replace d1 := pw_cell_below hb6 d1
                              replace hBk := Aside0.mk (below_callC hBk.out hb6)
                              clear hb6
                              generalize (wr.alloc (Obj.cells #[.int .i64 a, .int .i64 b] 35)).drew = w6 at *
                              go_wp2_with fail
                              go_quiet (fail)
                              go_wp2_with fail
                              go_quiet (fail)
                              go_wp2_with fail
                              go_roundw
                              case rel => exact ⟨k + 1, by omega, by go_num, ⟨HNEXT.out HX.out⟩, ⟨by repeat (first | exact hBk.out | apply qD | apply qN)⟩⟩
                              case measure => simp [intOf]; omega
                        · have zk : k ≤ 0 := by omega
                          have HX : Aside0 (CE = 0) := ⟨by rw [HCE.out]; unfold cellE; repeat (first | rw [if_pos (by omega)] | rw [if_neg (by omega)])⟩
                          go_wp2_with fail
                          go_region_held3 (fun w' => w'.cell? ⟨w.heap.size, 2, none⟩ = some (.slice (some dl) l0_2.length c0_2) ∧ w'.cell? (dl.add i) = some (.slice (some al) l0_1.length cl) ∧ w'.cell? ⟨w.heap.size, 3, none⟩ = some (.slice (some dh) l0_3.length c0_3) ∧ w'.cell? (dh.add i) = some (.slice (some ah) l0_1.length ch) ∧ w'.cell? (al.add k) = some (.int .i64 a) ∧ w'.cell? (ah.add k) = some (.int .i64 b)) (refine ⟨pw_cell_below ?_ g2, pw_cell_below ?_ hrl, pw_cell_below ?_ g3, pw_cell_below ?_ hrh, pw_cell_below ?_ e0, pw_cell_below ?_ e1⟩ <;> (repeat (first | exact Below.refl _ _ | apply qA | apply qD | refine below_set ?_ (by simp)))) (first | (fail))
                          rename_i hHeld
                          clear hHeld
                          have hb6 : Below wr.heap.size wr (wr.alloc (Obj.cells #[.int .i64 a, .int .i64 b] 35)).drew := below_drew (qA (Below.refl _ _) _)
                          have r0 : (wr.alloc (Obj.cells #[.int .i64 a, .int .i64 b] 35)).drew.cell? ⟨wr.heap.size, 0, none⟩ = some (.int .i64 a) := by simp
                          have r1 : (wr.alloc (Obj.cells #[.int .i64 a, .int .i64 b] 35)).drew.cell? ⟨wr.heap.size, 1, none⟩ = some (.int .i64 b) := by simp
                          replace hbw := below_callC hbw hb6
                          replace g2 := pw_cell_below hb6 g2
                          replace hrl := pw_cell_below hb6 hrl
                          replace g3 := pw_cell_below hb6 g3
                          replace hrh := pw_cell_below hb6 hrh
                          replace e0 := pw_cell_below hb6 e0
                          replace e1 := pw_cell_below hb6 e1
                          replace hBk := Aside0.mk (below_callC hBk.out hb6)
                          clear hb6
                          generalize (wr.alloc (Obj.cells #[.int .i64 a, .int .i64 b] 35)).drew = w6 at *
                          go_wp2_with fail
                          go_quiet (fail)
                          go_wp2_with fail
                          go_quiet (fail)
                          go_wp2_with fail
                          go_roundw
                          case rel => exact ⟨k + 1, by omega, by go_num, ⟨HNEXT.out HX.out⟩, ⟨by repeat (first | exact hBk.out | apply qD | apply qN)⟩⟩
                          case measure => simp [intOf]; omega

              · obtain rfl : k = l0_1.length := by omega
                have HZ : Aside0 (tabErrN l0_2 l0_3 l0_1.length (l0_0.length - (i + 1)) (i + 1) = E) := ⟨by have h1 := hsk.out; rw [Nat.sub_self, rowErrN] at h1; rw [← tabErr_next hil (HE2.out.trans h1.symm)]; exact hsi.out⟩
                clear hsk hsi HE2
                go_wp2_with fail
                go_roundw
                case rel => exact ⟨i + 1, by omega, by go_num, HZ, hBk⟩
                case measure => simp [intOf]; omega
          · obtain rfl : i = l0_0.length := by omega
            have HZ : Aside0 (Ending.returned (.int .i64 0) = .returned (.int .i64 E)) := ⟨by have h1 := hsi.out; rw [Nat.sub_self, tabErrN] at h1; rw [h1]⟩
            clear hsi
            go_wp2_with fail
            go_ret
            exact ⟨HZ.out, below_callC HB3.out hBi.out⟩
  · rw [if_neg z] at h
    obtain rfl := Option.some.inj h
    have hz : (e == 0) = false := by simpa using z
    clear z h HC2 HC3
    go_enter Try.func37, Try.ntmps37
    go_wp2_with (first | (go_at_call 92; (refine (HL.out (w.alloc _) (HW.out _)).mono ?_); rintro e ww ⟨rfl, ⟨nq, rfl⟩⟩; (have HB1 := Aside0.mk (qN (HW.out (Obj.cells #[.slice A0_0 l0_0.length c0_0, .slice A0_1 l0_1.length c0_1, .slice A0_2 l0_2.length c0_2, .slice A0_3 l0_3.length c0_3] 25)) nq))))
    go_ret
    exact ⟨rfl, HB1.out⟩

end Go.Proofs.Ytbomgfbfnkfamaa.PAll
end
section
namespace Go.Proofs.Ytbomgfbfnkfamaa.PAll
open Go.RowKit Go.Proofs.YtbomgfbfnkfamaaW.PrintWords Go.Proofs.YtbomgfbfnkfamaaW.PrintLast Go.Proofs.YtbomgfbfnkfamaaW.PrintMore
attribute [local go_sem] max2_int min2_int max_two min_two max_three min_three max_four min_four   -- for this text's walks alone
set_option linter.unusedVariables false
set_option linter.unusedSimpArgs false

/-! ### cmp_isNaN_int: function 146 -/
def cmp_isNaN_int.f (a0 : Int) : Option (Bool) := some (a0 != a0)
set_option maxHeartbeats 8000000 in
set_option maxRecDepth 100000 in
theorem cmp_isNaN_int.calls (a0 : Int) (r : Bool) (w : World) (h : cmp_isNaN_int.f a0 = some r) :
    Calls Try.prog 146 #[.int .i64 a0] w fun e w' => e = .returned (.bool r) ∧ Drawn0 w w' := by
  have H : (some (a0 != a0)) = some r := h
  clear h
  obtain rfl := Option.some.inj H
  go_enter Try.func146, Try.ntmps146
  go_wp2
  go_ret
  exact ⟨by first | rfl | (simp; done) | (simp [*]; done), by repeat (first | exact Drawn0.refl _ | apply Drawn0.step)⟩

end Go.Proofs.Ytbomgfbfnkfamaa.PAll
end
