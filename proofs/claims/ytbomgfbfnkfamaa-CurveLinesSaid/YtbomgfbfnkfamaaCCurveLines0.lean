/- What the functions of the claim compute, and that it is as the claim says: part 1 of 6. -/
import Derived.Test.YtbomgfbfnkfamaaProg
import Derived.Below
import Derived.Deep.Draws
import Derived.Deep.AppendLies
import Derived.Maps.AppendAt
import Derived.OwnWalk
import Derived.Laws.BytesArg
import Derived.Laws.MakeOwn
import Derived.Laws.OwnMore
import Derived.Deep.OwnRows
import Derived.Tactics
import Derived.Lib.ConvBytes
import Derived.Laws.Slices
import Derived.WalkKit
import Derived.KernelRfl
import Derived.RowKit3
import Derived.Deep.LoopGhost
import Derived.Deep.QuietTactic
import Derived.BigQuiet
import Derived.WideLaws
import Derived.Deep.DeepCutAuto
import Derived.Deep.CutBlock
import Derived.Deep.RegionHeld3
import Derived.Laws.Rows
import Derived.Lib.AppendStr
import Derived.ArgAppend
import Derived.Laws.IdiomCopy
import Derived.OrdersHeld
import Derived.Laws.BitsLemmas
import Derived.RowKit
import Derived.Shelf.GgSortFunc.Insertion
import Derived.LoopN
import Derived.StillTailTactics
import Derived.Outline
import Derived.Test.YtbomgfbfnkfamaaCCurveLinesWWords
import Derived.Test.YtbomgfbfnkfamaaCCurveLinesWLast
import Derived.Test.YtbomgfbfnkfamaaCCurveLinesWTab
import Derived.Test.YtbomgfbfnkfamaaCCurveLinesWApart
import Derived.Test.YtbomgfbfnkfamaaCCurveLinesWArr
import Derived.Test.YtbomgfbfnkfamaaCCurveLinesWZeros
import Derived.Test.YtbomgfbfnkfamaaCCurveLinesWFoot
import Derived.Test.YtbomgfbfnkfamaaCCurveLinesWKept
import Derived.Test.YtbomgfbfnkfamaaCCurveLinesWShare
import Derived.Test.YtbomgfbfnkfamaaCCurveLinesWN
import Derived.Test.YtbomgfbfnkfamaaCCurveLinesWEqStruct
import Derived.Test.YtbomgfbfnkfamaaCCurveLinesWRepsOne
import Derived.Test.YtbomgfbfnkfamaaCCurveLinesWInv
import Derived.Test.YtbomgfbfnkfamaaCCurveLinesWNEv
import Derived.Test.YtbomgfbfnkfamaaCCurveLinesWMore
section
namespace Go.Proofs.Ytbomgfbfnkfamaa.PAll
open Go.RowKit Go.Proofs.YtbomgfbfnkfamaaW.PrintWords Go.Proofs.YtbomgfbfnkfamaaW.PrintLast Go.Proofs.YtbomgfbfnkfamaaW.PrintMore
attribute [local go_sem] max2_int min2_int max_two min_two max_three min_three max_four min_four   -- for this text's walks alone
set_option linter.unusedVariables false
set_option linter.unusedSimpArgs false



def errW : Option Int → Value
  | none => .nilIface
  | some c => .iface 0 (.int .i64 c)
theorem errW_none : errW none = .nilIface := rfl
theorem errW_some (c : Int) : errW (some c) = .iface 0 (.int .i64 c) := rfl

theorem info3 : (Try.prog.info? 3).map (fun i => (i.zero, i.size, i.bytes)) = some (some (.int .i64 0), 1, 8) := by kernel_rfl
theorem info22 : (Try.prog.info? 22).map (fun i => (i.zero, i.size, i.bytes)) = some (some (.slice none 0 0), 1, 24) := by kernel_rfl
theorem info35 : (Try.prog.info? 35).map (fun i => (i.zero, i.size, i.bytes)) = some (some (.agg #[(.int .i64 0), (.int .i64 0)]), 2, 16) := by kernel_rfl
theorem info68 : (Try.prog.info? 68).map (fun i => (i.zero, i.size, i.bytes)) = some (some (.agg #[(.int .i64 0), (.int .i64 0), (.int .i64 0), (.int .i64 0)]), 4, 32) := by kernel_rfl
-- the values' own types
def rd_L1 (xs : List (List Int)) (i : Int) : (List Int) := xs.getD i.toNat ([] : List Int)
theorem at_L1 {w : World} {A : Option Addr} {n : Nat} {xs : List (List Int)} (h : Kd.C (Kd.slice 3 (Kd.int .i64)) w A n xs) (i : Int) (h0 : 0 ≤ i) (h1 : i < n) : ∃ ad A0 c0, A = some ad ∧ w.cell? (ad.add i.toNat) = some (.slice A0 (rd_L1 xs i).length c0) ∧ (rd_L1 xs i).length ≤ c0 ∧ (Kd.int .i64).C w A0 (rd_L1 xs i).length (rd_L1 xs i) := by
  obtain ⟨ad, c, e, _, hK, hc0⟩ := Kd.C_get h ([] : List Int) i h0 h1
  have hc : ∀ j u, c[j]? = some u → w.cell? (ad.add (i.toNat * 1 + j)) = some u := hc0
  obtain ⟨A0, c0, rfl, l0, g0⟩ := hK
  exact ⟨ad, A0, c0, e, by have hq := hc 0 _ rfl; rwa [Nat.mul_one, Nat.add_zero] at hq, l0, g0⟩

def rd_L2 (xs : List (List (List Int))) (i : Int) : (List (List Int)) := xs.getD i.toNat ([] : List (List Int))
theorem at_L2 {w : World} {A : Option Addr} {n : Nat} {xs : List (List (List Int))} (h : Kd.C (Kd.slice 22 (Kd.slice 3 (Kd.int .i64))) w A n xs) (i : Int) (h0 : 0 ≤ i) (h1 : i < n) : ∃ ad A0 c0, A = some ad ∧ w.cell? (ad.add i.toNat) = some (.slice A0 (rd_L2 xs i).length c0) ∧ (rd_L2 xs i).length ≤ c0 ∧ (Kd.slice 3 (Kd.int .i64)).C w A0 (rd_L2 xs i).length (rd_L2 xs i) := by
  obtain ⟨ad, c, e, _, hK, hc0⟩ := Kd.C_get h ([] : List (List Int)) i h0 h1
  have hc : ∀ j u, c[j]? = some u → w.cell? (ad.add (i.toNat * 1 + j)) = some u := hc0
  obtain ⟨A0, c0, rfl, l0, g0⟩ := hK
  exact ⟨ad, A0, c0, e, by have hq := hc 0 _ rfl; rwa [Nat.mul_one, Nat.add_zero] at hq, l0, g0⟩

theorem bk {w : World} {g : Nat} {o : Obj} (h : w.heap[g]? = some o := by (with_reducible repeat (first | refine blk_drewN ?_ _ | refine blk_drew ?_ | refine blk_alloc ?_ _)); exact Aside0.out (by assumption)) : w.heap[g]? = some o := h
theorem bl {b : Nat} {w W : World} (h : Below b w W := by repeat (first | (with_reducible first | exact HB.out | apply below_alloc | apply pw_below_drewN | apply below_drew1 | refine below_set ?_ (Aside0.out (by assumption))) | exact HB.out)) : Below b w W := h
/-! #### struct type 25 -/
structure S25 where
  f0 : (List Int)
  f1 : (List Int)
  f2 : (List (List Int))
  f3 : (List (List Int))
def z25 : S25 := ⟨([] : List Int), ([] : List Int), ([] : List (List Int)), ([] : List (List Int))⟩
def k25 : Kd S25 := Kd.iso (Kd.pair (Kd.slice 3 (Kd.int .i64)) (Kd.pair (Kd.slice 3 (Kd.int .i64)) (Kd.pair (Kd.slice 22 (Kd.slice 3 (Kd.int .i64))) (Kd.slice 22 (Kd.slice 3 (Kd.int .i64)))))) (fun x : S25 => (x.f0, x.f1, x.f2, x.f3))
theorem k25_open {w : World} {x : S25} {cs : List Value} (h : k25.K w x cs) : ∃ A0 c0 A1 c1 A2 c2 A3 c3, cs = [.slice A0 x.f0.length c0, .slice A1 x.f1.length c1, .slice A2 x.f2.length c2, .slice A3 x.f3.length c3] ∧ x.f0.length ≤ c0 ∧ (Kd.int .i64).C w A0 x.f0.length x.f0 ∧ x.f1.length ≤ c1 ∧ (Kd.int .i64).C w A1 x.f1.length x.f1 ∧ x.f2.length ≤ c2 ∧ (Kd.slice 3 (Kd.int .i64)).C w A2 x.f2.length x.f2 ∧ x.f3.length ≤ c3 ∧ (Kd.slice 3 (Kd.int .i64)).C w A3 x.f3.length x.f3 := by
  obtain ⟨_, _, rfl, ⟨A0, c0, rfl, l0, g0⟩, ⟨_, _, rfl, ⟨A1, c1, rfl, l1, g1⟩, ⟨_, _, rfl, ⟨A2, c2, rfl, l2, g2⟩, ⟨A3, c3, rfl, l3, g3⟩⟩⟩⟩ := h
  exact ⟨A0, c0, A1, c1, A2, c2, A3, c3, rfl, l0, g0, l1, g1, l2, g2, l3, g3⟩
theorem k25_openM {w : World} {base : Nat} {ok : Nat → Prop} {x : S25} {cs : List Value} (h : k25.M w base ok x cs) : ∃ v0 v1 v2 v3, cs = [v0, v1, v2, v3] ∧ (Kd.int .i64).R 3 w base ok v0 x.f0 ∧ (Kd.int .i64).R 3 w base ok v1 x.f1 ∧ (Kd.slice 3 (Kd.int .i64)).R 22 w base ok v2 x.f2 ∧ (Kd.slice 3 (Kd.int .i64)).R 22 w base ok v3 x.f3 := by
  obtain ⟨_, _, rfl, ⟨v0, rfl, g0⟩, ⟨_, _, rfl, ⟨v1, rfl, g1⟩, ⟨_, _, rfl, ⟨v2, rfl, g2⟩, ⟨v3, rfl, g3⟩⟩⟩⟩ := h
  exact ⟨v0, v1, v2, v3, rfl, g0, g1, g2, g3⟩
theorem k25_mk (w : World) (x : S25) {A0 : Option Addr} {c0 : Nat} (l0 : x.f0.length ≤ c0) (g0 : (Kd.int .i64).C w A0 x.f0.length x.f0) {A1 : Option Addr} {c1 : Nat} (l1 : x.f1.length ≤ c1) (g1 : (Kd.int .i64).C w A1 x.f1.length x.f1) {A2 : Option Addr} {c2 : Nat} (l2 : x.f2.length ≤ c2) (g2 : (Kd.slice 3 (Kd.int .i64)).C w A2 x.f2.length x.f2) {A3 : Option Addr} {c3 : Nat} (l3 : x.f3.length ≤ c3) (g3 : (Kd.slice 3 (Kd.int .i64)).C w A3 x.f3.length x.f3) : k25.K w x [.slice A0 x.f0.length c0, .slice A1 x.f1.length c1, .slice A2 x.f2.length c2, .slice A3 x.f3.length c3] := ⟨[.slice A0 x.f0.length c0], [.slice A1 x.f1.length c1, .slice A2 x.f2.length c2, .slice A3 x.f3.length c3], rfl, ⟨A0, c0, rfl, l0, g0⟩, ⟨[.slice A1 x.f1.length c1], [.slice A2 x.f2.length c2, .slice A3 x.f3.length c3], rfl, ⟨A1, c1, rfl, l1, g1⟩, ⟨[.slice A2 x.f2.length c2], [.slice A3 x.f3.length c3], rfl, ⟨A2, c2, rfl, l2, g2⟩, ⟨A3, c3, rfl, l3, g3⟩⟩⟩⟩
theorem k25_mkM (w : World) (base : Nat) (ok : Nat → Prop) (x : S25) {v0 : Value} (g0 : (Kd.int .i64).R 3 w base ok v0 x.f0) {v1 : Value} (g1 : (Kd.int .i64).R 3 w base ok v1 x.f1) {v2 : Value} (g2 : (Kd.slice 3 (Kd.int .i64)).R 22 w base ok v2 x.f2) {v3 : Value} (g3 : (Kd.slice 3 (Kd.int .i64)).R 22 w base ok v3 x.f3) : k25.M w base ok x [v0, v1, v2, v3] := ⟨[v0], [v1, v2, v3], rfl, ⟨v0, rfl, g0⟩, ⟨[v1], [v2, v3], rfl, ⟨v1, rfl, g1⟩, ⟨[v2], [v3], rfl, ⟨v2, rfl, g2⟩, ⟨v3, rfl, g3⟩⟩⟩⟩
theorem k25_openF {W : World} {ok : Nat → Prop} {x : S25} {cs : List Value} (h : Kd.FK k25 W ok x cs) : ∃ A0 c0 A1 c1 A2 c2 A3 c3, cs = [.slice A0 x.f0.length c0, .slice A1 x.f1.length c1, .slice A2 x.f2.length c2, .slice A3 x.f3.length c3] ∧ x.f0.length ≤ c0 ∧ Kd.F (Kd.int .i64) W ok A0 x.f0.length x.f0 ∧ x.f1.length ≤ c1 ∧ Kd.F (Kd.int .i64) W ok A1 x.f1.length x.f1 ∧ x.f2.length ≤ c2 ∧ Kd.F (Kd.slice 3 (Kd.int .i64)) W ok A2 x.f2.length x.f2 ∧ x.f3.length ≤ c3 ∧ Kd.F (Kd.slice 3 (Kd.int .i64)) W ok A3 x.f3.length x.f3 := by
  obtain ⟨A0, c0, A1, c1, A2, c2, A3, c3, rfl, l0, _, l1, _, l2, _, l3, _⟩ := k25_open (Kd.FK_now h)
  exact ⟨A0, c0, A1, c1, A2, c2, A3, c3, rfl, l0, (fun W' hW => by obtain ⟨A0_, c0_, A1_, c1_, A2_, c2_, A3_, c3_, he, l0_, g0_, l1_, g1_, l2_, g2_, l3_, g3_⟩ := k25_open (h W' hW); injection (Option.some.inj (show some (Value.slice A0 x.f0.length c0) = some (Value.slice A0_ x.f0.length c0_) from congrArg (fun l => l[0]?) he)) with ha_ _ _; rw [ha_]; exact g0_), l1, (fun W' hW => by obtain ⟨A0_, c0_, A1_, c1_, A2_, c2_, A3_, c3_, he, l0_, g0_, l1_, g1_, l2_, g2_, l3_, g3_⟩ := k25_open (h W' hW); injection (Option.some.inj (show some (Value.slice A1 x.f1.length c1) = some (Value.slice A1_ x.f1.length c1_) from congrArg (fun l => l[1]?) he)) with ha_ _ _; rw [ha_]; exact g1_), l2, (fun W' hW => by obtain ⟨A0_, c0_, A1_, c1_, A2_, c2_, A3_, c3_, he, l0_, g0_, l1_, g1_, l2_, g2_, l3_, g3_⟩ := k25_open (h W' hW); injection (Option.some.inj (show some (Value.slice A2 x.f2.length c2) = some (Value.slice A2_ x.f2.length c2_) from congrArg (fun l => l[2]?) he)) with ha_ _ _; rw [ha_]; exact g2_), l3, (fun W' hW => by obtain ⟨A0_, c0_, A1_, c1_, A2_, c2_, A3_, c3_, he, l0_, g0_, l1_, g1_, l2_, g2_, l3_, g3_⟩ := k25_open (h W' hW); injection (Option.some.inj (show some (Value.slice A3 x.f3.length c3) = some (Value.slice A3_ x.f3.length c3_) from congrArg (fun l => l[3]?) he)) with ha_ _ _; rw [ha_]; exact g3_)⟩
theorem k25_mkF (W : World) (ok : Nat → Prop) (x : S25) {A0 : Option Addr} {c0 : Nat} (l0 : x.f0.length ≤ c0) (g0 : Kd.F (Kd.int .i64) W ok A0 x.f0.length x.f0) {A1 : Option Addr} {c1 : Nat} (l1 : x.f1.length ≤ c1) (g1 : Kd.F (Kd.int .i64) W ok A1 x.f1.length x.f1) {A2 : Option Addr} {c2 : Nat} (l2 : x.f2.length ≤ c2) (g2 : Kd.F (Kd.slice 3 (Kd.int .i64)) W ok A2 x.f2.length x.f2) {A3 : Option Addr} {c3 : Nat} (l3 : x.f3.length ≤ c3) (g3 : Kd.F (Kd.slice 3 (Kd.int .i64)) W ok A3 x.f3.length x.f3) : Kd.FK k25 W ok x [.slice A0 x.f0.length c0, .slice A1 x.f1.length c1, .slice A2 x.f2.length c2, .slice A3 x.f3.length c3] := fun W2 hW => k25_mk W2 x l0 (g0 W2 hW) l1 (g1 W2 hW) l2 (g2 W2 hW) l3 (g3 W2 hW)
def rd_T25 (xs : List S25) (i : Int) : S25 := xs.getD i.toNat z25
theorem at_T25 {w : World} {A : Option Addr} {n : Nat} {xs : List S25} (h : Kd.C k25 w A n xs) (i : Int) (h0 : 0 ≤ i) (h1 : i < n) : ∃ ad A0 c0 A1 c1 A2 c2 A3 c3, A = some ad ∧ w.cell? (ad.add (i.toNat * 4)) = some (.slice A0 (rd_T25 xs i).f0.length c0) ∧ w.cell? ⟨(ad.add (i.toNat * 4)).block, (ad.add (i.toNat * 4)).off + 1, none⟩ = some (.slice A1 (rd_T25 xs i).f1.length c1) ∧ w.cell? ⟨(ad.add (i.toNat * 4)).block, (ad.add (i.toNat * 4)).off + 2, none⟩ = some (.slice A2 (rd_T25 xs i).f2.length c2) ∧ w.cell? ⟨(ad.add (i.toNat * 4)).block, (ad.add (i.toNat * 4)).off + 3, none⟩ = some (.slice A3 (rd_T25 xs i).f3.length c3) ∧ (rd_T25 xs i).f0.length ≤ c0 ∧ (Kd.int .i64).C w A0 (rd_T25 xs i).f0.length (rd_T25 xs i).f0 ∧ (rd_T25 xs i).f1.length ≤ c1 ∧ (Kd.int .i64).C w A1 (rd_T25 xs i).f1.length (rd_T25 xs i).f1 ∧ (rd_T25 xs i).f2.length ≤ c2 ∧ (Kd.slice 3 (Kd.int .i64)).C w A2 (rd_T25 xs i).f2.length (rd_T25 xs i).f2 ∧ (rd_T25 xs i).f3.length ≤ c3 ∧ (Kd.slice 3 (Kd.int .i64)).C w A3 (rd_T25 xs i).f3.length (rd_T25 xs i).f3 := by
  obtain ⟨ad, c, e, _, hK, hc0⟩ := Kd.C_get h z25 i h0 h1
  have hc : ∀ j u, c[j]? = some u → w.cell? (ad.add (i.toNat * 4 + j)) = some u := hc0
  obtain ⟨A0, c0, A1, c1, A2, c2, A3, c3, rfl, l0, g0, l1, g1, l2, g2, l3, g3⟩ := k25_open hK
  exact ⟨ad, A0, c0, A1, c1, A2, c2, A3, c3, e, hc 0 _ rfl, by rw [← add_field _ _ 1 (by omega)]; exact hc 1 _ rfl, by rw [← add_field _ _ 2 (by omega)]; exact hc 2 _ rfl, by rw [← add_field _ _ 3 (by omega)]; exact hc 3 _ rfl, l0, g0, l1, g1, l2, g2, l3, g3⟩

/-! #### struct type 86 -/
structure S86 where
  f0 : Int
  f1 : Int
  f2 : Int
def z86 : S86 := ⟨(0 : Int), (0 : Int), (0 : Int)⟩
def k86 : Kd S86 := Kd.iso (Kd.pair (Kd.int .i64) (Kd.pair (Kd.int .i64) (Kd.int .i64))) (fun x : S86 => (x.f0, x.f1, x.f2))
theorem k86_open {w : World} {x : S86} {cs : List Value} (h : k86.K w x cs) : cs = [.int .i64 x.f0, .int .i64 x.f1, .int .i64 x.f2] := by
  obtain ⟨_, _, rfl, rfl, ⟨_, _, rfl, rfl, rfl⟩⟩ := h
  exact rfl
theorem k86_openM {w : World} {base : Nat} {ok : Nat → Prop} {x : S86} {cs : List Value} (h : k86.M w base ok x cs) : cs = [.int .i64 x.f0, .int .i64 x.f1, .int .i64 x.f2] := by
  obtain ⟨_, _, rfl, rfl, ⟨_, _, rfl, rfl, rfl⟩⟩ := h
  exact rfl
theorem k86_mk (w : World) (x : S86)  : k86.K w x [.int .i64 x.f0, .int .i64 x.f1, .int .i64 x.f2] := ⟨[.int .i64 x.f0], [.int .i64 x.f1, .int .i64 x.f2], rfl, rfl, ⟨[.int .i64 x.f1], [.int .i64 x.f2], rfl, rfl, rfl⟩⟩
theorem k86_mkM (w : World) (base : Nat) (ok : Nat → Prop) (x : S86)  : k86.M w base ok x [.int .i64 x.f0, .int .i64 x.f1, .int .i64 x.f2] := ⟨[.int .i64 x.f0], [.int .i64 x.f1, .int .i64 x.f2], rfl, rfl, ⟨[.int .i64 x.f1], [.int .i64 x.f2], rfl, rfl, rfl⟩⟩
theorem k86_mkF (W : World) (ok : Nat → Prop) (x : S86) : Kd.FK k86 W ok x [.int .i64 x.f0, .int .i64 x.f1, .int .i64 x.f2] := fun W2 _ => k86_mk W2 x
def rd_T86 (xs : List S86) (i : Int) : S86 := xs.getD i.toNat z86
theorem at_T86 {w : World} {A : Option Addr} {n : Nat} {xs : List S86} (h : Kd.C k86 w A n xs) (i : Int) (h0 : 0 ≤ i) (h1 : i < n) : ∃ ad , A = some ad ∧ w.cell? (ad.add (i.toNat * 3)) = some (.int .i64 (rd_T86 xs i).f0) ∧ w.cell? ⟨(ad.add (i.toNat * 3)).block, (ad.add (i.toNat * 3)).off + 1, none⟩ = some (.int .i64 (rd_T86 xs i).f1) ∧ w.cell? ⟨(ad.add (i.toNat * 3)).block, (ad.add (i.toNat * 3)).off + 2, none⟩ = some (.int .i64 (rd_T86 xs i).f2) := by
  obtain ⟨ad, c, e, _, hK, hc0⟩ := Kd.C_get h z86 i h0 h1
  have hc : ∀ j u, c[j]? = some u → w.cell? (ad.add (i.toNat * 3 + j)) = some u := hc0
  obtain rfl := k86_open hK
  exact ⟨ad, e, hc 0 _ rfl, by rw [← add_field _ _ 1 (by omega)]; exact hc 1 _ rfl, by rw [← add_field _ _ 2 (by omega)]; exact hc 2 _ rfl⟩

/-! #### struct type 35 -/
structure S35 where
  f0 : Int
  f1 : Int
def z35 : S35 := ⟨(0 : Int), (0 : Int)⟩
def k35 : Kd S35 := Kd.iso (Kd.pair (Kd.int .i64) (Kd.int .i64)) (fun x : S35 => (x.f0, x.f1))
theorem k35_open {w : World} {x : S35} {cs : List Value} (h : k35.K w x cs) : cs = [.int .i64 x.f0, .int .i64 x.f1] := by
  obtain ⟨_, _, rfl, rfl, rfl⟩ := h
  exact rfl
theorem k35_openM {w : World} {base : Nat} {ok : Nat → Prop} {x : S35} {cs : List Value} (h : k35.M w base ok x cs) : cs = [.int .i64 x.f0, .int .i64 x.f1] := by
  obtain ⟨_, _, rfl, rfl, rfl⟩ := h
  exact rfl
theorem k35_mk (w : World) (x : S35)  : k35.K w x [.int .i64 x.f0, .int .i64 x.f1] := ⟨[.int .i64 x.f0], [.int .i64 x.f1], rfl, rfl, rfl⟩
theorem k35_mkM (w : World) (base : Nat) (ok : Nat → Prop) (x : S35)  : k35.M w base ok x [.int .i64 x.f0, .int .i64 x.f1] := ⟨[.int .i64 x.f0], [.int .i64 x.f1], rfl, rfl, rfl⟩
theorem k35_mkF (W : World) (ok : Nat → Prop) (x : S35) : Kd.FK k35 W ok x [.int .i64 x.f0, .int .i64 x.f1] := fun W2 _ => k35_mk W2 x
def rd_T35 (xs : List S35) (i : Int) : S35 := xs.getD i.toNat z35
theorem at_T35 {w : World} {A : Option Addr} {n : Nat} {xs : List S35} (h : Kd.C k35 w A n xs) (i : Int) (h0 : 0 ≤ i) (h1 : i < n) : ∃ ad , A = some ad ∧ w.cell? (ad.add (i.toNat * 2)) = some (.int .i64 (rd_T35 xs i).f0) ∧ w.cell? ⟨(ad.add (i.toNat * 2)).block, (ad.add (i.toNat * 2)).off + 1, none⟩ = some (.int .i64 (rd_T35 xs i).f1) := by
  obtain ⟨ad, c, e, _, hK, hc0⟩ := Kd.C_get h z35 i h0 h1
  have hc : ∀ j u, c[j]? = some u → w.cell? (ad.add (i.toNat * 2 + j)) = some u := hc0
  obtain rfl := k35_open hK
  exact ⟨ad, e, hc 0 _ rfl, by rw [← add_field _ _ 1 (by omega)]; exact hc 1 _ rfl⟩

/-! #### struct type 42 -/
structure S42 where
  f0 : S35
  f1 : S35
  f2 : S35
  f3 : S35
  f4 : S35
def z42 : S42 := ⟨z35, z35, z35, z35, z35⟩
def k42 : Kd S42 := Kd.iso (Kd.pair k35 (Kd.pair k35 (Kd.pair k35 (Kd.pair k35 k35)))) (fun x : S42 => (x.f0, x.f1, x.f2, x.f3, x.f4))
theorem k42_open {w : World} {x : S42} {cs : List Value} (h : k42.K w x cs) : cs = [.int .i64 x.f0.f0, .int .i64 x.f0.f1, .int .i64 x.f1.f0, .int .i64 x.f1.f1, .int .i64 x.f2.f0, .int .i64 x.f2.f1, .int .i64 x.f3.f0, .int .i64 x.f3.f1, .int .i64 x.f4.f0, .int .i64 x.f4.f1] := by
  obtain ⟨_, _, rfl, s0, ⟨_, _, rfl, s2, ⟨_, _, rfl, s4, ⟨_, _, rfl, s6, s8⟩⟩⟩⟩ := h
  obtain rfl := k35_open s0
  obtain rfl := k35_open s2
  obtain rfl := k35_open s4
  obtain rfl := k35_open s6
  obtain rfl := k35_open s8
  exact rfl
theorem k42_openM {w : World} {base : Nat} {ok : Nat → Prop} {x : S42} {cs : List Value} (h : k42.M w base ok x cs) : cs = [.int .i64 x.f0.f0, .int .i64 x.f0.f1, .int .i64 x.f1.f0, .int .i64 x.f1.f1, .int .i64 x.f2.f0, .int .i64 x.f2.f1, .int .i64 x.f3.f0, .int .i64 x.f3.f1, .int .i64 x.f4.f0, .int .i64 x.f4.f1] := by
  obtain ⟨_, _, rfl, s0, ⟨_, _, rfl, s2, ⟨_, _, rfl, s4, ⟨_, _, rfl, s6, s8⟩⟩⟩⟩ := h
  obtain rfl := k35_openM s0
  obtain rfl := k35_openM s2
  obtain rfl := k35_openM s4
  obtain rfl := k35_openM s6
  obtain rfl := k35_openM s8
  exact rfl
theorem k42_mk (w : World) (x : S42)  : k42.K w x [.int .i64 x.f0.f0, .int .i64 x.f0.f1, .int .i64 x.f1.f0, .int .i64 x.f1.f1, .int .i64 x.f2.f0, .int .i64 x.f2.f1, .int .i64 x.f3.f0, .int .i64 x.f3.f1, .int .i64 x.f4.f0, .int .i64 x.f4.f1] := ⟨[.int .i64 x.f0.f0, .int .i64 x.f0.f1], [.int .i64 x.f1.f0, .int .i64 x.f1.f1, .int .i64 x.f2.f0, .int .i64 x.f2.f1, .int .i64 x.f3.f0, .int .i64 x.f3.f1, .int .i64 x.f4.f0, .int .i64 x.f4.f1], rfl, (k35_mk w x.f0 ), ⟨[.int .i64 x.f1.f0, .int .i64 x.f1.f1], [.int .i64 x.f2.f0, .int .i64 x.f2.f1, .int .i64 x.f3.f0, .int .i64 x.f3.f1, .int .i64 x.f4.f0, .int .i64 x.f4.f1], rfl, (k35_mk w x.f1 ), ⟨[.int .i64 x.f2.f0, .int .i64 x.f2.f1], [.int .i64 x.f3.f0, .int .i64 x.f3.f1, .int .i64 x.f4.f0, .int .i64 x.f4.f1], rfl, (k35_mk w x.f2 ), ⟨[.int .i64 x.f3.f0, .int .i64 x.f3.f1], [.int .i64 x.f4.f0, .int .i64 x.f4.f1], rfl, (k35_mk w x.f3 ), (k35_mk w x.f4 )⟩⟩⟩⟩
theorem k42_mkM (w : World) (base : Nat) (ok : Nat → Prop) (x : S42)  : k42.M w base ok x [.int .i64 x.f0.f0, .int .i64 x.f0.f1, .int .i64 x.f1.f0, .int .i64 x.f1.f1, .int .i64 x.f2.f0, .int .i64 x.f2.f1, .int .i64 x.f3.f0, .int .i64 x.f3.f1, .int .i64 x.f4.f0, .int .i64 x.f4.f1] := ⟨[.int .i64 x.f0.f0, .int .i64 x.f0.f1], [.int .i64 x.f1.f0, .int .i64 x.f1.f1, .int .i64 x.f2.f0, .int .i64 x.f2.f1, .int .i64 x.f3.f0, .int .i64 x.f3.f1, .int .i64 x.f4.f0, .int .i64 x.f4.f1], rfl, (k35_mkM w base ok x.f0 ), ⟨[.int .i64 x.f1.f0, .int .i64 x.f1.f1], [.int .i64 x.f2.f0, .int .i64 x.f2.f1, .int .i64 x.f3.f0, .int .i64 x.f3.f1, .int .i64 x.f4.f0, .int .i64 x.f4.f1], rfl, (k35_mkM w base ok x.f1 ), ⟨[.int .i64 x.f2.f0, .int .i64 x.f2.f1], [.int .i64 x.f3.f0, .int .i64 x.f3.f1, .int .i64 x.f4.f0, .int .i64 x.f4.f1], rfl, (k35_mkM w base ok x.f2 ), ⟨[.int .i64 x.f3.f0, .int .i64 x.f3.f1], [.int .i64 x.f4.f0, .int .i64 x.f4.f1], rfl, (k35_mkM w base ok x.f3 ), (k35_mkM w base ok x.f4 )⟩⟩⟩⟩
theorem k42_mkF (W : World) (ok : Nat → Prop) (x : S42) : Kd.FK k42 W ok x [.int .i64 x.f0.f0, .int .i64 x.f0.f1, .int .i64 x.f1.f0, .int .i64 x.f1.f1, .int .i64 x.f2.f0, .int .i64 x.f2.f1, .int .i64 x.f3.f0, .int .i64 x.f3.f1, .int .i64 x.f4.f0, .int .i64 x.f4.f1] := fun W2 _ => k42_mk W2 x
def rd_T42 (xs : List S42) (i : Int) : S42 := xs.getD i.toNat z42
theorem at_T42 {w : World} {A : Option Addr} {n : Nat} {xs : List S42} (h : Kd.C k42 w A n xs) (i : Int) (h0 : 0 ≤ i) (h1 : i < n) : ∃ ad , A = some ad ∧ w.cell? (ad.add (i.toNat * 10)) = some (.int .i64 (rd_T42 xs i).f0.f0) ∧ w.cell? ⟨(ad.add (i.toNat * 10)).block, (ad.add (i.toNat * 10)).off + 1, none⟩ = some (.int .i64 (rd_T42 xs i).f0.f1) ∧ w.cell? ⟨(ad.add (i.toNat * 10)).block, (ad.add (i.toNat * 10)).off + 2, none⟩ = some (.int .i64 (rd_T42 xs i).f1.f0) ∧ w.cell? ⟨(ad.add (i.toNat * 10)).block, (ad.add (i.toNat * 10)).off + 3, none⟩ = some (.int .i64 (rd_T42 xs i).f1.f1) ∧ w.cell? ⟨(ad.add (i.toNat * 10)).block, (ad.add (i.toNat * 10)).off + 4, none⟩ = some (.int .i64 (rd_T42 xs i).f2.f0) ∧ w.cell? ⟨(ad.add (i.toNat * 10)).block, (ad.add (i.toNat * 10)).off + 5, none⟩ = some (.int .i64 (rd_T42 xs i).f2.f1) ∧ w.cell? ⟨(ad.add (i.toNat * 10)).block, (ad.add (i.toNat * 10)).off + 6, none⟩ = some (.int .i64 (rd_T42 xs i).f3.f0) ∧ w.cell? ⟨(ad.add (i.toNat * 10)).block, (ad.add (i.toNat * 10)).off + 7, none⟩ = some (.int .i64 (rd_T42 xs i).f3.f1) ∧ w.cell? ⟨(ad.add (i.toNat * 10)).block, (ad.add (i.toNat * 10)).off + 8, none⟩ = some (.int .i64 (rd_T42 xs i).f4.f0) ∧ w.cell? ⟨(ad.add (i.toNat * 10)).block, (ad.add (i.toNat * 10)).off + 9, none⟩ = some (.int .i64 (rd_T42 xs i).f4.f1) := by
  obtain ⟨ad, c, e, _, hK, hc0⟩ := Kd.C_get h z42 i h0 h1
  have hc : ∀ j u, c[j]? = some u → w.cell? (ad.add (i.toNat * 10 + j)) = some u := hc0
  obtain rfl := k42_open hK
  exact ⟨ad, e, hc 0 _ rfl, by rw [← add_field _ _ 1 (by omega)]; exact hc 1 _ rfl, by rw [← add_field _ _ 2 (by omega)]; exact hc 2 _ rfl, by rw [← add_field _ _ 3 (by omega)]; exact hc 3 _ rfl, by rw [← add_field _ _ 4 (by omega)]; exact hc 4 _ rfl, by rw [← add_field _ _ 5 (by omega)]; exact hc 5 _ rfl, by rw [← add_field _ _ 6 (by omega)]; exact hc 6 _ rfl, by rw [← add_field _ _ 7 (by omega)]; exact hc 7 _ rfl, by rw [← add_field _ _ 8 (by omega)]; exact hc 8 _ rfl, by rw [← add_field _ _ 9 (by omega)]; exact hc 9 _ rfl⟩

/-! #### struct type 68 -/
structure S68 where
  f0 : Int
  f1 : Int
  f2 : S35
def z68 : S68 := ⟨(0 : Int), (0 : Int), z35⟩
def k68 : Kd S68 := Kd.iso (Kd.pair (Kd.int .i64) (Kd.pair (Kd.int .i64) k35)) (fun x : S68 => (x.f0, x.f1, x.f2))
theorem k68_open {w : World} {x : S68} {cs : List Value} (h : k68.K w x cs) : cs = [.int .i64 x.f0, .int .i64 x.f1, .int .i64 x.f2.f0, .int .i64 x.f2.f1] := by
  obtain ⟨_, _, rfl, rfl, ⟨_, _, rfl, rfl, s2⟩⟩ := h
  obtain rfl := k35_open s2
  exact rfl
theorem k68_openM {w : World} {base : Nat} {ok : Nat → Prop} {x : S68} {cs : List Value} (h : k68.M w base ok x cs) : cs = [.int .i64 x.f0, .int .i64 x.f1, .int .i64 x.f2.f0, .int .i64 x.f2.f1] := by
  obtain ⟨_, _, rfl, rfl, ⟨_, _, rfl, rfl, s2⟩⟩ := h
  obtain rfl := k35_openM s2
  exact rfl
theorem k68_mk (w : World) (x : S68)  : k68.K w x [.int .i64 x.f0, .int .i64 x.f1, .int .i64 x.f2.f0, .int .i64 x.f2.f1] := ⟨[.int .i64 x.f0], [.int .i64 x.f1, .int .i64 x.f2.f0, .int .i64 x.f2.f1], rfl, rfl, ⟨[.int .i64 x.f1], [.int .i64 x.f2.f0, .int .i64 x.f2.f1], rfl, rfl, (k35_mk w x.f2 )⟩⟩
theorem k68_mkM (w : World) (base : Nat) (ok : Nat → Prop) (x : S68)  : k68.M w base ok x [.int .i64 x.f0, .int .i64 x.f1, .int .i64 x.f2.f0, .int .i64 x.f2.f1] := ⟨[.int .i64 x.f0], [.int .i64 x.f1, .int .i64 x.f2.f0, .int .i64 x.f2.f1], rfl, rfl, ⟨[.int .i64 x.f1], [.int .i64 x.f2.f0, .int .i64 x.f2.f1], rfl, rfl, (k35_mkM w base ok x.f2 )⟩⟩
theorem k68_mkF (W : World) (ok : Nat → Prop) (x : S68) : Kd.FK k68 W ok x [.int .i64 x.f0, .int .i64 x.f1, .int .i64 x.f2.f0, .int .i64 x.f2.f1] := fun W2 _ => k68_mk W2 x
def rd_T68 (xs : List S68) (i : Int) : S68 := xs.getD i.toNat z68
theorem at_T68 {w : World} {A : Option Addr} {n : Nat} {xs : List S68} (h : Kd.C k68 w A n xs) (i : Int) (h0 : 0 ≤ i) (h1 : i < n) : ∃ ad , A = some ad ∧ w.cell? (ad.add (i.toNat * 4)) = some (.int .i64 (rd_T68 xs i).f0) ∧ w.cell? ⟨(ad.add (i.toNat * 4)).block, (ad.add (i.toNat * 4)).off + 1, none⟩ = some (.int .i64 (rd_T68 xs i).f1) ∧ w.cell? ⟨(ad.add (i.toNat * 4)).block, (ad.add (i.toNat * 4)).off + 2, none⟩ = some (.int .i64 (rd_T68 xs i).f2.f0) ∧ w.cell? ⟨(ad.add (i.toNat * 4)).block, (ad.add (i.toNat * 4)).off + 3, none⟩ = some (.int .i64 (rd_T68 xs i).f2.f1) := by
  obtain ⟨ad, c, e, _, hK, hc0⟩ := Kd.C_get h z68 i h0 h1
  have hc : ∀ j u, c[j]? = some u → w.cell? (ad.add (i.toNat * 4 + j)) = some u := hc0
  obtain rfl := k68_open hK
  exact ⟨ad, e, hc 0 _ rfl, by rw [← add_field _ _ 1 (by omega)]; exact hc 1 _ rfl, by rw [← add_field _ _ 2 (by omega)]; exact hc 2 _ rfl, by rw [← add_field _ _ 3 (by omega)]; exact hc 3 _ rfl⟩

end Go.Proofs.Ytbomgfbfnkfamaa.PAll
end
section
namespace Go.Proofs.Ytbomgfbfnkfamaa.PAll
open Go.RowKit Go.Proofs.YtbomgfbfnkfamaaW.PrintWords Go.Proofs.YtbomgfbfnkfamaaW.PrintLast Go.Proofs.YtbomgfbfnkfamaaW.PrintMore
attribute [local go_sem] max2_int min2_int max_two min_two max_three min_three max_four min_four   -- for this text's walks alone
set_option linter.unusedVariables false
set_option linter.unusedSimpArgs false

theorem eqA35 (d : Nat) (w : World) (x0 y0 : Int) (x1 y1 : Int) :
    (Op.equalIn (d + 2) 35 (.agg #[.int .i64 x0, .int .i64 x1]) (.agg #[.int .i64 y0, .int .i64 y1])).run Try.prog w = .ok (x0 == y0 && (x1 == y1)) w := by
  refine eqA_of Try.underlying35 (by kernel_rfl) ?_
  refine eqf_cons (by rfl) (by go_simp; rfl) (by go_simp; rfl) (by go_simp) ?_
  exact eqf_last (by rfl) (by go_simp; rfl) (by go_simp; rfl) (by go_simp)
end Go.Proofs.Ytbomgfbfnkfamaa.PAll
end
section
namespace Go.Proofs.Ytbomgfbfnkfamaa.PAll
open Go.RowKit Go.Proofs.YtbomgfbfnkfamaaW.PrintWords Go.Proofs.YtbomgfbfnkfamaaW.PrintLast Go.Proofs.YtbomgfbfnkfamaaW.PrintMore
attribute [local go_sem] max2_int min2_int max_two min_two max_three min_three max_four min_four   -- for this text's walks alone
set_option linter.unusedVariables false
set_option linter.unusedSimpArgs false

/-! ### curve_lines: function 92 -/
/-- The first error of lines from the k-th on (d: how many are left). -/
def scanN (l : List Int) (low : Int) : Nat → Nat → Int
  | 0, _ => 0
  | d + 1, k => if l.getD k 0 < low ∨ 1000000 < l.getD k 0 then 2 else if 0 < k ∧ l.getD k 0 ≤ l.getD (k - 1) 0 then 11 else scanN l low d (k + 1)
def curve_lines.f (l0 : List Int) (l1 : List Int) : Option (Int) :=
  if l0.length = 0 ∨ l1.length = 0 then some 6 else if 40 < l0.length ∨ 40 < l1.length then some 8 else
  if scanN l0 (-1000000) l0.length 0 = 0 then some (scanN l1 0 l1.length 0) else some (scanN l0 (-1000000) l0.length 0)
def voltB (g p : Int) : Bool := decide (-1000000 ≤ g) && decide (g ≤ 1000000) && decide (0 ≤ p) && decide (p ≤ 1000000)
theorem voltB_calls (g p : Int) (w : World) : Calls Try.prog 67 #[.int .i64 g, .int .i64 p] w fun e w' => e = .returned (.bool (voltB g p)) ∧ w = w' := by
  by_cases h1 : -1000000 ≤ g
  · by_cases h2 : g ≤ 1000000
    · by_cases h3 : 0 ≤ p
      · by_cases h4 : p ≤ 1000000
        all_goals
          have HV : Aside0 (voltB g p = decide (p ≤ 1000000)) := ⟨by simp [voltB, h1, h2, h3]⟩
          rw [HV.out]
          go_enter Try.func67, Try.ntmps67
          go_wp2
          go_ret
          first | exact ⟨rfl, rfl⟩ | exact ⟨by simp [h4], rfl⟩
      · have HV : Aside0 (voltB g p = false) := ⟨by simp [voltB, h3]⟩
        rw [HV.out]
        go_enter Try.func67, Try.ntmps67
        go_wp2
        go_ret
        first | exact ⟨rfl, rfl⟩ | exact ⟨by simp [h3], rfl⟩
    · have HV : Aside0 (voltB g p = false) := ⟨by simp [voltB, h2]⟩
      rw [HV.out]
      go_enter Try.func67, Try.ntmps67
      go_wp2
      go_ret
      first | exact ⟨rfl, rfl⟩ | exact ⟨by simp [h2], rfl⟩
  · have HV : Aside0 (voltB g p = false) := ⟨by simp [voltB, h1]⟩
    rw [HV.out]
    go_enter Try.func67, Try.ntmps67
    go_wp2
    go_ret
    first | exact ⟨rfl, rfl⟩ | exact ⟨by simp [h1], rfl⟩
theorem voltB_grid (v : Int) : voltB v 0 = true ↔ ¬ (v < -1000000 ∨ 1000000 < v) := by simp [voltB] <;> omega
theorem voltB_plate (v : Int) : voltB 0 v = true ↔ ¬ (v < 0 ∨ 1000000 < v) := by simp [voltB] <;> omega
theorem scanN_bad {l : List Int} {low : Int} {k : Nat} (hk : k < l.length) (h : l.getD k 0 < low ∨ 1000000 < l.getD k 0) : scanN l low (l.length - k) k = 2 := by
  obtain ⟨d, hd⟩ : ∃ d, l.length - k = d + 1 := ⟨l.length - k - 1, by omega⟩
  rw [hd, scanN, if_pos h]
theorem scanN_order {l : List Int} {low : Int} {k : Nat} (hk : k < l.length) (h : ¬ (l.getD k 0 < low ∨ 1000000 < l.getD k 0)) (h2 : 0 < k ∧ l.getD k 0 ≤ l.getD (k - 1) 0) : scanN l low (l.length - k) k = 11 := by
  obtain ⟨d, hd⟩ : ∃ d, l.length - k = d + 1 := ⟨l.length - k - 1, by omega⟩
  rw [hd, scanN, if_neg h, if_pos h2]
theorem scanN_next {l : List Int} {low : Int} {k : Nat} (hk : k < l.length) (h : ¬ (l.getD k 0 < low ∨ 1000000 < l.getD k 0)) (h2 : ¬ (0 < k ∧ l.getD k 0 ≤ l.getD (k - 1) 0)) : scanN l low (l.length - k) k = scanN l low (l.length - (k + 1)) (k + 1) := by
  obtain ⟨d, hd⟩ : ∃ d, l.length - k = d + 1 := ⟨l.length - k - 1, by omega⟩
  rw [hd, scanN, if_neg h, if_neg h2, show l.length - (k + 1) = d by omega]

set_option maxHeartbeats 8000000 in
set_option maxRecDepth 100000 in
theorem curve_lines.calls (A0 : Option Addr) (c0 : Nat) (l0 : List Int) (A1 : Option Addr) (c1 : Nat) (l1 : List Int) (r : Int) (w : World) (hr0 : Kd.C (Kd.int .i64) w A0 l0.length l0) (hc0 : l0.length ≤ c0) (hr1 : Kd.C (Kd.int .i64) w A1 l1.length l1) (hc1 : l1.length ≤ c1) (h : curve_lines.f l0 l1 = some r) :
    Calls Try.prog 92 #[.slice A0 l0.length c0, .slice A1 l1.length c1] w fun e w' => e = .returned (.int .i64 r) ∧ Drawn0 w w' := by
  unfold curve_lines.f at h
  have i0 : ∀ W : World, (Instr.index 133 (.agg #[.slice A0 l0.length c0, .slice A1 l1.length c1]) (.int .i64 0)).run Try.prog W = .ok (.slice A0 l0.length c0) W := fun W => by kernel_rfl
  have i1 : ∀ W : World, (Instr.index 133 (.agg #[.slice A0 l0.length c0, .slice A1 l1.length c1]) (.int .i64 1)).run Try.prog W = .ok (.slice A1 l1.length c1) W := fun W => by kernel_rfl
  have m0 : l0.length ≤ 9223372036854775807 := hr0.2.1
  have m1 : l1.length ≤ 9223372036854775807 := hr1.2.1
  have HR0 := Aside0.mk hr0
  have HR1 := Aside0.mk hr1
  clear hr0 hr1
  by_cases z : l0.length = 0 ∨ l1.length = 0
  · rw [if_pos z] at h
    obtain rfl := Option.some.inj h
    by_cases z0 : l0.length = 0
    · have hz0 : ((l0.length : Int) == 0) = true := by simp [z0]
      clear z
      have Z0 := Aside0.mk z0
      clear z0
      go_enter Try.func92, Try.ntmps92
      go_wp2_with fail
      go_ret
      exact ⟨rfl, ⟨0, rfl⟩⟩
    · have z1 : l1.length = 0 := by omega
      have hz0 : ((l0.length : Int) == 0) = false := by rw [beq_eq_false_iff_ne]; omega
      have hz1 : ((l1.length : Int) == 0) = true := by simp [z1]
      clear z z0 z1
      go_enter Try.func92, Try.ntmps92
      go_wp2_with fail
      go_ret
      exact ⟨rfl, ⟨0, rfl⟩⟩
  · rw [if_neg z] at h
    have hz0 : ((l0.length : Int) == 0) = false := by rw [beq_eq_false_iff_ne]; omega
    have hz1 : ((l1.length : Int) == 0) = false := by rw [beq_eq_false_iff_ne]; omega
    have q0 : 0 < l0.length := by omega
    have q1 : 0 < l1.length := by omega
    clear z
    by_cases z : 40 < l0.length ∨ 40 < l1.length
    · rw [if_pos z] at h
      obtain rfl := Option.some.inj h
      by_cases z0 : 40 < l0.length
      · clear z
        go_enter Try.func92, Try.ntmps92
        go_wp2_with fail
        go_ret
        exact ⟨rfl, ⟨0, rfl⟩⟩
      · have z1 : 40 < l1.length := by omega
        have z0' : l0.length ≤ 40 := by omega
        clear z z0
        go_enter Try.func92, Try.ntmps92
        go_wp2_with fail
        go_ret
        exact ⟨rfl, ⟨0, rfl⟩⟩
    · rw [if_neg z] at h
      have n0 : l0.length ≤ 40 := by omega
      have n1 : l1.length ≤ 40 := by omega
      clear z
      obtain ⟨E0, hE0⟩ : ∃ E, scanN l0 (-1000000) l0.length 0 = E := ⟨_, rfl⟩
      obtain ⟨E1, hE1⟩ : ∃ E, scanN l1 0 l1.length 0 = E := ⟨_, rfl⟩
      rw [hE0, hE1] at h
      have HE0 := Aside0.mk hE0
      have HE1 := Aside0.mk hE1
      clear hE0 hE1
      have HF0 : Aside0 ((E0 = 2 → Ending.returned (.int .i64 2) = .returned (.int .i64 r)) ∧ (E0 = 11 → Ending.returned (.int .i64 11) = .returned (.int .i64 r)) ∧ True) :=
        ⟨fun z => by rw [if_neg (by omega)] at h; rw [← Option.some.inj h, z], fun z => by rw [if_neg (by omega)] at h; rw [← Option.some.inj h, z], trivial⟩
      have HF1' : Aside0 (E0 = 0 → E1 = r) := ⟨fun z => by rw [if_pos z] at h; exact Option.some.inj h⟩
      clear h
      go_enter Try.func92, Try.ntmps92
      go_wp2_with fail
      refine wp_loop_rounds 3 ?_
      rw [rounds_succ]
      go_wp2_with fail
      go_loop [7, 8, 36] (fun _ _ i => ∃ k : Nat, k ≤ l0.length ∧ i = .int .i64 k ∧ Aside0 (scanN l0 (-1000000) (l0.length - k) k = E0)) (fun _ _ i => l0.length - (intOf i).toNat)
      case atStart => exact ⟨0, Nat.zero_le _, rfl, ⟨HE0.out⟩⟩
      case round =>
        obtain ⟨k, hk, rfl, hs⟩ := hrel
        by_cases hlt : k < l0.length
        · obtain ⟨ad, hA, hcell⟩ := Kd.at_int HR0.out (k : Int) (by omega) (by omega)
          have hcell' : w.cell? (ad.add k) = some (.int .i64 (l0.getD k 0)) := hcell
          clear hcell
          subst hA
          have h64 : l0.length ≤ 9223372036854775807 := HR0.out.2.1
          have HV := Aside0.mk (voltB_grid (l0.getD k 0))
          have HBAD := Aside0.mk (scanN_bad (low := (-1000000)) hlt)
          have HORD := Aside0.mk (scanN_order (low := (-1000000)) hlt)
          have HNXT := Aside0.mk (scanN_next (low := (-1000000)) hlt)
          have HPRE : 0 < k → w.cell? (ad.add (k - 1)) = some (.int .i64 (l0.getD (k - 1) 0)) := fun h => by
            obtain ⟨ad2, hA2, hc2⟩ := Kd.at_int HR0.out ((k - 1 : Nat) : Int) (by omega) (by omega)
            obtain rfl := Option.some.inj hA2
            exact hc2
          generalize l0.getD k 0 = v at *
          by_cases hb : v < (-1000000) ∨ 1000000 < v
          · have hv : voltB v 0 = false := by rw [← Bool.not_eq_true, HV.out]; exact not_not_intro hb
            have HX := Aside0.mk (HBAD.out hb)
            clear hb HBAD HORD HNXT HPRE HV
            go_wp2_with (go_at_call 67; refine (voltB_calls _ _ _).mono ?_; rintro e w' ⟨rfl, rfl⟩)
            go_ret
            exact ⟨HF0.out.1 (hs.out.symm.trans HX.out), ⟨0, rfl⟩⟩
          · have hv : voltB v 0 = true := (HV.out).2 hb
            have HB := Aside0.mk hb
            clear hb HBAD HV
            by_cases hk0 : 0 < k
            · have hc2 := HPRE hk0
              have hj : ((k : Int) - 1).toNat = k - 1 := by omega
              generalize l0.getD (k - 1) 0 = u at *
              have hwr : IntKind.i64.wrap ((k : Int) - 1) = (k : Int) - 1 := IntWalk.i64_in _ (by omega)
              have hk1 : (0 : Int) ≤ (k : Int) - 1 := by omega
              have hk2 : (k : Int) - 1 < l0.length := by omega
              by_cases ho : v ≤ u
              · have HX := Aside0.mk (HORD.out HB.out ⟨hk0, ho⟩)
                clear HORD HNXT HPRE
                go_wp2_with (go_at_call 67; refine (voltB_calls _ _ _).mono ?_; rintro e w' ⟨rfl, rfl⟩)
                go_ret
                exact ⟨HF0.out.2.1 (hs.out.symm.trans HX.out), ⟨0, rfl⟩⟩
              · have HX := Aside0.mk (HNXT.out HB.out (fun z => ho z.2))
                clear HORD HNXT HPRE
                go_wp2_with (go_at_call 67; refine (voltB_calls _ _ _).mono ?_; rintro e w' ⟨rfl, rfl⟩)
                go_round
                case rel => exact ⟨k + 1, by omega, by go_num, ⟨HX.out.symm.trans hs.out⟩⟩
                case measure => simp [intOf]; omega
            · have HX := Aside0.mk (HNXT.out HB.out (fun z => hk0 z.1))
              have hkz : k ≤ 0 := by omega
              clear HORD HNXT HPRE hk0
              go_wp2_with (go_at_call 67; refine (voltB_calls _ _ _).mono ?_; rintro e w' ⟨rfl, rfl⟩)
              go_round
              case rel => exact ⟨k + 1, by omega, by go_num, ⟨HX.out.symm.trans hs.out⟩⟩
              case measure => simp [intOf]; omega
        · obtain rfl : k = l0.length := by omega
          have HZ : Aside0 (E0 = 0) := ⟨by have := hs.out; rw [Nat.sub_self] at this; exact this.symm⟩
          clear hs
          have HF1 : Aside0 ((E1 = 2 → Ending.returned (.int .i64 2) = .returned (.int .i64 r)) ∧ (E1 = 11 → Ending.returned (.int .i64 11) = .returned (.int .i64 r)) ∧ (E1 = 0 → Ending.returned (.int .i64 0) = .returned (.int .i64 r))) := ⟨fun z => by rw [← HF1'.out HZ.out, z], fun z => by rw [← HF1'.out HZ.out, z], fun z => by rw [← HF1'.out HZ.out, z]⟩
          go_wp2_with fail
          rw [rounds_succ]
          go_wp2_with fail
          go_loop [7, 8, 36] (fun _ _ i => ∃ k : Nat, k ≤ l1.length ∧ i = .int .i64 k ∧ Aside0 (scanN l1 0 (l1.length - k) k = E1)) (fun _ _ i => l1.length - (intOf i).toNat)
          case atStart => exact ⟨0, Nat.zero_le _, rfl, ⟨HE1.out⟩⟩
          case round =>
            obtain ⟨k, hk, rfl, hs⟩ := hrel
            by_cases hlt : k < l1.length
            · obtain ⟨ad, hA, hcell⟩ := Kd.at_int HR1.out (k : Int) (by omega) (by omega)
              have hcell' : w.cell? (ad.add k) = some (.int .i64 (l1.getD k 0)) := hcell
              clear hcell
              subst hA
              have h64 : l1.length ≤ 9223372036854775807 := HR1.out.2.1
              have HV := Aside0.mk (voltB_plate (l1.getD k 0))
              have HBAD := Aside0.mk (scanN_bad (low := 0) hlt)
              have HORD := Aside0.mk (scanN_order (low := 0) hlt)
              have HNXT := Aside0.mk (scanN_next (low := 0) hlt)
              have HPRE : 0 < k → w.cell? (ad.add (k - 1)) = some (.int .i64 (l1.getD (k - 1) 0)) := fun h => by
                obtain ⟨ad2, hA2, hc2⟩ := Kd.at_int HR1.out ((k - 1 : Nat) : Int) (by omega) (by omega)
                obtain rfl := Option.some.inj hA2
                exact hc2
              generalize l1.getD k 0 = v at *
              by_cases hb : v < 0 ∨ 1000000 < v
              · have hv : voltB 0 v = false := by rw [← Bool.not_eq_true, HV.out]; exact not_not_intro hb
                have HX := Aside0.mk (HBAD.out hb)
                clear hb HBAD HORD HNXT HPRE HV
                go_wp2_with (go_at_call 67; refine (voltB_calls _ _ _).mono ?_; rintro e w' ⟨rfl, rfl⟩)
                go_ret
                exact ⟨HF1.out.1 (hs.out.symm.trans HX.out), ⟨0, rfl⟩⟩
              · have hv : voltB 0 v = true := (HV.out).2 hb
                have HB := Aside0.mk hb
                clear hb HBAD HV
                by_cases hk0 : 0 < k
                · have hc2 := HPRE hk0
                  have hj : ((k : Int) - 1).toNat = k - 1 := by omega
                  generalize l1.getD (k - 1) 0 = u at *
                  have hwr : IntKind.i64.wrap ((k : Int) - 1) = (k : Int) - 1 := IntWalk.i64_in _ (by omega)
                  have hk1 : (0 : Int) ≤ (k : Int) - 1 := by omega
                  have hk2 : (k : Int) - 1 < l1.length := by omega
                  by_cases ho : v ≤ u
                  · have HX := Aside0.mk (HORD.out HB.out ⟨hk0, ho⟩)
                    clear HORD HNXT HPRE
                    go_wp2_with (go_at_call 67; refine (voltB_calls _ _ _).mono ?_; rintro e w' ⟨rfl, rfl⟩)
                    go_ret
                    exact ⟨HF1.out.2.1 (hs.out.symm.trans HX.out), ⟨0, rfl⟩⟩
                  · have HX := Aside0.mk (HNXT.out HB.out (fun z => ho z.2))
                    clear HORD HNXT HPRE
                    go_wp2_with (go_at_call 67; refine (voltB_calls _ _ _).mono ?_; rintro e w' ⟨rfl, rfl⟩)
                    go_round
                    case rel => exact ⟨k + 1, by omega, by go_num, ⟨HX.out.symm.trans hs.out⟩⟩
                    case measure => simp [intOf]; omega
                · have HX := Aside0.mk (HNXT.out HB.out (fun z => hk0 z.1))
                  have hkz : k ≤ 0 := by omega
                  clear HORD HNXT HPRE hk0
                  go_wp2_with (go_at_call 67; refine (voltB_calls _ _ _).mono ?_; rintro e w' ⟨rfl, rfl⟩)
                  go_round
                  case rel => exact ⟨k + 1, by omega, by go_num, ⟨HX.out.symm.trans hs.out⟩⟩
                  case measure => simp [intOf]; omega
            · obtain rfl : k = l1.length := by omega
              have HZ : Aside0 (E1 = 0) := ⟨by have := hs.out; rw [Nat.sub_self] at this; exact this.symm⟩
              clear hs
              go_wp2_with fail
              rw [rounds_succ]
              go_wp2_with fail
              go_ret
              exact ⟨HF1.out.2.2 HZ.out, ⟨0, rfl⟩⟩

end Go.Proofs.Ytbomgfbfnkfamaa.PAll
end
section
namespace Go.Proofs.Ytbomgfbfnkfamaa.PAll
open Go.RowKit Go.Proofs.YtbomgfbfnkfamaaW.PrintWords Go.Proofs.YtbomgfbfnkfamaaW.PrintLast Go.Proofs.YtbomgfbfnkfamaaW.PrintMore
attribute [local go_sem] max2_int min2_int max_two min_two max_three min_three max_four min_four   -- for this text's walks alone
set_option linter.unusedVariables false
set_option linter.unusedSimpArgs false

/-! ### curve_shaped: function 93 -/
/-- The first row, from the k-th on, that has not so many numbers (d: how many rows are left); -1: none. -/
def ixNe (l : List (List Int)) (many : Int) : Nat → Nat → Int
  | 0, _ => -1
  | d + 1, k => if ((l.getD k []).length : Int) = many then ixNe l many d (k + 1) else k
def curve_shaped.f (l0 : List (List Int)) (a1 : Int) (a2 : Int) : Option (Bool) :=
  if (l0.length : Int) = a1 then some (decide (ixNe l0 a2 l0.length 0 < 0)) else some false
theorem ixNe_bounds (l : List (List Int)) (many : Int) : ∀ (d k : Nat), ixNe l many d k = -1 ∨ 0 ≤ ixNe l many d k
  | 0, _ => .inl rfl
  | d + 1, k => by
    rw [ixNe]; split
    · exact ixNe_bounds l many d (k + 1)
    · right; omega
theorem ixNe_all (l : List (List Int)) (many : Int) : ∀ (d k : Nat), k + d = l.length → (ixNe l many d k < 0 ↔ ∀ j, k ≤ j → j < l.length → ((l.getD j []).length : Int) = many)
  | 0, k => fun h => ⟨fun _ j h1 h2 => by omega, fun _ => by rw [ixNe]; omega⟩
  | d + 1, k => fun h => by
    rw [ixNe]
    by_cases hx : ((l.getD k []).length : Int) = many
    · rw [if_pos hx, ixNe_all l many d (k + 1) (by omega)]
      refine ⟨fun z j h1 h2 => ?_, fun z j h1 h2 => z j (by omega) h2⟩
      rcases Nat.lt_or_ge k j with h3 | h3
      · exact z j h3 h2
      · obtain rfl : j = k := by omega
        exact hx
    · rw [if_neg hx]
      exact ⟨fun z => by omega, fun z => absurd (z k (Nat.le_refl _) (by omega)) hx⟩
theorem shapedT (B : Nat) (many : Int) (A0 : Option Addr) (n c0 : Nat) (hm : (n : Int) = many) (w : World) (c1 : w.cell? ⟨B, 0, none⟩ = some (.int .i64 many)) :
    Calls Try.prog 126 #[.slice A0 n c0, .pointer (some ⟨B, 0, none⟩)] w fun e w' => e = .returned (.bool false) ∧ w = w' := by
  have hb : ((n : Int) != many) = false := by simp [hm]
  clear hm
  go_enter Try.func126, Try.ntmps126
  go_wp2_with fail
  go_ret
  exact ⟨rfl, rfl⟩
theorem shapedF (B : Nat) (many : Int) (A0 : Option Addr) (n c0 : Nat) (hm : ¬ (n : Int) = many) (w : World) (c1 : w.cell? ⟨B, 0, none⟩ = some (.int .i64 many)) :
    Calls Try.prog 126 #[.slice A0 n c0, .pointer (some ⟨B, 0, none⟩)] w fun e w' => e = .returned (.bool true) ∧ w = w' := by
  have hb : ((n : Int) != many) = true := by simp [hm]
  clear hm
  go_enter Try.func126, Try.ntmps126
  go_wp2_with fail
  go_ret
  exact ⟨rfl, rfl⟩
set_option maxHeartbeats 2000000 in
set_option maxRecDepth 100000 in
theorem shapedIx (B : Nat) (many E : Int) (A0 : Option Addr) (c0 : Nat) (l0 : List (List Int)) (w : World) (c1 : w.cell? ⟨B, 0, none⟩ = some (.int .i64 many)) (hr0 : Kd.C (Kd.slice 3 (Kd.int .i64)) w A0 l0.length l0) (hc0 : l0.length ≤ c0) (hE : ixNe l0 many l0.length 0 = E) :
    Calls Try.prog 143 #[.slice A0 l0.length c0, .func (.func 126) #[] #[.pointer (some ⟨B, 0, none⟩)]] w fun e w' => e = .returned (.int .i64 E) ∧ w = w' := by
  have m0 : l0.length ≤ 9223372036854775807 := hr0.2.1
  have HR0 := Aside0.mk hr0
  have HC1 := Aside0.mk c1
  have HE := Aside0.mk hE
  clear hr0 c1 hE
  go_enter Try.func143, Try.ntmps143
  go_wp2_with fail
  go_loop [5, 8] (fun _ i => ∃ k : Nat, k ≤ l0.length ∧ i = .int .i64 k ∧ Aside0 (ixNe l0 many (l0.length - k) k = E)) (fun _ i => l0.length - (intOf i).toNat)
  case atStart => exact ⟨0, Nat.zero_le _, rfl, ⟨HE.out⟩⟩
  case round =>
    obtain ⟨k, hk, rfl, hs⟩ := hrel
    by_cases hlt : k < l0.length
    · obtain ⟨ad, Ar, cr, hA, hcell, _, _⟩ := @at_L1 _ _ _ _ HR0.out (k : Int) (by omega) (by omega)
      have hcell' : w.cell? (ad.add k) = some (.slice Ar (l0.getD k []).length cr) := hcell
      clear hcell
      subst hA
      have hd : ixNe l0 many (l0.length - k) k = if ((l0.getD k []).length : Int) = many then ixNe l0 many (l0.length - (k + 1)) (k + 1) else k := by
        obtain ⟨d, hd⟩ : ∃ d, l0.length - k = d + 1 := ⟨l0.length - k - 1, by omega⟩
        rw [hd, ixNe, show l0.length - (k + 1) = d by omega]
      generalize (l0.getD k []).length = n at *
      by_cases hn : (n : Int) = many
      · have HX : Aside0 (ixNe l0 many (l0.length - (k + 1)) (k + 1) = E) := ⟨by rw [if_pos hn] at hd; rw [← hd]; exact hs.out⟩
        have HT := Aside0.mk (shapedT B many Ar n cr hn)
        clear hd hn hs
        go_wp2_with (go_at_call 126; refine (HT.out w HC1.out).mono ?_; rintro e w' ⟨rfl, rfl⟩)
        go_round
        case rel => exact ⟨k + 1, by omega, by go_num, HX⟩
        case measure => simp [intOf]; omega
      · have HX : Aside0 ((k : Int) = E) := ⟨by rw [if_neg hn] at hd; rw [← hd]; exact hs.out⟩
        have HT := Aside0.mk (shapedF B many Ar n cr hn)
        clear hd hn hs
        go_wp2_with (go_at_call 126; refine (HT.out w HC1.out).mono ?_; rintro e w' ⟨rfl, rfl⟩)
        go_ret
        exact ⟨congrArg (fun x => Ending.returned (.int .i64 x)) HX.out, rfl⟩
    · obtain rfl : k = l0.length := by omega
      have HX : Aside0 (E = -1) := ⟨by have := hs.out; rw [Nat.sub_self, ixNe] at this; exact this.symm⟩
      clear hs
      go_wp2_with fail
      go_ret
      exact ⟨congrArg (fun x => Ending.returned (.int .i64 x)) HX.out.symm, rfl⟩
set_option maxHeartbeats 1000000 in
theorem shapedHas (B : Nat) (many : Int) (A0 : Option Addr) (c0 : Nat) (l0 : List (List Int)) (w : World) (c1 : w.cell? ⟨B, 0, none⟩ = some (.int .i64 many)) (hr0 : Kd.C (Kd.slice 3 (Kd.int .i64)) w A0 l0.length l0) (hc0 : l0.length ≤ c0) :
    Calls Try.prog 125 #[.slice A0 l0.length c0, .func (.func 126) #[] #[.pointer (some ⟨B, 0, none⟩)]] w fun e w' => e = .returned (.bool (decide (0 ≤ ixNe l0 many l0.length 0))) ∧ w = w' := by
  have HT := Aside0.mk (fun E hE => shapedIx B many E A0 c0 l0 w c1 hr0 hc0 hE)
  obtain ⟨E, hE⟩ : ∃ E, ixNe l0 many l0.length 0 = E := ⟨_, rfl⟩
  rw [hE]
  have HE := Aside0.mk hE
  clear hE hr0 hc0 c1
  go_enter Try.func125, Try.ntmps125
  go_wp2_with (go_at_call 143; refine (HT.out E HE.out).mono ?_; rintro e w' ⟨rfl, rfl⟩)
  all_goals
    go_ret
    first | exact ⟨rfl, rfl⟩ | exact ⟨by simp [*], rfl⟩
set_option maxHeartbeats 8000000 in
set_option maxRecDepth 100000 in
theorem curve_shaped.calls (A0 : Option Addr) (c0 : Nat) (l0 : List (List Int)) (a1 : Int) (a2 : Int) (r : Bool) (w : World) (hr0 : Kd.C (Kd.slice 3 (Kd.int .i64)) w A0 l0.length l0) (hc0 : l0.length ≤ c0) (h : curve_shaped.f l0 a1 a2 = some r) :
    Calls Try.prog 93 #[.slice A0 l0.length c0, .int .i64 a1, .int .i64 a2] w fun e w' => e = .returned (.bool r) ∧ Below w.heap.size w w' := by
  unfold curve_shaped.f at h
  by_cases hn : (l0.length : Int) = a1
  · rw [if_pos hn] at h
    obtain rfl := Option.some.inj h
    have hb : ((l0.length : Int) == a1) = true := by simp [hn]
    have HN : Aside0 ((!(decide (0 ≤ ixNe l0 a2 l0.length 0))) = decide (ixNe l0 a2 l0.length 0 < 0)) := ⟨by rw [← decide_not]; exact decide_eq_decide.2 (by omega)⟩
    have HT := Aside0.mk (fun B W c1 (hb : Below w.heap.size w W) => shapedHas B a2 A0 c0 l0 W c1 (Kd.C_below hr0 hb) hc0)
    have HB := Aside0.mk (fun o => below_alloc (Below.refl w.heap.size w) o)
    rw [← HN.out]
    generalize decide (0 ≤ ixNe l0 a2 l0.length 0) = bb at *
    clear hn h hr0 hc0 HN
    go_enter Try.func93, Try.ntmps93
    go_wp2_with (go_at_call 125; refine (HT.out w.heap.size _ (by simp) (HB.out _)).mono ?_; rintro e w' ⟨rfl, rfl⟩)
    go_ret
    exact ⟨rfl, HB.out _⟩
  · rw [if_neg hn] at h
    obtain rfl := Option.some.inj h
    have hb : ((l0.length : Int) == a1) = false := by simp [hn]
    have HB := Aside0.mk (fun o => below_alloc (Below.refl w.heap.size w) o)
    clear hn h hr0 hc0
    go_enter Try.func93, Try.ntmps93
    go_wp2_with fail
    go_ret
    exact ⟨rfl, HB.out _⟩

end Go.Proofs.Ytbomgfbfnkfamaa.PAll
end
section
namespace Go.Proofs.Ytbomgfbfnkfamaa.PAll
open Go.RowKit Go.Proofs.YtbomgfbfnkfamaaW.PrintWords Go.Proofs.YtbomgfbfnkfamaaW.PrintLast Go.Proofs.YtbomgfbfnkfamaaW.PrintMore
attribute [local go_sem] max2_int min2_int max_two min_two max_three min_three max_four min_four   -- for this text's walks alone
set_option linter.unusedVariables false
set_option linter.unusedSimpArgs false

/-! ### curve_Check: function 37 -/
def vc (t : List (List Int)) (i k : Nat) : Int := (t.getD i []).getD k 0
def cellE (a b a1 b1 a2 b2 : Int) (i k : Nat) : Int :=
  if a < 0 ∨ b < 0 ∨ 1000000 < a ∨ 1000000 < b then 2 else if b < a then 12 else
  if 0 < i ∧ (a < a1 ∨ b < b1) then 11 else if 0 < k ∧ (a < a2 ∨ b < b2) then 11 else 0
def cellErr (lo hi : List (List Int)) (i k : Nat) : Int := cellE (vc lo i k) (vc hi i k) (vc lo (i - 1) k) (vc hi (i - 1) k) (vc lo i (k - 1)) (vc hi i (k - 1)) i k
def rowErrN (lo hi : List (List Int)) (i : Nat) : Nat → Nat → Int
  | 0, _ => 0
  | d + 1, k => if cellErr lo hi i k = 0 then rowErrN lo hi i d (k + 1) else cellErr lo hi i k
def tabErrN (lo hi : List (List Int)) (m : Nat) : Nat → Nat → Int
  | 0, _ => 0
  | d + 1, i => if rowErrN lo hi i m 0 = 0 then tabErrN lo hi m d (i + 1) else rowErrN lo hi i m 0
def curve_Check.f (l0_0 : List Int) (l0_1 : List Int) (l0_2 : List (List Int)) (l0_3 : List (List Int)) : Option (Int) :=
  (curve_lines.f l0_0 l0_1).bind fun e => if e = 0 then (curve_shaped.f l0_2 (l0_0.length : Int) (l0_1.length : Int)).bind fun b => if b = true then (curve_shaped.f l0_3 (l0_0.length : Int) (l0_1.length : Int)).bind fun c => if c = true then some (tabErrN l0_2 l0_3 l0_1.length l0_0.length 0) else some 3 else some 3 else some e
theorem below_callC {w W W' : World} (h : Below w.heap.size w W) (k : Below W.heap.size W W') : Below w.heap.size w W' := below_then h h.size k
theorem shaped_len {t : List (List Int)} {n m : Int} (h : curve_shaped.f t n m = some true) : (t.length : Int) = n ∧ ∀ j, j < t.length → ((t.getD j []).length : Int) = m := by
  unfold curve_shaped.f at h
  split at h
  · rename_i hn
    have h2 := of_decide_eq_true (Option.some.inj h)
    exact ⟨hn, fun j hj => (ixNe_all t m t.length 0 (by omega)).1 h2 j (by omega) hj⟩
  · cases h
theorem rowFacts {w : World} {A : Option Addr} {n : Nat} {t : List (List Int)} (h : Kd.C (Kd.slice 3 (Kd.int .i64)) w A n t) (i k : Nat) (hi : i < n) (hk : k < (t.getD i []).length) :
    ∃ ad a c, A = some ad ∧ w.cell? (ad.add i) = some (.slice (some a) (t.getD i []).length c) ∧ (∀ j, j < (t.getD i []).length → w.cell? (a.add j) = some (.int .i64 (vc t i j))) ∧ (t.getD i []).length ≤ c := by
  obtain ⟨ad, Ar, cr, hA, hcell, hl, hC⟩ := @at_L1 _ _ _ _ h (i : Int) (by omega) (by omega)
  obtain ⟨a, hA2, _⟩ := Kd.at_int hC (k : Int) (by omega) (by show (k : Int) < ((t.getD i []).length : Int); omega)
  refine ⟨ad, a, cr, hA, by rw [← hA2]; exact hcell, fun j hj => ?_, hl⟩
  obtain ⟨a2, hA3, hc3⟩ := Kd.at_int hC (j : Int) (by omega) (by show (j : Int) < ((t.getD i []).length : Int); omega)
  obtain rfl : a = a2 := Option.some.inj (hA2.symm.trans hA3)
  exact hc3
theorem rowErr_bad {lo hi : List (List Int)} {i m k : Nat} (hk : k < m) {e : Int} (he : cellErr lo hi i k = e) (hne : e ≠ 0) : rowErrN lo hi i (m - k) k = e := by
  obtain ⟨d, hd⟩ : ∃ d, m - k = d + 1 := ⟨m - k - 1, by omega⟩
  rw [hd, rowErrN, if_neg (by rw [he]; exact hne), he]
theorem rowErr_next {lo hi : List (List Int)} {i m k : Nat} (hk : k < m) (he : cellErr lo hi i k = 0) : rowErrN lo hi i (m - k) k = rowErrN lo hi i (m - (k + 1)) (k + 1) := by
  obtain ⟨d, hd⟩ : ∃ d, m - k = d + 1 := ⟨m - k - 1, by omega⟩
  rw [hd, rowErrN, if_pos he, show m - (k + 1) = d by omega]
theorem tabErr_bad {lo hi : List (List Int)} {n m i : Nat} (hi' : i < n) {e : Int} (he : rowErrN lo hi i m 0 = e) (hne : e ≠ 0) : tabErrN lo hi m (n - i) i = e := by
  obtain ⟨d, hd⟩ : ∃ d, n - i = d + 1 := ⟨n - i - 1, by omega⟩
  rw [hd, tabErrN, if_neg (by rw [he]; exact hne), he]
theorem endErr {lo hi : List (List Int)} {n m i k : Nat} {E E2 e : Int} (hi' : i < n) (hk : k < m) (hE2 : rowErrN lo hi i m 0 = E2) (hs : rowErrN lo hi i (m - k) k = E2) (ht : tabErrN lo hi m (n - i) i = E) (he : cellErr lo hi i k = e) (hne : e ≠ 0) : Ending.returned (.int .i64 e) = .returned (.int .i64 E) := by
  rw [rowErr_bad hk he hne] at hs
  rw [tabErr_bad hi' (hE2.trans hs.symm) hne] at ht
  rw [ht]
theorem tabErr_next {lo hi : List (List Int)} {n m i : Nat} (hi' : i < n) (he : rowErrN lo hi i m 0 = 0) : tabErrN lo hi m (n - i) i = tabErrN lo hi m (n - (i + 1)) (i + 1) := by
  obtain ⟨d, hd⟩ : ∃ d, n - i = d + 1 := ⟨n - i - 1, by omega⟩
  rw [hd, tabErrN, if_pos he, show n - (i + 1) = d by omega]

set_option maxHeartbeats 8000000 in
set_option maxRecDepth 100000 in
theorem curve_Check.calls (A0_0 : Option Addr) (c0_0 : Nat) (l0_0 : List Int) (A0_1 : Option Addr) (c0_1 : Nat) (l0_1 : List Int) (A0_2 : Option Addr) (c0_2 : Nat) (l0_2 : List (List Int)) (A0_3 : Option Addr) (c0_3 : Nat) (l0_3 : List (List Int)) (r : Int) (w : World) (hr0_0 : Kd.C (Kd.int .i64) w A0_0 l0_0.length l0_0) (hc0_0 : l0_0.length ≤ c0_0) (hr0_1 : Kd.C (Kd.int .i64) w A0_1 l0_1.length l0_1) (hc0_1 : l0_1.length ≤ c0_1) (hr0_2 : Kd.C (Kd.slice 3 (Kd.int .i64)) w A0_2 l0_2.length l0_2) (hc0_2 : l0_2.length ≤ c0_2) (hr0_3 : Kd.C (Kd.slice 3 (Kd.int .i64)) w A0_3 l0_3.length l0_3) (hc0_3 : l0_3.length ≤ c0_3) (h : curve_Check.f l0_0 l0_1 l0_2 l0_3 = some r) :
    Calls Try.prog 37 #[.agg #[.slice A0_0 l0_0.length c0_0, .slice A0_1 l0_1.length c0_1, .slice A0_2 l0_2.length c0_2, .slice A0_3 l0_3.length c0_3]] w fun e w' => e = .returned (.int .i64 r) ∧ Below w.heap.size w w' := by
  unfold curve_Check.f at h
  have n0 : l0_0.length ≤ 9223372036854775807 := hr0_0.2.1
  have n1 : l0_1.length ≤ 9223372036854775807 := hr0_1.2.1
  have n2 : l0_2.length ≤ 9223372036854775807 := hr0_2.2.1
  have n3 : l0_3.length ≤ 9223372036854775807 := hr0_3.2.1
  obtain ⟨e, he, h⟩ := Option.bind_eq_some_iff.mp h
  have HL := Aside0.mk (fun W (hb : Below w.heap.size w W) => curve_lines.calls A0_0 c0_0 l0_0 A0_1 c0_1 l0_1 e W (Kd.C_below hr0_0 hb) hc0_0 (Kd.C_below hr0_1 hb) hc0_1 he)
  have HW := Aside0.mk (fun o => below_alloc (Below.refl w.heap.size w) o)
  have HC2 := Aside0.mk hr0_2
  have HC3 := Aside0.mk hr0_3
  clear hr0_0 hr0_1 hr0_2 hr0_3 he
  by_cases z : e = 0
  · subst z
    rw [if_pos rfl] at h
    obtain ⟨b, hb, h⟩ := Option.bind_eq_some_iff.mp h
    have HS1 := Aside0.mk (fun W (hw : Below w.heap.size w W) => curve_shaped.calls A0_2 c0_2 l0_2 l0_0.length l0_1.length b W (Kd.C_below HC2.out hw) hc0_2 hb)
    cases b with
    | false =>
      rw [if_neg (by simp)] at h
      obtain rfl := Option.some.inj h
      clear hb h HC2 HC3
      go_enter Try.func37, Try.ntmps37
      go_wp2_with (first | (go_at_call 92; (refine (HL.out (w.alloc _) (HW.out _)).mono ?_); rintro e ww ⟨rfl, ⟨nq, rfl⟩⟩; (have HB1 := Aside0.mk (pw_below_drewN (HW.out (Obj.cells #[.slice A0_0 l0_0.length c0_0, .slice A0_1 l0_1.length c0_1, .slice A0_2 l0_2.length c0_2, .slice A0_3 l0_3.length c0_3] 25)) nq))) | (go_at_call 93; (refine (HS1.out _ HB1.out).mono ?_); rintro e ww ⟨rfl, hb⟩; (have HB2 := Aside0.mk (below_callC HB1.out hb)); (have kf0 := pw_cell_below hb (show World.cell? _ ⟨w.heap.size, 0, none⟩ = some (.slice A0_0 l0_0.length c0_0) by simp)); (have kf1 := pw_cell_below hb (show World.cell? _ ⟨w.heap.size, 1, none⟩ = some (.slice A0_1 l0_1.length c0_1) by simp)); (have kf2 := pw_cell_below hb (show World.cell? _ ⟨w.heap.size, 2, none⟩ = some (.slice A0_2 l0_2.length c0_2) by simp)); (have kf3 := pw_cell_below hb (show World.cell? _ ⟨w.heap.size, 3, none⟩ = some (.slice A0_3 l0_3.length c0_3) by simp)); clear hb HB1))
      go_ret
      exact ⟨rfl, HB2.out⟩
    | true =>
      rw [if_pos rfl] at h
      have hq2 := shaped_len hb
      clear hb
      obtain ⟨b, hb, h⟩ := Option.bind_eq_some_iff.mp h
      have HS2 := Aside0.mk (fun W (hw : Below w.heap.size w W) => curve_shaped.calls A0_3 c0_3 l0_3 l0_0.length l0_1.length b W (Kd.C_below HC3.out hw) hc0_3 hb)
      cases b with
      | false =>
        rw [if_neg (by simp)] at h
        obtain rfl := Option.some.inj h
        clear hb h HC2 HC3 hq2
        go_enter Try.func37, Try.ntmps37
        go_wp2_with (first | (go_at_call 92; (refine (HL.out (w.alloc _) (HW.out _)).mono ?_); rintro e ww ⟨rfl, ⟨nq, rfl⟩⟩; (have HB1 := Aside0.mk (pw_below_drewN (HW.out (Obj.cells #[.slice A0_0 l0_0.length c0_0, .slice A0_1 l0_1.length c0_1, .slice A0_2 l0_2.length c0_2, .slice A0_3 l0_3.length c0_3] 25)) nq))) | (go_at_call 93; (refine (HS1.out _ HB1.out).mono ?_); rintro e ww ⟨rfl, hb⟩; (have HB2 := Aside0.mk (below_callC HB1.out hb)); (have kf0 := pw_cell_below hb (show World.cell? _ ⟨w.heap.size, 0, none⟩ = some (.slice A0_0 l0_0.length c0_0) by simp)); (have kf1 := pw_cell_below hb (show World.cell? _ ⟨w.heap.size, 1, none⟩ = some (.slice A0_1 l0_1.length c0_1) by simp)); (have kf2 := pw_cell_below hb (show World.cell? _ ⟨w.heap.size, 2, none⟩ = some (.slice A0_2 l0_2.length c0_2) by simp)); (have kf3 := pw_cell_below hb (show World.cell? _ ⟨w.heap.size, 3, none⟩ = some (.slice A0_3 l0_3.length c0_3) by simp)); clear hb HB1) | (go_at_call 93; (refine (HS2.out _ HB2.out).mono ?_); rintro e ww ⟨rfl, hb⟩; (have HB3 := Aside0.mk (below_callC HB2.out hb)); (have kg0 := pw_cell_below hb kf0); (have kg1 := pw_cell_below hb kf1); (have kg2 := pw_cell_below hb kf2); (have kg3 := pw_cell_below hb kf3); clear hb HB2))
        go_ret
        exact ⟨rfl, HB3.out⟩
      | true =>
        rw [if_pos rfl] at h
        have hq3 := shaped_len hb
        obtain rfl := Option.some.inj h
        clear hb h
        have HQ2 : Aside0 (l0_2.length = l0_0.length ∧ ∀ j, j < l0_2.length → (l0_2.getD j []).length = l0_1.length) := ⟨by omega, fun j hj => by have := hq2.2 j hj; omega⟩
        have HQ3 : Aside0 (l0_3.length = l0_0.length ∧ ∀ j, j < l0_3.length → (l0_3.getD j []).length = l0_1.length) := ⟨by omega, fun j hj => by have := hq3.2 j hj; omega⟩
        clear hq2 hq3
        obtain ⟨E, hE⟩ : ∃ E, tabErrN l0_2 l0_3 l0_1.length l0_0.length 0 = E := ⟨_, rfl⟩
        rw [hE]
        have HE := Aside0.mk hE
        clear hE
        go_enter Try.func37, Try.ntmps37
        go_wp2_with (first | (go_at_call 92; (refine (HL.out (w.alloc _) (HW.out _)).mono ?_); rintro e ww ⟨rfl, ⟨nq, rfl⟩⟩; (have HB1 := Aside0.mk (pw_below_drewN (HW.out (Obj.cells #[.slice A0_0 l0_0.length c0_0, .slice A0_1 l0_1.length c0_1, .slice A0_2 l0_2.length c0_2, .slice A0_3 l0_3.length c0_3] 25)) nq))) | (go_at_call 93; (refine (HS1.out _ HB1.out).mono ?_); rintro e ww ⟨rfl, hb⟩; (have HB2 := Aside0.mk (below_callC HB1.out hb)); (have kf0 := pw_cell_below hb (show World.cell? _ ⟨w.heap.size, 0, none⟩ = some (.slice A0_0 l0_0.length c0_0) by simp)); (have kf1 := pw_cell_below hb (show World.cell? _ ⟨w.heap.size, 1, none⟩ = some (.slice A0_1 l0_1.length c0_1) by simp)); (have kf2 := pw_cell_below hb (show World.cell? _ ⟨w.heap.size, 2, none⟩ = some (.slice A0_2 l0_2.length c0_2) by simp)); (have kf3 := pw_cell_below hb (show World.cell? _ ⟨w.heap.size, 3, none⟩ = some (.slice A0_3 l0_3.length c0_3) by simp)); clear hb HB1) | (go_at_call 93; (refine (HS2.out _ HB2.out).mono ?_); rintro e ww ⟨rfl, hb⟩; (have HB3 := Aside0.mk (below_callC HB2.out hb)); (have kg0 := pw_cell_below hb kf0); (have kg1 := pw_cell_below hb kf1); (have kg2 := pw_cell_below hb kf2); (have kg3 := pw_cell_below hb kf3); clear hb HB2))
        have HK := Aside0.mk (And.intro kg0 (And.intro kg1 (And.intro kg2 kg3)))
        clear kf0 kf1 kf2 kf3 kg0 kg1 kg2 kg3 HS1 HS2 HL HW
        obtain ⟨w3, hw3⟩ : ∃ w3 : World, w3 = ww := ⟨_, rfl⟩
        subst hw3
        go_loopw [40] (fun i wr => ∃ i' : Nat, i' ≤ l0_0.length ∧ i = .int .i64 i' ∧ Aside0 (tabErrN l0_2 l0_3 l0_1.length (l0_0.length - i') i' = E) ∧ Aside0 (Below w3.heap.size w3 wr)) (fun i _ => l0_0.length - (intOf i).toNat)
        case atStart => exact ⟨0, Nat.zero_le _, rfl, ⟨HE.out⟩, ⟨Below.refl _ _⟩⟩
        case round =>
          obtain ⟨i, hi, rfl, hsi, hBi⟩ := hrel
          have g0 : wr.cell? ⟨w.heap.size, 0, none⟩ = some (.slice A0_0 l0_0.length c0_0) := pw_cell_below hBi.out HK.out.1
          have g1 : wr.cell? ⟨w.heap.size, 1, none⟩ = some (.slice A0_1 l0_1.length c0_1) := pw_cell_below hBi.out HK.out.2.1
          by_cases hil : i < l0_0.length
          · go_wp2_with fail
            obtain ⟨w4, hw4⟩ : ∃ w4 : World, w4 = wr := ⟨_, rfl⟩
            subst hw4
            clear g0 g1
            obtain ⟨E2, hE2⟩ : ∃ E2, rowErrN l0_2 l0_3 i l0_1.length 0 = E2 := ⟨_, rfl⟩
            have HE2 := Aside0.mk hE2
            clear hE2
            go_loopw [46] (fun j wr => ∃ k : Nat, k ≤ l0_1.length ∧ j = .int .i64 k ∧ Aside0 (rowErrN l0_2 l0_3 i (l0_1.length - k) k = E2) ∧ Aside0 (Below w3.heap.size w3 wr)) (fun j _ => l0_1.length - (intOf j).toNat)
            case atStart => exact ⟨0, Nat.zero_le _, rfl, ⟨HE2.out⟩, hBi⟩
            case round =>
              obtain ⟨k, hk, rfl, hsk, hBk⟩ := hrel
              by_cases hkl : k < l0_1.length
              · have hbw : Below w.heap.size w wr := below_callC HB3.out hBk.out
                have g2 : wr.cell? ⟨w.heap.size, 2, none⟩ = some (.slice A0_2 l0_2.length c0_2) := pw_cell_below hBk.out HK.out.2.2.1
                have g3 : wr.cell? ⟨w.heap.size, 3, none⟩ = some (.slice A0_3 l0_3.length c0_3) := pw_cell_below hBk.out HK.out.2.2.2
                have q2 := HQ2.out.2 i (by have := HQ2.out.1; omega)
                have q3 := HQ3.out.2 i (by have := HQ3.out.1; omega)
                obtain ⟨dl, al, cl, hAl, hrl, hel, hcl⟩ := rowFacts (Kd.C_below HC2.out hbw) i k (by have := HQ2.out.1; omega) (by omega)
                obtain ⟨dh, ah, ch, hAh, hrh, heh, hch⟩ := rowFacts (Kd.C_below HC3.out hbw) i k (by have := HQ3.out.1; omega) (by omega)
                rw [q2] at hrl hel hcl
                rw [q3] at hrh heh hch
                rw [hAl] at g2
                rw [hAh] at g3
                have m2 : i < l0_2.length := by have := HQ2.out.1; omega
                have m3 : i < l0_3.length := by have := HQ3.out.1; omega
                have e0 := hel k hkl
                have e1 := heh k hkl
                have HCE : Aside0 (cellErr l0_2 l0_3 i k = cellE (vc l0_2 i k) (vc l0_3 i k) (vc l0_2 (i - 1) k) (vc l0_3 (i - 1) k) (vc l0_2 i (k - 1)) (vc l0_3 i (k - 1)) i k) := ⟨rfl⟩
                have HEND := Aside0.mk (fun e => endErr (e := e) hil hkl HE2.out hsk.out hsi.out)
                have HNEXT : Aside0 (cellErr l0_2 l0_3 i k = 0 → rowErrN l0_2 l0_3 i (l0_1.length - (k + 1)) (k + 1) = E2) := ⟨fun z => (rowErr_next hkl z).symm.trans hsk.out⟩
                have HP : Aside0 (0 < i → ∃ al1 cl1 ah1 ch1, wr.cell? (dl.add (i - 1)) = some (.slice (some al1) l0_1.length cl1) ∧ wr.cell? (al1.add k) = some (.int .i64 (vc l0_2 (i - 1) k)) ∧ wr.cell? (dh.add (i - 1)) = some (.slice (some ah1) l0_1.length ch1) ∧ wr.cell? (ah1.add k) = some (.int .i64 (vc l0_3 (i - 1) k))) := ⟨fun hi0 => by
                  have q2 := HQ2.out.2 (i - 1) (by omega)
                  have q3 := HQ3.out.2 (i - 1) (by omega)
                  obtain ⟨dl1, al1, cl1, hAl1, hrl1, hel1, _⟩ := rowFacts (Kd.C_below HC2.out hbw) (i - 1) k (by omega) (by omega)
                  obtain ⟨dh1, ah1, ch1, hAh1, hrh1, heh1, _⟩ := rowFacts (Kd.C_below HC3.out hbw) (i - 1) k (by omega) (by omega)
                  obtain rfl := Option.some.inj (hAl.symm.trans hAl1)
                  obtain rfl := Option.some.inj (hAh.symm.trans hAh1)
                  rw [q2] at hrl1 hel1
                  rw [q3] at hrh1 heh1
                  exact ⟨al1, cl1, ah1, ch1, hrl1, hel1 k hkl, hrh1, heh1 k hkl⟩⟩
                have HD : Aside0 (0 < k → wr.cell? (al.add (k - 1)) = some (.int .i64 (vc l0_2 i (k - 1))) ∧ wr.cell? (ah.add (k - 1)) = some (.int .i64 (vc l0_3 i (k - 1)))) := ⟨fun _ => ⟨hel (k - 1) (by omega), heh (k - 1) (by omega)⟩⟩
                clear q2 q3 hel heh hsk HE HC2 HC3 hAl hAh
                generalize cellErr l0_2 l0_3 i k = CE at *
                generalize vc l0_2 i k = a at *
                generalize vc l0_3 i k = b at *
                generalize vc l0_2 (i - 1) k = a1 at *
                generalize vc l0_3 (i - 1) k = b1 at *
                generalize vc l0_2 i (k - 1) = a2 at *
                generalize vc l0_3 i (k - 1) = b2 at *
                by_cases c3 : b < a
                · have hmx : (if a < b then b else a) = a := by split <;> omega
                  have hmn : (if b < a then b else a) = b := by split <;> omega
                  by_cases c1 : b < 0
                  · skip
                    have HX : Aside0 (CE = 2) := ⟨by rw [HCE.out]; unfold cellE; repeat (first | rw [if_pos (by omega)] | rw [if_neg (by omega)])⟩
                    go_wp2_with fail
                    go_region_held3 (fun w' => w'.cell? ⟨w.heap.size, 2, none⟩ = some (.slice (some dl) l0_2.length c0_2) ∧ w'.cell? (dl.add i) = some (.slice (some al) l0_1.length cl) ∧ w'.cell? ⟨w.heap.size, 3, none⟩ = some (.slice (some dh) l0_3.length c0_3) ∧ w'.cell? (dh.add i) = some (.slice (some ah) l0_1.length ch) ∧ w'.cell? (al.add k) = some (.int .i64 a) ∧ w'.cell? (ah.add k) = some (.int .i64 b)) (refine ⟨pw_cell_below ?_ g2, pw_cell_below ?_ hrl, pw_cell_below ?_ g3, pw_cell_below ?_ hrh, pw_cell_below ?_ e0, pw_cell_below ?_ e1⟩ <;> (repeat (first | exact Below.refl _ _ | apply below_alloc | apply below_drew1 | refine below_set ?_ (by simp)))) (first | (fail))
                    rename_i hHeld
                    clear hHeld
                    have hb6 : Below wr.heap.size wr (wr.alloc (Obj.cells #[.int .i64 a, .int .i64 b] 35)).drew := below_drew (below_alloc (Below.refl _ _) _)
                    have r0 : (wr.alloc (Obj.cells #[.int .i64 a, .int .i64 b] 35)).drew.cell? ⟨wr.heap.size, 0, none⟩ = some (.int .i64 a) := by simp
                    have r1 : (wr.alloc (Obj.cells #[.int .i64 a, .int .i64 b] 35)).drew.cell? ⟨wr.heap.size, 1, none⟩ = some (.int .i64 b) := by simp
                    replace hbw := below_callC hbw hb6
                    replace g2 := pw_cell_below hb6 g2
                    replace hrl := pw_cell_below hb6 hrl
                    replace g3 := pw_cell_below hb6 g3
                    replace hrh := pw_cell_below hb6 hrh
                    replace e0 := pw_cell_below hb6 e0
                    replace e1 := pw_cell_below hb6 e1
                    replace hBk := Aside0.mk (below_callC hBk.out hb6)
                    clear hb6
                    generalize (wr.alloc (Obj.cells #[.int .i64 a, .int .i64 b] 35)).drew = w6 at *
                    go_wp2_with fail
                    go_ret
                    exact ⟨HEND.out _ HX.out (by decide), hbw⟩
                  · by_cases c2 : 1000000 < a
                    · skip
                      have HX : Aside0 (CE = 2) := ⟨by rw [HCE.out]; unfold cellE; repeat (first | rw [if_pos (by omega)] | rw [if_neg (by omega)])⟩
                      go_wp2_with fail
                      go_region_held3 (fun w' => w'.cell? ⟨w.heap.size, 2, none⟩ = some (.slice (some dl) l0_2.length c0_2) ∧ w'.cell? (dl.add i) = some (.slice (some al) l0_1.length cl) ∧ w'.cell? ⟨w.heap.size, 3, none⟩ = some (.slice (some dh) l0_3.length c0_3) ∧ w'.cell? (dh.add i) = some (.slice (some ah) l0_1.length ch) ∧ w'.cell? (al.add k) = some (.int .i64 a) ∧ w'.cell? (ah.add k) = some (.int .i64 b)) (refine ⟨pw_cell_below ?_ g2, pw_cell_below ?_ hrl, pw_cell_below ?_ g3, pw_cell_below ?_ hrh, pw_cell_below ?_ e0, pw_cell_below ?_ e1⟩ <;> (repeat (first | exact Below.refl _ _ | apply below_alloc | apply below_drew1 | refine below_set ?_ (by simp)))) (first | (fail))
                      rename_i hHeld
                      clear hHeld
                      have hb6 : Below wr.heap.size wr (wr.alloc (Obj.cells #[.int .i64 a, .int .i64 b] 35)).drew := below_drew (below_alloc (Below.refl _ _) _)
                      have r0 : (wr.alloc (Obj.cells #[.int .i64 a, .int .i64 b] 35)).drew.cell? ⟨wr.heap.size, 0, none⟩ = some (.int .i64 a) := by simp
                      have r1 : (wr.alloc (Obj.cells #[.int .i64 a, .int .i64 b] 35)).drew.cell? ⟨wr.heap.size, 1, none⟩ = some (.int .i64 b) := by simp
                      replace hbw := below_callC hbw hb6
                      replace g2 := pw_cell_below hb6 g2
                      replace hrl := pw_cell_below hb6 hrl
                      replace g3 := pw_cell_below hb6 g3
                      replace hrh := pw_cell_below hb6 hrh
                      replace e0 := pw_cell_below hb6 e0
                      replace e1 := pw_cell_below hb6 e1
                      replace hBk := Aside0.mk (below_callC hBk.out hb6)
                      clear hb6
                      generalize (wr.alloc (Obj.cells #[.int .i64 a, .int .i64 b] 35)).drew = w6 at *
                      go_wp2_with fail
                      go_ret
                      exact ⟨HEND.out _ HX.out (by decide), hbw⟩
                    · skip
                      have HX : Aside0 (CE = 12) := ⟨by rw [HCE.out]; unfold cellE; repeat (first | rw [if_pos (by omega)] | rw [if_neg (by omega)])⟩
                      go_wp2_with fail
                      go_region_held3 (fun w' => w'.cell? ⟨w.heap.size, 2, none⟩ = some (.slice (some dl) l0_2.length c0_2) ∧ w'.cell? (dl.add i) = some (.slice (some al) l0_1.length cl) ∧ w'.cell? ⟨w.heap.size, 3, none⟩ = some (.slice (some dh) l0_3.length c0_3) ∧ w'.cell? (dh.add i) = some (.slice (some ah) l0_1.length ch) ∧ w'.cell? (al.add k) = some (.int .i64 a) ∧ w'.cell? (ah.add k) = some (.int .i64 b)) (refine ⟨pw_cell_below ?_ g2, pw_cell_below ?_ hrl, pw_cell_below ?_ g3, pw_cell_below ?_ hrh, pw_cell_below ?_ e0, pw_cell_below ?_ e1⟩ <;> (repeat (first | exact Below.refl _ _ | apply below_alloc | apply below_drew1 | refine below_set ?_ (by simp)))) (first | (fail))
                      rename_i hHeld
                      clear hHeld
                      have hb6 : Below wr.heap.size wr (wr.alloc (Obj.cells #[.int .i64 a, .int .i64 b] 35)).drew := below_drew (below_alloc (Below.refl _ _) _)
                      have r0 : (wr.alloc (Obj.cells #[.int .i64 a, .int .i64 b] 35)).drew.cell? ⟨wr.heap.size, 0, none⟩ = some (.int .i64 a) := by simp
                      have r1 : (wr.alloc (Obj.cells #[.int .i64 a, .int .i64 b] 35)).drew.cell? ⟨wr.heap.size, 1, none⟩ = some (.int .i64 b) := by simp
                      replace hbw := below_callC hbw hb6
                      replace g2 := pw_cell_below hb6 g2
                      replace hrl := pw_cell_below hb6 hrl
                      replace g3 := pw_cell_below hb6 g3
                      replace hrh := pw_cell_below hb6 hrh
                      replace e0 := pw_cell_below hb6 e0
                      replace e1 := pw_cell_below hb6 e1
                      replace hBk := Aside0.mk (below_callC hBk.out hb6)
                      clear hb6
                      generalize (wr.alloc (Obj.cells #[.int .i64 a, .int .i64 b] 35)).drew = w6 at *
                      go_wp2_with fail
                      go_ret
                      exact ⟨HEND.out _ HX.out (by decide), hbw⟩
                · replace c3 : a ≤ b := by omega
                  have hmx : (if a < b then b else a) = b := by split <;> omega
                  have hmn : (if b < a then b else a) = a := by split <;> omega
                  by_cases c1 : a < 0
                  · skip
                    have HX : Aside0 (CE = 2) := ⟨by rw [HCE.out]; unfold cellE; repeat (first | rw [if_pos (by omega)] | rw [if_neg (by omega)])⟩
                    go_wp2_with fail
                    go_region_held3 (fun w' => w'.cell? ⟨w.heap.size, 2, none⟩ = some (.slice (some dl) l0_2.length c0_2) ∧ w'.cell? (dl.add i) = some (.slice (some al) l0_1.length cl) ∧ w'.cell? ⟨w.heap.size, 3, none⟩ = some (.slice (some dh) l0_3.length c0_3) ∧ w'.cell? (dh.add i) = some (.slice (some ah) l0_1.length ch) ∧ w'.cell? (al.add k) = some (.int .i64 a) ∧ w'.cell? (ah.add k) = some (.int .i64 b)) (refine ⟨pw_cell_below ?_ g2, pw_cell_below ?_ hrl, pw_cell_below ?_ g3, pw_cell_below ?_ hrh, pw_cell_below ?_ e0, pw_cell_below ?_ e1⟩ <;> (repeat (first | exact Below.refl _ _ | apply below_alloc | apply below_drew1 | refine below_set ?_ (by simp)))) (first | (fail))
                    rename_i hHeld
                    clear hHeld
                    have hb6 : Below wr.heap.size wr (wr.alloc (Obj.cells #[.int .i64 a, .int .i64 b] 35)).drew := below_drew (below_alloc (Below.refl _ _) _)
                    have r0 : (wr.alloc (Obj.cells #[.int .i64 a, .int .i64 b] 35)).drew.cell? ⟨wr.heap.size, 0, none⟩ = some (.int .i64 a) := by simp
                    have r1 : (wr.alloc (Obj.cells #[.int .i64 a, .int .i64 b] 35)).drew.cell? ⟨wr.heap.size, 1, none⟩ = some (.int .i64 b) := by simp
                    replace hbw := below_callC hbw hb6
                    replace g2 := pw_cell_below hb6 g2
                    replace hrl := pw_cell_below hb6 hrl
                    replace g3 := pw_cell_below hb6 g3
                    replace hrh := pw_cell_below hb6 hrh
                    replace e0 := pw_cell_below hb6 e0
                    replace e1 := pw_cell_below hb6 e1
                    replace hBk := Aside0.mk (below_callC hBk.out hb6)
                    clear hb6
                    generalize (wr.alloc (Obj.cells #[.int .i64 a, .int .i64 b] 35)).drew = w6 at *
                    go_wp2_with fail
                    go_ret
                    exact ⟨HEND.out _ HX.out (by decide), hbw⟩
                  · by_cases c2 : 1000000 < b
                    · skip
                      have HX : Aside0 (CE = 2) := ⟨by rw [HCE.out]; unfold cellE; repeat (first | rw [if_pos (by omega)] | rw [if_neg (by omega)])⟩
                      go_wp2_with fail
                      go_region_held3 (fun w' => w'.cell? ⟨w.heap.size, 2, none⟩ = some (.slice (some dl) l0_2.length c0_2) ∧ w'.cell? (dl.add i) = some (.slice (some al) l0_1.length cl) ∧ w'.cell? ⟨w.heap.size, 3, none⟩ = some (.slice (some dh) l0_3.length c0_3) ∧ w'.cell? (dh.add i) = some (.slice (some ah) l0_1.length ch) ∧ w'.cell? (al.add k) = some (.int .i64 a) ∧ w'.cell? (ah.add k) = some (.int .i64 b)) (refine ⟨pw_cell_below ?_ g2, pw_cell_below ?_ hrl, pw_cell_below ?_ g3, pw_cell_below ?_ hrh, pw_cell_below ?_ e0, pw_cell_below ?_ e1⟩ <;> (repeat (first | exact Below.refl _ _ | apply below_alloc | apply below_drew1 | refine below_set ?_ (by simp)))) (first | (fail))
                      rename_i hHeld
                      clear hHeld
                      have hb6 : Below wr.heap.size wr (wr.alloc (Obj.cells #[.int .i64 a, .int .i64 b] 35)).drew := below_drew (below_alloc (Below.refl _ _) _)
                      have r0 : (wr.alloc (Obj.cells #[.int .i64 a, .int .i64 b] 35)).drew.cell? ⟨wr.heap.size, 0, none⟩ = some (.int .i64 a) := by simp
                      have r1 : (wr.alloc (Obj.cells #[.int .i64 a, .int .i64 b] 35)).drew.cell? ⟨wr.heap.size, 1, none⟩ = some (.int .i64 b) := by simp
                      replace hbw := below_callC hbw hb6
                      replace g2 := pw_cell_below hb6 g2
                      replace hrl := pw_cell_below hb6 hrl
                      replace g3 := pw_cell_below hb6 g3
                      replace hrh := pw_cell_below hb6 hrh
                      replace e0 := pw_cell_below hb6 e0
                      replace e1 := pw_cell_below hb6 e1
                      replace hBk := Aside0.mk (below_callC hBk.out hb6)
                      clear hb6
                      generalize (wr.alloc (Obj.cells #[.int .i64 a, .int .i64 b] 35)).drew = w6 at *
                      go_wp2_with fail
                      go_ret
                      exact ⟨HEND.out _ HX.out (by decide), hbw⟩
                    · by_cases hi0 : 0 < i
                      · obtain ⟨al1, cl1, ah1, ch1, hrl1, f0, hrh1, f1⟩ := HP.out hi0
                        have hji : ((i : Int) - 1).toNat = i - 1 := by omega
                        have hwi : IntKind.i64.wrap ((i : Int) - 1) = (i : Int) - 1 := IntWalk.i64_in _ (by omega)
                        have hi1 : (0 : Int) ≤ (i : Int) - 1 := by omega
                        have hi2 : (i : Int) - 1 < l0_2.length := by omega
                        have hi3 : (i : Int) - 1 < l0_3.length := by omega
                        by_cases ci : a < a1
                        · skip
                          have HX : Aside0 (CE = 11) := ⟨by rw [HCE.out]; unfold cellE; repeat (first | rw [if_pos (by omega)] | rw [if_neg (by omega)])⟩
                          go_wp2_with fail
                          go_region_held3 (fun w' => w'.cell? ⟨w.heap.size, 2, none⟩ = some (.slice (some dl) l0_2.length c0_2) ∧ w'.cell? (dl.add i) = some (.slice (some al) l0_1.length cl) ∧ w'.cell? ⟨w.heap.size, 3, none⟩ = some (.slice (some dh) l0_3.length c0_3) ∧ w'.cell? (dh.add i) = some (.slice (some ah) l0_1.length ch) ∧ w'.cell? (al.add k) = some (.int .i64 a) ∧ w'.cell? (ah.add k) = some (.int .i64 b)) (refine ⟨pw_cell_below ?_ g2, pw_cell_below ?_ hrl, pw_cell_below ?_ g3, pw_cell_below ?_ hrh, pw_cell_below ?_ e0, pw_cell_below ?_ e1⟩ <;> (repeat (first | exact Below.refl _ _ | apply below_alloc | apply below_drew1 | refine below_set ?_ (by simp)))) (first | (fail))
                          rename_i hHeld
                          clear hHeld
                          have hb6 : Below wr.heap.size wr (wr.alloc (Obj.cells #[.int .i64 a, .int .i64 b] 35)).drew := below_drew (below_alloc (Below.refl _ _) _)
                          have r0 : (wr.alloc (Obj.cells #[.int .i64 a, .int .i64 b] 35)).drew.cell? ⟨wr.heap.size, 0, none⟩ = some (.int .i64 a) := by simp
                          have r1 : (wr.alloc (Obj.cells #[.int .i64 a, .int .i64 b] 35)).drew.cell? ⟨wr.heap.size, 1, none⟩ = some (.int .i64 b) := by simp
                          replace hbw := below_callC hbw hb6
                          replace g2 := pw_cell_below hb6 g2
                          replace hrl := pw_cell_below hb6 hrl
                          replace g3 := pw_cell_below hb6 g3
                          replace hrh := pw_cell_below hb6 hrh
                          replace e0 := pw_cell_below hb6 e0
                          replace e1 := pw_cell_below hb6 e1
                          replace hrl1 := pw_cell_below hb6 hrl1
                          replace hrh1 := pw_cell_below hb6 hrh1
                          replace f0 := pw_cell_below hb6 f0
                          replace f1 := pw_cell_below hb6 f1
                          replace hBk := Aside0.mk (below_callC hBk.out hb6)
                          clear hb6
                          generalize (wr.alloc (Obj.cells #[.int .i64 a, .int .i64 b] 35)).drew = w6 at *
                          go_wp2_with fail
                          go_quiet (fail)
                          go_wp2_with fail
                          go_ret
                          exact ⟨HEND.out _ HX.out (by decide), pw_below_drewN hbw _⟩
                        · have hdci : decide (a < a1) = false := decide_eq_false ci
                          by_cases ci2 : b < b1
                          · skip
                            have HX : Aside0 (CE = 11) := ⟨by rw [HCE.out]; unfold cellE; repeat (first | rw [if_pos (by omega)] | rw [if_neg (by omega)])⟩
                            go_wp2_with fail
                            go_region_held3 (fun w' => w'.cell? ⟨w.heap.size, 2, none⟩ = some (.slice (some dl) l0_2.length c0_2) ∧ w'.cell? (dl.add i) = some (.slice (some al) l0_1.length cl) ∧ w'.cell? ⟨w.heap.size, 3, none⟩ = some (.slice (some dh) l0_3.length c0_3) ∧ w'.cell? (dh.add i) = some (.slice (some ah) l0_1.length ch) ∧ w'.cell? (al.add k) = some (.int .i64 a) ∧ w'.cell? (ah.add k) = some (.int .i64 b)) (refine ⟨pw_cell_below ?_ g2, pw_cell_below ?_ hrl, pw_cell_below ?_ g3, pw_cell_below ?_ hrh, pw_cell_below ?_ e0, pw_cell_below ?_ e1⟩ <;> (repeat (first | exact Below.refl _ _ | apply below_alloc | apply below_drew1 | refine below_set ?_ (by simp)))) (first | (fail))
                            rename_i hHeld
                            clear hHeld
                            have hb6 : Below wr.heap.size wr (wr.alloc (Obj.cells #[.int .i64 a, .int .i64 b] 35)).drew := below_drew (below_alloc (Below.refl _ _) _)
                            have r0 : (wr.alloc (Obj.cells #[.int .i64 a, .int .i64 b] 35)).drew.cell? ⟨wr.heap.size, 0, none⟩ = some (.int .i64 a) := by simp
                            have r1 : (wr.alloc (Obj.cells #[.int .i64 a, .int .i64 b] 35)).drew.cell? ⟨wr.heap.size, 1, none⟩ = some (.int .i64 b) := by simp
                            replace hbw := below_callC hbw hb6
                            replace g2 := pw_cell_below hb6 g2
                            replace hrl := pw_cell_below hb6 hrl
                            replace g3 := pw_cell_below hb6 g3
                            replace hrh := pw_cell_below hb6 hrh
                            replace e0 := pw_cell_below hb6 e0
                            replace e1 := pw_cell_below hb6 e1
                            replace hrl1 := pw_cell_below hb6 hrl1
                            replace hrh1 := pw_cell_below hb6 hrh1
                            replace f0 := pw_cell_below hb6 f0
                            replace f1 := pw_cell_below hb6 f1
                            replace hBk := Aside0.mk (below_callC hBk.out hb6)
                            clear hb6
                            generalize (wr.alloc (Obj.cells #[.int .i64 a, .int .i64 b] 35)).drew = w6 at *
                            go_wp2_with fail
                            go_quiet (fail)
                            go_wp2_with fail
                            go_ret
                            exact ⟨HEND.out _ HX.out (by decide), pw_below_drewN hbw _⟩
                          · skip
                            by_cases hk0 : 0 < k
                            · obtain ⟨d0, d1⟩ := HD.out hk0
                              have hjk : ((k : Int) - 1).toNat = k - 1 := by omega
                              have hwk : IntKind.i64.wrap ((k : Int) - 1) = (k : Int) - 1 := IntWalk.i64_in _ (by omega)
                              have hk1 : (0 : Int) ≤ (k : Int) - 1 := by omega
                              have hk2 : (k : Int) - 1 < l0_1.length := by omega
                              by_cases ck : a < a2
                              · skip
                                have HX : Aside0 (CE = 11) := ⟨by rw [HCE.out]; unfold cellE; repeat (first | rw [if_pos (by omega)] | rw [if_neg (by omega)])⟩
                                go_wp2_with fail
                                go_region_held3 (fun w' => w'.cell? ⟨w.heap.size, 2, none⟩ = some (.slice (some dl) l0_2.length c0_2) ∧ w'.cell? (dl.add i) = some (.slice (some al) l0_1.length cl) ∧ w'.cell? ⟨w.heap.size, 3, none⟩ = some (.slice (some dh) l0_3.length c0_3) ∧ w'.cell? (dh.add i) = some (.slice (some ah) l0_1.length ch) ∧ w'.cell? (al.add k) = some (.int .i64 a) ∧ w'.cell? (ah.add k) = some (.int .i64 b)) (refine ⟨pw_cell_below ?_ g2, pw_cell_below ?_ hrl, pw_cell_below ?_ g3, pw_cell_below ?_ hrh, pw_cell_below ?_ e0, pw_cell_below ?_ e1⟩ <;> (repeat (first | exact Below.refl _ _ | apply below_alloc | apply below_drew1 | refine below_set ?_ (by simp)))) (first | (fail))
                                rename_i hHeld
                                clear hHeld
                                have hb6 : Below wr.heap.size wr (wr.alloc (Obj.cells #[.int .i64 a, .int .i64 b] 35)).drew := below_drew (below_alloc (Below.refl _ _) _)
                                have r0 : (wr.alloc (Obj.cells #[.int .i64 a, .int .i64 b] 35)).drew.cell? ⟨wr.heap.size, 0, none⟩ = some (.int .i64 a) := by simp
                                have r1 : (wr.alloc (Obj.cells #[.int .i64 a, .int .i64 b] 35)).drew.cell? ⟨wr.heap.size, 1, none⟩ = some (.int .i64 b) := by simp
                                replace hbw := below_callC hbw hb6
                                replace g2 := pw_cell_below hb6 g2
                                replace hrl := pw_cell_below hb6 hrl
                                replace g3 := pw_cell_below hb6 g3
                                replace hrh := pw_cell_below hb6 hrh
                                replace e0 := pw_cell_below hb6 e0
                                replace e1 := pw_cell_below hb6 e1
                                replace hrl1 := pw_cell_below hb6 hrl1
                                replace hrh1 := pw_cell_below hb6 hrh1
                                replace f0 := pw_cell_below hb6 f0
                                replace f1 := pw_cell_below hb6 f1
                                replace d0 := pw_cell_below hb6 d0
                                replace d1 := pw_cell_below hb6 d1
                                replace hBk := Aside0.mk (below_callC hBk.out hb6)
                                clear hb6
                                generalize (wr.alloc (Obj.cells #[.int .i64 a, .int .i64 b] 35)).drew = w6 at *
                                go_wp2_with fail
                                go_quiet (fail)
                                go_wp2_with fail
                                go_quiet (fail)
                                go_wp2_with fail
                                go_ret
                                exact ⟨HEND.out _ HX.out (by decide), pw_below_drewN (pw_below_drewN hbw _) _⟩
                              · have hdck : decide (a < a2) = false := decide_eq_false ck
                                by_cases ck2 : b < b2
                                · skip
                                  have HX : Aside0 (CE = 11) := ⟨by rw [HCE.out]; unfold cellE; repeat (first | rw [if_pos (by omega)] | rw [if_neg (by omega)])⟩
                                  go_wp2_with fail
                                  go_region_held3 (fun w' => w'.cell? ⟨w.heap.size, 2, none⟩ = some (.slice (some dl) l0_2.length c0_2) ∧ w'.cell? (dl.add i) = some (.slice (some al) l0_1.length cl) ∧ w'.cell? ⟨w.heap.size, 3, none⟩ = some (.slice (some dh) l0_3.length c0_3) ∧ w'.cell? (dh.add i) = some (.slice (some ah) l0_1.length ch) ∧ w'.cell? (al.add k) = some (.int .i64 a) ∧ w'.cell? (ah.add k) = some (.int .i64 b)) (refine ⟨pw_cell_below ?_ g2, pw_cell_below ?_ hrl, pw_cell_below ?_ g3, pw_cell_below ?_ hrh, pw_cell_below ?_ e0, pw_cell_below ?_ e1⟩ <;> (repeat (first | exact Below.refl _ _ | apply below_alloc | apply below_drew1 | refine below_set ?_ (by simp)))) (first | (fail))
                                  rename_i hHeld
                                  clear hHeld
                                  have hb6 : Below wr.heap.size wr (wr.alloc (Obj.cells #[.int .i64 a, .int .i64 b] 35)).drew := below_drew (below_alloc (Below.refl _ _) _)
                                  have r0 : (wr.alloc (Obj.cells #[.int .i64 a, .int .i64 b] 35)).drew.cell? ⟨wr.heap.size, 0, none⟩ = some (.int .i64 a) := by simp
                                  have r1 : (wr.alloc (Obj.cells #[.int .i64 a, .int .i64 b] 35)).drew.cell? ⟨wr.heap.size, 1, none⟩ = some (.int .i64 b) := by simp
                                  replace hbw := below_callC hbw hb6
                                  replace g2 := pw_cell_below hb6 g2
                                  replace hrl := pw_cell_below hb6 hrl
                                  replace g3 := pw_cell_below hb6 g3
                                  replace hrh := pw_cell_below hb6 hrh
                                  replace e0 := pw_cell_below hb6 e0
                                  replace e1 := pw_cell_below hb6 e1
                                  replace hrl1 := pw_cell_below hb6 hrl1
                                  replace hrh1 := pw_cell_below hb6 hrh1
                                  replace f0 := pw_cell_below hb6 f0
                                  replace f1 := pw_cell_below hb6 f1
                                  replace d0 := pw_cell_below hb6 d0
                                  replace d1 := pw_cell_below hb6 d1
                                  replace hBk := Aside0.mk (below_callC hBk.out hb6)
                                  clear hb6
                                  generalize (wr.alloc (Obj.cells #[.int .i64 a, .int .i64 b] 35)).drew = w6 at *
                                  go_wp2_with fail
                                  go_quiet (fail)
                                  go_wp2_with fail
                                  go_quiet (fail)
                                  go_wp2_with fail
                                  go_ret
                                  exact ⟨HEND.out _ HX.out (by decide), pw_below_drewN (pw_below_drewN hbw _) _⟩
                                · skip
                                  have HX : Aside0 (CE = 0) := ⟨by rw [HCE.out]; unfold cellE; repeat (first | rw [if_pos (by omega)] | rw [if_neg (by omega)])⟩
                                  go_wp2_with fail
                                  go_region_held3 (fun w' => w'.cell? ⟨w.heap.size, 2, none⟩ = some (.slice (some dl) l0_2.length c0_2) ∧ w'.cell? (dl.add i) = some (.slice (some al) l0_1.length cl) ∧ w'.cell? ⟨w.heap.size, 3, none⟩ = some (.slice (some dh) l0_3.length c0_3) ∧ w'.cell? (dh.add i) = some (.slice (some ah) l0_1.length ch) ∧ w'.cell? (al.add k) = some (.int .i64 a) ∧ w'.cell? (ah.add k) = some (.int .i64 b)) (refine ⟨pw_cell_below ?_ g2, pw_cell_below ?_ hrl, pw_cell_below ?_ g3, pw_cell_below ?_ hrh, pw_cell_below ?_ e0, pw_cell_below ?_ e1⟩ <;> (repeat (first | exact Below.refl _ _ | apply below_alloc | apply below_drew1 | refine below_set ?_ (by simp)))) (first | (fail))
                                  rename_i hHeld
                                  clear hHeld
                                  have hb6 : Below wr.heap.size wr (wr.alloc (Obj.cells #[.int .i64 a, .int .i64 b] 35)).drew := below_drew (below_alloc (Below.refl _ _) _)
                                  have r0 : (wr.alloc (Obj.cells #[.int .i64 a, .int .i64 b] 35)).drew.cell? ⟨wr.heap.size, 0, none⟩ = some (.int .i64 a) := by simp
                                  have r1 : (wr.alloc (Obj.cells #[.int .i64 a, .int .i64 b] 35)).drew.cell? ⟨wr.heap.size, 1, none⟩ = some (.int .i64 b) := by simp
                                  replace hbw := below_callC hbw hb6
                                  replace g2 := pw_cell_below hb6 g2
                                  replace hrl := pw_cell_below hb6 hrl
                                  replace g3 := pw_cell_below hb6 g3
                                  replace hrh := pw_cell_below hb6 hrh
                                  replace e0 := pw_cell_below hb6 e0
                                  replace e1 := pw_cell_below hb6 e1
                                  replace hrl1 := pw_cell_below hb6 hrl1
                                  replace hrh1 := pw_cell_below hb6 hrh1
                                  replace f0 := pw_cell_below hb6 f0
                                  replace f1 := pw_cell_below hb6 f1
                                  replace d0 := pw_cell_below hb6 d0
                                  replace d1 := pw_cell_below hb6 d1
                                  replace hBk := Aside0.mk (below_callC hBk.out hb6)
                                  clear hb6
                                  generalize (wr.alloc (Obj.cells #[.int .i64 a, .int .i64 b] 35)).drew = w6 at *
                                  go_wp2_with fail
                                  go_quiet (fail)
                                  go_wp2_with fail
                                  go_quiet (fail)
                                  go_wp2_with fail
                                  go_roundw
                                  case rel => exact ⟨k + 1, by omega, by go_num, ⟨HNEXT.out HX.out⟩, ⟨by repeat (first | exact hBk.out | apply below_drew1 | apply pw_below_drewN)⟩⟩
                                  case measure => simp [intOf]; omega
                            · have zk : k ≤ 0 := by omega
                              have HX : Aside0 (CE = 0) := ⟨by rw [HCE.out]; unfold cellE; repeat (first | rw [if_pos (by omega)] | rw [if_neg (by omega)])⟩
                              go_wp2_with fail
                              go_region_held3 (fun w' => w'.cell? ⟨w.heap.size, 2, none⟩ = some (.slice (some dl) l0_2.length c0_2) ∧ w'.cell? (dl.add i) = some (.slice (some al) l0_1.length cl) ∧ w'.cell? ⟨w.heap.size, 3, none⟩ = some (.slice (some dh) l0_3.length c0_3) ∧ w'.cell? (dh.add i) = some (.slice (some ah) l0_1.length ch) ∧ w'.cell? (al.add k) = some (.int .i64 a) ∧ w'.cell? (ah.add k) = some (.int .i64 b)) (refine ⟨pw_cell_below ?_ g2, pw_cell_below ?_ hrl, pw_cell_below ?_ g3, pw_cell_below ?_ hrh, pw_cell_below ?_ e0, pw_cell_below ?_ e1⟩ <;> (repeat (first | exact Below.refl _ _ | apply below_alloc | apply below_drew1 | refine below_set ?_ (by simp)))) (first | (fail))
                              rename_i hHeld
                              clear hHeld
                              have hb6 : Below wr.heap.size wr (wr.alloc (Obj.cells #[.int .i64 a, .int .i64 b] 35)).drew := below_drew (below_alloc (Below.refl _ _) _)
                              have r0 : (wr.alloc (Obj.cells #[.int .i64 a, .int .i64 b] 35)).drew.cell? ⟨wr.heap.size, 0, none⟩ = some (.int .i64 a) := by simp
                              have r1 : (wr.alloc (Obj.cells #[.int .i64 a, .int .i64 b] 35)).drew.cell? ⟨wr.heap.size, 1, none⟩ = some (.int .i64 b) := by simp
                              replace hbw := below_callC hbw hb6
                              replace g2 := pw_cell_below hb6 g2
                              replace hrl := pw_cell_below hb6 hrl
                              replace g3 := pw_cell_below hb6 g3
                              replace hrh := pw_cell_below hb6 hrh
                              replace e0 := pw_cell_below hb6 e0
                              replace e1 := pw_cell_below hb6 e1
                              replace hrl1 := pw_cell_below hb6 hrl1
                              replace hrh1 := pw_cell_below hb6 hrh1
                              replace f0 := pw_cell_below hb6 f0
                              replace f1 := pw_cell_below hb6 f1
                              replace hBk := Aside0.mk (below_callC hBk.out hb6)
                              clear hb6
                              generalize (wr.alloc (Obj.cells #[.int .i64 a, .int .i64 b] 35)).drew = w6 at *
                              go_wp2_with fail
                              go_quiet (fail)
                              go_wp2_with fail
                              go_quiet (fail)
                              go_wp2_with fail
                              go_roundw
                              case rel => exact ⟨k + 1, by omega, by go_num, ⟨HNEXT.out HX.out⟩, ⟨by repeat (first | exact hBk.out | apply below_drew1 | apply pw_below_drewN)⟩⟩
                              case measure => simp [intOf]; omega
                      · have zi : i ≤ 0 := by omega
                        by_cases hk0 : 0 < k
                        · obtain ⟨d0, d1⟩ := HD.out hk0
                          have hjk : ((k : Int) - 1).toNat = k - 1 := by omega
                          have hwk : IntKind.i64.wrap ((k : Int) - 1) = (k : Int) - 1 := IntWalk.i64_in _ (by omega)
                          have hk1 : (0 : Int) ≤ (k : Int) - 1 := by omega
                          have hk2 : (k : Int) - 1 < l0_1.length := by omega
                          by_cases ck : a < a2
                          · skip
                            have HX : Aside0 (CE = 11) := ⟨by rw [HCE.out]; unfold cellE; repeat (first | rw [if_pos (by omega)] | rw [if_neg (by omega)])⟩
                            go_wp2_with fail
                            go_region_held3 (fun w' => w'.cell? ⟨w.heap.size, 2, none⟩ = some (.slice (some dl) l0_2.length c0_2) ∧ w'.cell? (dl.add i) = some (.slice (some al) l0_1.length cl) ∧ w'.cell? ⟨w.heap.size, 3, none⟩ = some (.slice (some dh) l0_3.length c0_3) ∧ w'.cell? (dh.add i) = some (.slice (some ah) l0_1.length ch) ∧ w'.cell? (al.add k) = some (.int .i64 a) ∧ w'.cell? (ah.add k) = some (.int .i64 b)) (refine ⟨pw_cell_below ?_ g2, pw_cell_below ?_ hrl, pw_cell_below ?_ g3, pw_cell_below ?_ hrh, pw_cell_below ?_ e0, pw_cell_below ?_ e1⟩ <;> (repeat (first | exact Below.refl _ _ | apply below_alloc | apply below_drew1 | refine below_set ?_ (by simp)))) (first | (fail))
                            rename_i hHeld
                            clear hHeld
                            have hb6 : Below wr.heap.size wr (wr.alloc (Obj.cells #[.int .i64 a, .int .i64 b] 35)).drew := below_drew (below_alloc (Below.refl _ _) _)
                            have r0 : (wr.alloc (Obj.cells #[.int .i64 a, .int .i64 b] 35)).drew.cell? ⟨wr.heap.size, 0, none⟩ = some (.int .i64 a) := by simp
                            have r1 : (wr.alloc (Obj.cells #[.int .i64 a, .int .i64 b] 35)).drew.cell? ⟨wr.heap.size, 1, none⟩ = some (.int .i64 b) := by simp
                            replace hbw := below_callC hbw hb6
                            replace g2 := pw_cell_below hb6 g2
                            replace hrl := pw_cell_below hb6 hrl
                            replace g3 := pw_cell_below hb6 g3
                            replace hrh := pw_cell_below hb6 hrh
                            replace e0 := pw_cell_below hb6 e0
                            replace e1 := pw_cell_below hb6 e1
                            replace d0 := pw_cell_below hb6 d0
                            replace d1 := pw_cell_below hb6 d1
                            replace hBk := Aside0.mk (below_callC hBk.out hb6)
                            clear hb6
                            generalize (wr.alloc (Obj.cells #[.int .i64 a, .int .i64 b] 35)).drew = w6 at *
                            go_wp2_with fail
                            go_quiet (fail)
                            go_wp2_with fail
                            go_quiet (fail)
                            go_wp2_with fail
                            go_ret
                            exact ⟨HEND.out _ HX.out (by decide), pw_below_drewN (pw_below_drewN hbw _) _⟩
                          · have hdck : decide (a < a2) = false := decide_eq_false ck
                            by_cases ck2 : b < b2
                            · skip
                              have HX : Aside0 (CE = 11) := ⟨by rw [HCE.out]; unfold cellE; repeat (first | rw [if_pos (by omega)] | rw [if_neg (by omega)])⟩
                              go_wp2_with fail
                              go_region_held3 (fun w' => w'.cell? ⟨w.heap.size, 2, none⟩ = some (.slice (some dl) l0_2.length c0_2) ∧ w'.cell? (dl.add i) = some (.slice (some al) l0_1.length cl) ∧ w'.cell? ⟨w.heap.size, 3, none⟩ = some (.slice (some dh) l0_3.length c0_3) ∧ w'.cell? (dh.add i) = some (.slice (some ah) l0_1.length ch) ∧ w'.cell? (al.add k) = some (.int .i64 a) ∧ w'.cell? (ah.add k) = some (.int .i64 b)) (refine ⟨pw_cell_below ?_ g2, pw_cell_below ?_ hrl, pw_cell_below ?_ g3, pw_cell_below ?_ hrh, pw_cell_below ?_ e0, pw_cell_below ?_ e1⟩ <;> (repeat (first | exact Below.refl _ _ | apply below_alloc | apply below_drew1 | refine below_set ?_ (by simp)))) (first | (fail))
                              rename_i hHeld
                              clear hHeld
                              have hb6 : Below wr.heap.size wr (wr.alloc (Obj.cells #[.int .i64 a, .int .i64 b] 35)).drew := below_drew (below_alloc (Below.refl _ _) _)
                              have r0 : (wr.alloc (Obj.cells #[.int .i64 a, .int .i64 b] 35)).drew.cell? ⟨wr.heap.size, 0, none⟩ = some (.int .i64 a) := by simp
                              have r1 : (wr.alloc (Obj.cells #[.int .i64 a, .int .i64 b] 35)).drew.cell? ⟨wr.heap.size, 1, none⟩ = some (.int .i64 b) := by simp
                              replace hbw := below_callC hbw hb6
                              replace g2 := pw_cell_below hb6 g2
                              replace hrl := pw_cell_below hb6 hrl
                              replace g3 := pw_cell_below hb6 g3
                              replace hrh := pw_cell_below hb6 hrh
                              replace e0 := pw_cell_below hb6 e0
                              replace e1 := pw_cell_below hb6 e1
                              replace d0 := pw_cell_below hb6 d0
                              replace d1 := pw_cell_below hb6 d1
                              replace hBk := Aside0.mk (below_callC hBk.out hb6)
                              clear hb6
                              generalize (wr.alloc (Obj.cells #[.int .i64 a, .int .i64 b] 35)).drew = w6 at *
                              go_wp2_with fail
                              go_quiet (fail)
                              go_wp2_with fail
                              go_quiet (fail)
                              go_wp2_with fail
                              go_ret
                              exact ⟨HEND.out _ HX.out (by decide), pw_below_drewN (pw_below_drewN hbw _) _⟩
                            · skip
                              have HX : Aside0 (CE = 0) := ⟨by rw [HCE.out]; unfold cellE; repeat (first | rw [if_pos (by omega)] | rw [if_neg (by omega)])⟩
                              go_wp2_with fail
                              go_region_held3 (fun w' => w'.cell? ⟨w.heap.size, 2, none⟩ = some (.slice (some dl) l0_2.length c0_2) ∧ w'.cell? (dl.add i) = some (.slice (some al) l0_1.length cl) ∧ w'.cell? ⟨w.heap.size, 3, none⟩ = some (.slice (some dh) l0_3.length c0_3) ∧ w'.cell? (dh.add i) = some (.slice (some ah) l0_1.length ch) ∧ w'.cell? (al.add k) = some (.int .i64 a) ∧ w'.cell? (ah.add k) = some (.int .i64 b)) (refine ⟨pw_cell_below ?_ g2, pw_cell_below ?_ hrl, pw_cell_below ?_ g3, pw_cell_below ?_ hrh, pw_cell_below ?_ e0, pw_cell_below ?_ e1⟩ <;> (repeat (first | exact Below.refl _ _ | apply below_alloc | apply below_drew1 | refine below_set ?_ (by simp)))) (first | (fail))
                              rename_i hHeld
                              clear hHeld
                              have hb6 : Below wr.heap.size wr (wr.alloc (Obj.cells #[.int .i64 a, .int .i64 b] 35)).drew := below_drew (below_alloc (Below.refl _ _) _)
                              have r0 : (wr.alloc (Obj.cells #[.int .i64 a, .int .i64 b] 35)).drew.cell? ⟨wr.heap.size, 0, none⟩ = some (.int .i64 a) := by simp
                              have r1 : (wr.alloc (Obj.cells #[.int .i64 a, .int .i64 b] 35)).drew.cell? ⟨wr.heap.size, 1, none⟩ = some (.int .i64 b) := by simp
                              replace hbw := below_callC hbw hb6
                              replace g2 := pw_cell_below hb6 g2
                              replace hrl := pw_cell_below hb6 hrl
                              replace g3 := pw_cell_below hb6 g3
                              replace hrh := pw_cell_below hb6 hrh
                              replace e0 := pw_cell_below hb6 e0
                              replace e1 := pw_cell_below hb6 e1
                              replace d0 := pw_cell_below hb6 d0
                              replace d1 := pw_cell_below hb6 d1
                              replace hBk := Aside0.mk (below_callC hBk.out hb6)
                              clear hb6
                              generalize (wr.alloc (Obj.cells #[.int .i64 a, .int .i64 b] 35)).drew = w6 at *
                              go_wp2_with fail
                              go_quiet (fail)
                              go_wp2_with fail
                              go_quiet (fail)
                              go_wp2_with fail
                              go_roundw
                              case rel => exact ⟨k + 1, by omega, by go_num, ⟨HNEXT.out HX.out⟩, ⟨by repeat (first | exact hBk.out | apply below_drew1 | apply pw_below_drewN)⟩⟩
                              case measure => simp [intOf]; omega
                        · have zk : k ≤ 0 := by omega
                          have HX : Aside0 (CE = 0) := ⟨by rw [HCE.out]; unfold cellE; repeat (first | rw [if_pos (by omega)] | rw [if_neg (by omega)])⟩
                          go_wp2_with fail
                          go_region_held3 (fun w' => w'.cell? ⟨w.heap.size, 2, none⟩ = some (.slice (some dl) l0_2.length c0_2) ∧ w'.cell? (dl.add i) = some (.slice (some al) l0_1.length cl) ∧ w'.cell? ⟨w.heap.size, 3, none⟩ = some (.slice (some dh) l0_3.length c0_3) ∧ w'.cell? (dh.add i) = some (.slice (some ah) l0_1.length ch) ∧ w'.cell? (al.add k) = some (.int .i64 a) ∧ w'.cell? (ah.add k) = some (.int .i64 b)) (refine ⟨pw_cell_below ?_ g2, pw_cell_below ?_ hrl, pw_cell_below ?_ g3, pw_cell_below ?_ hrh, pw_cell_below ?_ e0, pw_cell_below ?_ e1⟩ <;> (repeat (first | exact Below.refl _ _ | apply below_alloc | apply below_drew1 | refine below_set ?_ (by simp)))) (first | (fail))
                          rename_i hHeld
                          clear hHeld
                          have hb6 : Below wr.heap.size wr (wr.alloc (Obj.cells #[.int .i64 a, .int .i64 b] 35)).drew := below_drew (below_alloc (Below.refl _ _) _)
                          have r0 : (wr.alloc (Obj.cells #[.int .i64 a, .int .i64 b] 35)).drew.cell? ⟨wr.heap.size, 0, none⟩ = some (.int .i64 a) := by simp
                          have r1 : (wr.alloc (Obj.cells #[.int .i64 a, .int .i64 b] 35)).drew.cell? ⟨wr.heap.size, 1, none⟩ = some (.int .i64 b) := by simp
                          replace hbw := below_callC hbw hb6
                          replace g2 := pw_cell_below hb6 g2
                          replace hrl := pw_cell_below hb6 hrl
                          replace g3 := pw_cell_below hb6 g3
                          replace hrh := pw_cell_below hb6 hrh
                          replace e0 := pw_cell_below hb6 e0
                          replace e1 := pw_cell_below hb6 e1
                          replace hBk := Aside0.mk (below_callC hBk.out hb6)
                          clear hb6
                          generalize (wr.alloc (Obj.cells #[.int .i64 a, .int .i64 b] 35)).drew = w6 at *
                          go_wp2_with fail
                          go_quiet (fail)
                          go_wp2_with fail
                          go_quiet (fail)
                          go_wp2_with fail
                          go_roundw
                          case rel => exact ⟨k + 1, by omega, by go_num, ⟨HNEXT.out HX.out⟩, ⟨by repeat (first | exact hBk.out | apply below_drew1 | apply pw_below_drewN)⟩⟩
                          case measure => simp [intOf]; omega

              · obtain rfl : k = l0_1.length := by omega
                have HZ : Aside0 (tabErrN l0_2 l0_3 l0_1.length (l0_0.length - (i + 1)) (i + 1) = E) := ⟨by have h1 := hsk.out; rw [Nat.sub_self, rowErrN] at h1; rw [← tabErr_next hil (HE2.out.trans h1.symm)]; exact hsi.out⟩
                clear hsk hsi HE2
                go_wp2_with fail
                go_roundw
                case rel => exact ⟨i + 1, by omega, by go_num, HZ, hBk⟩
                case measure => simp [intOf]; omega
          · obtain rfl : i = l0_0.length := by omega
            have HZ : Aside0 (Ending.returned (.int .i64 0) = .returned (.int .i64 E)) := ⟨by have h1 := hsi.out; rw [Nat.sub_self, tabErrN] at h1; rw [h1]⟩
            clear hsi
            go_wp2_with fail
            go_ret
            exact ⟨HZ.out, below_callC HB3.out hBi.out⟩
  · rw [if_neg z] at h
    obtain rfl := Option.some.inj h
    have hz : (e == 0) = false := by simpa using z
    clear z h HC2 HC3
    go_enter Try.func37, Try.ntmps37
    go_wp2_with (first | (go_at_call 92; (refine (HL.out (w.alloc _) (HW.out _)).mono ?_); rintro e ww ⟨rfl, ⟨nq, rfl⟩⟩; (have HB1 := Aside0.mk (pw_below_drewN (HW.out (Obj.cells #[.slice A0_0 l0_0.length c0_0, .slice A0_1 l0_1.length c0_1, .slice A0_2 l0_2.length c0_2, .slice A0_3 l0_3.length c0_3] 25)) nq))))
    go_ret
    exact ⟨rfl, HB1.out⟩

end Go.Proofs.Ytbomgfbfnkfamaa.PAll
end
section
namespace Go.Proofs.Ytbomgfbfnkfamaa.PAll
open Go.RowKit Go.Proofs.YtbomgfbfnkfamaaW.PrintWords Go.Proofs.YtbomgfbfnkfamaaW.PrintLast Go.Proofs.YtbomgfbfnkfamaaW.PrintMore
attribute [local go_sem] max2_int min2_int max_two min_two max_three min_three max_four min_four   -- for this text's walks alone
set_option linter.unusedVariables false
set_option linter.unusedSimpArgs false

/-! ### curve_voltages: function 67 -/
def curve_voltages.f (a0 : Int) (a1 : Int) : Option (Bool) := if a0 ≥ (-1000000) then (if a0 ≤ 1000000 then (if a1 ≥ 0 then (some (decide (a1 ≤ 1000000))) else (some false)) else (some false)) else (some false)
set_option maxHeartbeats 8000000 in
set_option maxRecDepth 100000 in
theorem curve_voltages.calls (a0 : Int) (a1 : Int) (r : Bool) (w : World) (h : curve_voltages.f a0 a1 = some r) :
    Calls Try.prog 67 #[.int .i64 a0, .int .i64 a1] w fun e w' => e = .returned (.bool r) ∧ Drawn0 w w' := by
  have H : (if a0 ≥ (-1000000) then (if a0 ≤ 1000000 then (if a1 ≥ 0 then (some (decide (a1 ≤ 1000000))) else (some false)) else (some false)) else (some false)) = some r := h
  clear h
  by_cases c3 : a0 ≥ (-1000000)
  · rw [if_pos c3] at H
    have c3b0 : decide ((-1000000) ≤ a0) = true := decide_eq_true c3
    clear c3
    by_cases c4 : a0 ≤ 1000000
    · rw [if_pos c4] at H
      have c4b0 : decide (a0 ≤ 1000000) = true := decide_eq_true c4
      clear c4
      by_cases c5 : a1 ≥ 0
      · rw [if_pos c5] at H
        have c5b0 : decide (0 ≤ a1) = true := decide_eq_true c5
        clear c5
        obtain rfl := Option.some.inj H
        go_enter Try.func67, Try.ntmps67
        go_wp2
        go_ret
        exact ⟨by first | rfl | (simp; done) | (simp [*]; done), by repeat (first | exact Drawn0.refl _ | apply Drawn0.step)⟩
      · rw [if_neg c5] at H
        have c5b0 : decide (0 ≤ a1) = false := decide_eq_false c5
        clear c5
        obtain rfl := Option.some.inj H
        go_enter Try.func67, Try.ntmps67
        go_wp2
        go_ret
        exact ⟨by first | rfl | (simp; done) | (simp [*]; done), by repeat (first | exact Drawn0.refl _ | apply Drawn0.step)⟩
    · rw [if_neg c4] at H
      have c4b0 : decide (a0 ≤ 1000000) = false := decide_eq_false c4
      clear c4
      obtain rfl := Option.some.inj H
      go_enter Try.func67, Try.ntmps67
      go_wp2
      go_ret
      exact ⟨by first | rfl | (simp; done) | (simp [*]; done), by repeat (first | exact Drawn0.refl _ | apply Drawn0.step)⟩
  · rw [if_neg c3] at H
    have c3b0 : decide ((-1000000) ≤ a0) = false := decide_eq_false c3
    clear c3
    obtain rfl := Option.some.inj H
    go_enter Try.func67, Try.ntmps67
    go_wp2
    go_ret
    exact ⟨by first | rfl | (simp; done) | (simp [*]; done), by repeat (first | exact Drawn0.refl _ | apply Drawn0.step)⟩

end Go.Proofs.Ytbomgfbfnkfamaa.PAll
end
section
namespace Go.Proofs.Ytbomgfbfnkfamaa.PAll
open Go.RowKit Go.Proofs.YtbomgfbfnkfamaaW.PrintWords Go.Proofs.YtbomgfbfnkfamaaW.PrintLast Go.Proofs.YtbomgfbfnkfamaaW.PrintMore
attribute [local go_sem] max2_int min2_int max_two min_two max_three min_three max_four min_four   -- for this text's walks alone
set_option linter.unusedVariables false
set_option linter.unusedSimpArgs false

/-! ### cmp_isNaN_int: function 146 -/
def cmp_isNaN_int.f (a0 : Int) : Option (Bool) := some (a0 != a0)
set_option maxHeartbeats 8000000 in
set_option maxRecDepth 100000 in
theorem cmp_isNaN_int.calls (a0 : Int) (r : Bool) (w : World) (h : cmp_isNaN_int.f a0 = some r) :
    Calls Try.prog 146 #[.int .i64 a0] w fun e w' => e = .returned (.bool r) ∧ Drawn0 w w' := by
  have H : (some (a0 != a0)) = some r := h
  clear h
  obtain rfl := Option.some.inj H
  go_enter Try.func146, Try.ntmps146
  go_wp2
  go_ret
  exact ⟨by first | rfl | (simp; done) | (simp [*]; done), by repeat (first | exact Drawn0.refl _ | apply Drawn0.step)⟩

end Go.Proofs.Ytbomgfbfnkfamaa.PAll
end
section
namespace Go.Proofs.Ytbomgfbfnkfamaa.PAll
open Go.RowKit Go.Proofs.YtbomgfbfnkfamaaW.PrintWords Go.Proofs.YtbomgfbfnkfamaaW.PrintLast Go.Proofs.YtbomgfbfnkfamaaW.PrintMore
attribute [local go_sem] max2_int min2_int max_two min_two max_three min_three max_four min_four   -- for this text's walks alone
set_option linter.unusedVariables false
set_option linter.unusedSimpArgs false

/-! ### cmp_Less_int: function 140 -/
def cmp_Less_int.f (a0 : Int) (a1 : Int) : Option (Bool) := (cmp_isNaN_int.f a0).bind fun t101 => (if t101 = true then ((cmp_isNaN_int.f a1).bind fun t102 => (if t102 = true then (some (decide (a0 < a1))) else (some true))) else (some (decide (a0 < a1))))
set_option maxHeartbeats 8000000 in
set_option maxRecDepth 100000 in
theorem cmp_Less_int.calls (a0 : Int) (a1 : Int) (r : Bool) (w : World) (h : cmp_Less_int.f a0 a1 = some r) :
    Calls Try.prog 140 #[.int .i64 a0, .int .i64 a1] w fun e w' => e = .returned (.bool r) ∧ Drawn0 w w' := by
  have H : ((cmp_isNaN_int.f a0).bind fun t101 => (if t101 = true then ((cmp_isNaN_int.f a1).bind fun t102 => (if t102 = true then (some (decide (a0 < a1))) else (some true))) else (some (decide (a0 < a1))))) = some r := h
  clear h
  replace H := Option.bind_eq_some_iff.mp H
  obtain ⟨t101, A30, H⟩ := H
  replace H : (if t101 = true then ((cmp_isNaN_int.f a1).bind fun t102 => (if t102 = true then (some (decide (a0 < a1))) else (some true))) else (some (decide (a0 < a1)))) = some r := H
  have A3 := Aside0.mk A30
  clear A30
  by_cases c4 : t101 = true
  · subst c4
    have H1 : ((cmp_isNaN_int.f a1).bind fun t102 => (if t102 = true then (some (decide (a0 < a1))) else (some true))) = some r := by rw [if_pos rfl] at H; exact H
    clear H
    have H := H1
    clear H1
    replace H := Option.bind_eq_some_iff.mp H
    obtain ⟨t102, A50, H⟩ := H
    replace H : (if t102 = true then (some (decide (a0 < a1))) else (some true)) = some r := H
    have A5 := Aside0.mk A50
    clear A50
    by_cases c6 : t102 = true
    · subst c6
      have H1 : (some (decide (a0 < a1))) = some r := by rw [if_pos rfl] at H; exact H
      clear H
      have H := H1
      clear H1
      obtain rfl := Option.some.inj H
      go_enter Try.func140, Try.ntmps140
      go_wp2_with (first | ((with_reducible refine gate_callee (f := 146) rfl ?_); refine goesL_ (some 6) rfl rfl Try.func146 (by kernel_rfl) rfl #[.int .i64 a0] rfl (by (try simp only [List.map_toArray, List.map_cons, List.map_nil]); first | done | rfl | (simp only [List.length_drop, List.length_take]; rfl)) ?_; (with_reducible refine (cmp_isNaN_int.calls a0 true _ A3.out).mono ?_); rintro e w' ⟨rfl, ⟨nd, rfl⟩⟩; refine ⟨_, rfl, ?_⟩) | (go_at_call 146; (with_reducible refine (cmp_isNaN_int.calls a1 true _ A5.out).mono ?_); rintro e w' ⟨rfl, ⟨nd, rfl⟩⟩))
      go_ret
      exact ⟨by first | rfl | (simp; done) | (simp [*]; done), by repeat (first | exact Drawn0.refl _ | apply Drawn0.step)⟩
    · replace c6 := Bool.eq_false_iff.mpr c6
      subst c6
      have H1 : (some true) = some r := by rw [if_neg (show ¬ (false = true) by decide)] at H; exact H
      clear H
      have H := H1
      clear H1
      obtain rfl := Option.some.inj H
      go_enter Try.func140, Try.ntmps140
      go_wp2_with (first | ((with_reducible refine gate_callee (f := 146) rfl ?_); refine goesL_ (some 6) rfl rfl Try.func146 (by kernel_rfl) rfl #[.int .i64 a0] rfl (by (try simp only [List.map_toArray, List.map_cons, List.map_nil]); first | done | rfl | (simp only [List.length_drop, List.length_take]; rfl)) ?_; (with_reducible refine (cmp_isNaN_int.calls a0 true _ A3.out).mono ?_); rintro e w' ⟨rfl, ⟨nd, rfl⟩⟩; refine ⟨_, rfl, ?_⟩) | (go_at_call 146; (with_reducible refine (cmp_isNaN_int.calls a1 false _ A5.out).mono ?_); rintro e w' ⟨rfl, ⟨nd, rfl⟩⟩))
      go_ret
      exact ⟨by first | rfl | (simp; done) | (simp [*]; done), by repeat (first | exact Drawn0.refl _ | apply Drawn0.step)⟩
  · replace c4 := Bool.eq_false_iff.mpr c4
    subst c4
    have H1 : (some (decide (a0 < a1))) = some r := by rw [if_neg (show ¬ (false = true) by decide)] at H; exact H
    clear H
    have H := H1
    clear H1
    obtain rfl := Option.some.inj H
    go_enter Try.func140, Try.ntmps140
    go_wp2_with (first | ((with_reducible refine gate_callee (f := 146) rfl ?_); refine goesL_ (some 6) rfl rfl Try.func146 (by kernel_rfl) rfl #[.int .i64 a0] rfl (by (try simp only [List.map_toArray, List.map_cons, List.map_nil]); first | done | rfl | (simp only [List.length_drop, List.length_take]; rfl)) ?_; (with_reducible refine (cmp_isNaN_int.calls a0 false _ A3.out).mono ?_); rintro e w' ⟨rfl, ⟨nd, rfl⟩⟩; refine ⟨_, rfl, ?_⟩))
    go_ret
    exact ⟨by first | rfl | (simp; done) | (simp [*]; done), by repeat (first | exact Drawn0.refl _ | apply Drawn0.step)⟩

end Go.Proofs.Ytbomgfbfnkfamaa.PAll
end
section
namespace Go.Proofs.Ytbomgfbfnkfamaa.PAll
open Go.RowKit Go.Proofs.YtbomgfbfnkfamaaW.PrintWords Go.Proofs.YtbomgfbfnkfamaaW.PrintLast Go.Proofs.YtbomgfbfnkfamaaW.PrintMore
attribute [local go_sem] max2_int min2_int max_two min_two max_three min_three max_four min_four   -- for this text's walks alone
set_option linter.unusedVariables false
set_option linter.unusedSimpArgs false

/-! ### slices_isNaN_int: function 141 -/
def slices_isNaN_int.f (a0 : Int) : Option (Bool) := some (a0 != a0)
set_option maxHeartbeats 8000000 in
set_option maxRecDepth 100000 in
theorem slices_isNaN_int.calls (a0 : Int) (r : Bool) (w : World) (h : slices_isNaN_int.f a0 = some r) :
    Calls Try.prog 141 #[.int .i64 a0] w fun e w' => e = .returned (.bool r) ∧ Drawn0 w w' := by
  have H : (some (a0 != a0)) = some r := h
  clear h
  obtain rfl := Option.some.inj H
  go_enter Try.func141, Try.ntmps141
  go_wp2
  go_ret
  exact ⟨by first | rfl | (simp; done) | (simp [*]; done), by repeat (first | exact Drawn0.refl _ | apply Drawn0.step)⟩

end Go.Proofs.Ytbomgfbfnkfamaa.PAll
end
section
namespace Go.Proofs.Ytbomgfbfnkfamaa.PAll
open Go.RowKit Go.Proofs.YtbomgfbfnkfamaaW.PrintWords Go.Proofs.YtbomgfbfnkfamaaW.PrintLast Go.Proofs.YtbomgfbfnkfamaaW.PrintMore
attribute [local go_sem] max2_int min2_int max_two min_two max_three min_three max_four min_four   -- for this text's walks alone
set_option linter.unusedVariables false
set_option linter.unusedSimpArgs false

/-! ### slices_BinarySearch_int_int: function 115 -/
def slices_BinarySearch_int_int.l0 : Nat → List Int → Int → Int → Int → Int → Option (Int × Bool)
  | 0, _, _, _, _, _ => none
  | k + 1, x0, x1, x6, x7, x8 => if x7 < x8 then (if 0 ≤ (wrap64 ((IntKind.u64.wrap (wrap64 (x7 + x8))) / 2)) then (if (wrap64 ((IntKind.u64.wrap (wrap64 (x7 + x8))) / 2)) < (x0.length : Int) then ((cmp_Less_int.f (rd x0 (wrap64 ((IntKind.u64.wrap (wrap64 (x7 + x8))) / 2))) x1).bind fun t102 => (if t102 = true then (slices_BinarySearch_int_int.l0 k x0 x1 x6 (wrap64 ((wrap64 ((IntKind.u64.wrap (wrap64 (x7 + x8))) / 2)) + 1)) x8) else (slices_BinarySearch_int_int.l0 k x0 x1 x6 x7 (wrap64 ((IntKind.u64.wrap (wrap64 (x7 + x8))) / 2))))) else (none)) else (none)) else (if x7 < x6 then (if 0 ≤ x7 then (if x7 < (x0.length : Int) then (if (rd x0 x7) = x1 then (some (x7, true)) else ((slices_isNaN_int.f (rd x0 x7)).bind fun t105 => (if t105 = true then ((slices_isNaN_int.f x1).bind fun t106 => (some (x7, t106))) else (some (x7, false))))) else (none)) else (none)) else (some (x7, false)))
def slices_BinarySearch_int_int.f (k : Nat) (l0 : List Int) (a1 : Int) : Option (Int × Bool) := slices_BinarySearch_int_int.l0 k l0 a1 (l0.length : Int) 0 (l0.length : Int)
theorem slices_BinarySearch_int_int.mono_l : ∀ k, (∀ y0 y1 y2 y3 y4, LeO (slices_BinarySearch_int_int.l0 k y0 y1 y2 y3 y4) (slices_BinarySearch_int_int.l0 (k + 1) y0 y1 y2 y3 y4))
  | 0 => fun _ _ _ _ _ r h => by simp [slices_BinarySearch_int_int.l0] at h
  | k + 1 => by
    have ih0 := slices_BinarySearch_int_int.mono_l k
    · intro y0 y1 y2 y3 y4
      unfold slices_BinarySearch_int_int.l0
      repeat' first
      | (with_reducible exact ih0 _ _ _ _ _)
      | (with_reducible exact LeO.refl _)
      | (with_reducible exact LeO.none _)
      | (with_reducible refine LeO.ite ?_ ?_)
      | (with_reducible refine LeO.bind ?_ (fun _ => ?_))
      | exact ih0 _ _ _ _ _
      | exact LeO.none _
      | refine LeO.ite ?_ ?_
      | refine LeO.bind ?_ (fun _ => ?_)
theorem slices_BinarySearch_int_int.mono : ∀ a0 a1 k, LeO (slices_BinarySearch_int_int.f k a0 a1) (slices_BinarySearch_int_int.f (k + 1) a0 a1) := by
  intro a0 a1 k
  have ih0 := slices_BinarySearch_int_int.mono_l k
  unfold slices_BinarySearch_int_int.f
  repeat' first
      | (with_reducible exact ih0 _ _ _ _ _)
      | (with_reducible exact LeO.refl _)
      | (with_reducible exact LeO.none _)
      | (with_reducible refine LeO.ite ?_ ?_)
      | (with_reducible refine LeO.bind ?_ (fun _ => ?_))
      | exact ih0 _ _ _ _ _
      | exact LeO.none _
      | refine LeO.ite ?_ ?_
      | refine LeO.bind ?_ (fun _ => ?_)
set_option maxHeartbeats 8000000 in
set_option maxRecDepth 100000 in
theorem slices_BinarySearch_int_int.calls (k : Nat) (A0 : Option Addr) (c0 : Nat) (l0 : List Int) (a1 : Int) (r1 : Int) (r2 : Bool) (w : World) (hr0 : Kd.C (Kd.int .i64) w A0 l0.length l0) (hc0 : l0.length ≤ c0) (h : slices_BinarySearch_int_int.f k l0 a1 = some (r1, r2)) :
    Calls Try.prog 115 #[.slice A0 l0.length c0, .int .i64 a1] w fun e w' => e = .returned (.tuple #[.int .i64 r1, .bool r2]) ∧ Drawn0 w w' := by
  have HR0 := Aside0.mk hr0
  have HC0 := Aside0.mk hc0
  clear hr0 hc0
  have H : (slices_BinarySearch_int_int.l0 k l0 a1 (l0.length : Int) 0 (l0.length : Int)) = some (r1, r2) := h
  clear h
  have H' := Aside0.mk H
  clear H
  go_enter Try.func115, Try.ntmps115
  go_wp2
  go_loopg [7, 8] k (fun kq v7 v8 w' => ∃ (x7_1 : Int) (x8_1 : Int), v7 = .int .i64 x7_1 ∧ v8 = .int .i64 x8_1 ∧ Aside0 (slices_BinarySearch_int_int.l0 kq l0 a1 (l0.length : Int) x7_1 x8_1 = some (r1, r2)) ∧ Aside0 (kq ≤ k) ∧ Drawn0 w w')
  case atStart => exact ⟨(0), ((l0.length : Int)), (by first | rfl | (simp; done) | (simp [*]; done)), (by first | rfl | (simp; done) | (simp [*]; done)), H', ⟨Nat.le_refl _⟩, by repeat (first | exact Drawn0.refl _ | apply Drawn0.step)⟩
  case round =>
    clear H'
    try clear c1
    try clear p2
    obtain ⟨x7_1, x8_1, rfl, rfl, HA, HK1, ⟨m1, rfl⟩⟩ := hrel
    cases gk with
    | zero => exact absurd HA.out (by simp [slices_BinarySearch_int_int.l0])
    | succ k1 =>
      have H := HA.out
      clear HA
      simp only [slices_BinarySearch_int_int.l0] at H
      by_cases c3 : x7_1 < x8_1
      · rw [if_pos c3] at H
        have c3b0 : decide (x7_1 < x8_1) = true := decide_eq_true c3
        clear c3
        obtain ⟨ji4, hji4⟩ : ∃ j_ : Int, (wrap64 ((IntKind.u64.wrap (wrap64 (x7_1 + x8_1))) / 2)) = j_ := ⟨_, rfl⟩
        replace H : (if 0 ≤ (ji4) then (if (ji4) < (l0.length : Int) then ((cmp_Less_int.f (rd l0 (ji4)) a1).bind fun t102 => (if t102 = true then (slices_BinarySearch_int_int.l0 k1 l0 a1 (l0.length : Int) (wrap64 ((ji4) + 1)) x8_1) else (slices_BinarySearch_int_int.l0 k1 l0 a1 (l0.length : Int) x7_1 ji4))) else (none)) else (none)) = some (r1, r2) := by first | (rw [hji4] at H; exact H) | (simp only [hji4] at H ⊢; exact H)
        have hji4w : (IntKind.i64.wrap ((IntKind.u64.wrap (wrap64 (x7_1 + x8_1))) / 2)) = ji4 := (i64_w _).trans hji4
        by_cases c5 : 0 ≤ (ji4)
        · rw [if_pos c5] at H
          have c5b0 : decide (0 ≤ (ji4)) = true := decide_eq_true c5
          clear c5
          by_cases c6 : (ji4) < (l0.length : Int)
          · rw [if_pos c6] at H
            have c6b0 : decide ((ji4) < (l0.length : Int)) = true := decide_eq_true c6
            clear c6
            replace H := Option.bind_eq_some_iff.mp H
            obtain ⟨t102, A70, H⟩ := H
            replace H : (if t102 = true then (slices_BinarySearch_int_int.l0 k1 l0 a1 (l0.length : Int) (wrap64 ((ji4) + 1)) x8_1) else (slices_BinarySearch_int_int.l0 k1 l0 a1 (l0.length : Int) x7_1 ji4)) = some (r1, r2) := H
            have A7 := Aside0.mk A70
            clear A70
            by_cases c8 : t102 = true
            · subst c8
              have H1 : (slices_BinarySearch_int_int.l0 k1 l0 a1 (l0.length : Int) (wrap64 ((ji4) + 1)) x8_1) = some (r1, r2) := by rw [if_pos rfl] at H; exact H
              clear H
              have H := H1
              clear H1
              have H' := Aside0.mk H
              clear H
              have p101 : 0 ≤ ((ji4) : Int) := of_decide_eq_true (by first | (with_reducible assumption) | assumption)
              have q101 : (ji4) < (l0.length : Int) := of_decide_eq_true (by first | (with_reducible assumption) | assumption)
              obtain ⟨ad101, e101, hx101_0⟩ := Kd.at_int HR0.out (ji4) p101 q101
              cases e101
              replace p101 := eq_true p101
              replace q101 := eq_true q101
              go_wp2_with (first | ((with_reducible refine gate_callee (f := 140) rfl ?_); refine goesL_ (some 27) rfl rfl Try.func140 (by kernel_rfl) rfl #[.int .i64 (rd l0 (ji4)), .int .i64 a1] rfl (by (try simp only [List.map_toArray, List.map_cons, List.map_nil]); first | done | (simp only [hji4]; rfl) | rfl | (simp only [List.length_drop, List.length_take]; rfl)) ?_; (with_reducible refine (cmp_Less_int.calls (rd l0 (ji4)) a1 true _ A7.out).mono ?_); rintro e w' ⟨rfl, ⟨nd, rfl⟩⟩; refine ⟨_, rfl, ?_⟩))
              go_roundg k1
              case measure => have := HK1.out; omega
              case rel => exact ⟨(wrap64 ((ji4) + 1)), (x8_1), (by first | rfl | (simp; done) | (simp only [← hji4] <;> (first | rfl | simp)) | (simp [*]; done)), (by first | rfl | (simp; done) | (simp [*]; done)), H', ⟨by have := HK1.out; omega⟩, by repeat (first | exact Drawn0.refl _ | apply Drawn0.step)⟩
            · replace c8 := Bool.eq_false_iff.mpr c8
              subst c8
              have H1 : (slices_BinarySearch_int_int.l0 k1 l0 a1 (l0.length : Int) x7_1 ji4) = some (r1, r2) := by rw [if_neg (show ¬ (false = true) by decide)] at H; exact H
              clear H
              have H := H1
              clear H1
              have H' := Aside0.mk H
              clear H
              have p101 : 0 ≤ ((ji4) : Int) := of_decide_eq_true (by first | (with_reducible assumption) | assumption)
              have q101 : (ji4) < (l0.length : Int) := of_decide_eq_true (by first | (with_reducible assumption) | assumption)
              obtain ⟨ad101, e101, hx101_0⟩ := Kd.at_int HR0.out (ji4) p101 q101
              cases e101
              replace p101 := eq_true p101
              replace q101 := eq_true q101
              go_wp2_with (first | ((with_reducible refine gate_callee (f := 140) rfl ?_); refine goesL_ (some 27) rfl rfl Try.func140 (by kernel_rfl) rfl #[.int .i64 (rd l0 (ji4)), .int .i64 a1] rfl (by (try simp only [List.map_toArray, List.map_cons, List.map_nil]); first | done | (simp only [hji4]; rfl) | rfl | (simp only [List.length_drop, List.length_take]; rfl)) ?_; (with_reducible refine (cmp_Less_int.calls (rd l0 (ji4)) a1 false _ A7.out).mono ?_); rintro e w' ⟨rfl, ⟨nd, rfl⟩⟩; refine ⟨_, rfl, ?_⟩))
              go_roundg k1
              case measure => have := HK1.out; omega
              case rel => exact ⟨(x7_1), (ji4), (by first | rfl | (simp; done) | (simp [*]; done)), (by first | rfl | (simp; done) | (simp only [← hji4] <;> (first | rfl | simp)) | (simp [*]; done)), H', ⟨by have := HK1.out; omega⟩, by repeat (first | exact Drawn0.refl _ | apply Drawn0.step)⟩
          · rw [if_neg c6] at H
            exact absurd H (by simp)
        · rw [if_neg c5] at H
          exact absurd H (by simp)
      · rw [if_neg c3] at H
        have c3b0 : decide (x7_1 < x8_1) = false := decide_eq_false c3
        clear c3
        by_cases c9 : x7_1 < (l0.length : Int)
        · rw [if_pos c9] at H
          have c9b0 : decide (x7_1 < (l0.length : Int)) = true := decide_eq_true c9
          clear c9
          by_cases c10 : 0 ≤ x7_1
          · rw [if_pos c10] at H
            have c10b0 : decide (0 ≤ x7_1) = true := decide_eq_true c10
            clear c10
            by_cases c11 : x7_1 < (l0.length : Int)
            · rw [if_pos c11] at H
              have c11b0 : decide (x7_1 < (l0.length : Int)) = true := decide_eq_true c11
              clear c11
              by_cases c12 : (rd l0 x7_1) = a1
              · rw [if_pos c12] at H
                have c12b0 : ((rd l0 x7_1) == a1) = true := beq_iff_eq.mpr c12
                have c12b1 : ((rd l0 x7_1) != a1) = false := bne_eq_false_iff_eq.mpr c12
                clear c12
                simp only [Option.some.injEq, Prod.mk.injEq] at H
                obtain ⟨rfl, rfl⟩ := H
                have p103 : 0 ≤ (x7_1 : Int) := of_decide_eq_true (by first | (with_reducible assumption) | assumption)
                have q103 : x7_1 < (l0.length : Int) := of_decide_eq_true (by first | (with_reducible assumption) | assumption)
                obtain ⟨ad103, e103, hx103_0⟩ := Kd.at_int HR0.out x7_1 p103 q103
                cases e103
                replace p103 := eq_true p103
                replace q103 := eq_true q103
                go_wp2
                go_ret2
                exact ⟨by first | rfl | (simp; done) | (simp [*]; done), by repeat (first | exact Drawn0.refl _ | apply Drawn0.step)⟩
              · rw [if_neg c12] at H
                have c12b0 : ((rd l0 x7_1) == a1) = false := beq_eq_false_iff_ne.mpr c12
                have c12b1 : ((rd l0 x7_1) != a1) = true := bne_iff_ne.mpr c12
                replace H := Option.bind_eq_some_iff.mp H
                obtain ⟨t105, A130, H⟩ := H
                replace H : (if t105 = true then ((slices_isNaN_int.f a1).bind fun t106 => (some (x7_1, t106))) else (some (x7_1, false))) = some (r1, r2) := H
                have A13 := Aside0.mk A130
                clear A130
                by_cases c14 : t105 = true
                · subst c14
                  have H1 : ((slices_isNaN_int.f a1).bind fun t106 => (some (x7_1, t106))) = some (r1, r2) := by rw [if_pos rfl] at H; exact H
                  clear H
                  have H := H1
                  clear H1
                  replace H := Option.bind_eq_some_iff.mp H
                  obtain ⟨t106, A150, H⟩ := H
                  replace H : (some (x7_1, t106)) = some (r1, r2) := H
                  have A15 := Aside0.mk A150
                  clear A150
                  simp only [Option.some.injEq, Prod.mk.injEq] at H
                  obtain ⟨rfl, rfl⟩ := H
                  have p103 : 0 ≤ (x7_1 : Int) := of_decide_eq_true (by first | (with_reducible assumption) | assumption)
                  have q103 : x7_1 < (l0.length : Int) := of_decide_eq_true (by first | (with_reducible assumption) | assumption)
                  obtain ⟨ad103, e103, hx103_0⟩ := Kd.at_int HR0.out x7_1 p103 q103
                  cases e103
                  replace p103 := eq_true p103
                  replace q103 := eq_true q103
                  have p104 : 0 ≤ (x7_1 : Int) := of_decide_eq_true (by first | (with_reducible assumption) | assumption)
                  have q104 : x7_1 < (l0.length : Int) := of_decide_eq_true (by first | (with_reducible assumption) | assumption)
                  obtain ⟨ad104, e104, hx104_0⟩ := Kd.at_int HR0.out x7_1 p104 q104
                  obtain rfl : ad103 = ad104 := (by injection e104)
                  replace p104 := eq_true p104
                  replace q104 := eq_true q104
                  go_wp2_with (first | (go_at_call 141; (with_reducible refine (slices_isNaN_int.calls (rd l0 x7_1) true _ A13.out).mono ?_); rintro e w' ⟨rfl, ⟨nd, rfl⟩⟩) | (go_at_call 141; (with_reducible refine (slices_isNaN_int.calls a1 t106 _ A15.out).mono ?_); rintro e w' ⟨rfl, ⟨nd, rfl⟩⟩))
                  go_ret2
                  exact ⟨by first | rfl | (simp; done) | (simp [*]; done), by repeat (first | exact Drawn0.refl _ | apply Drawn0.step)⟩
                · replace c14 := Bool.eq_false_iff.mpr c14
                  subst c14
                  have H1 : (some (x7_1, false)) = some (r1, r2) := by rw [if_neg (show ¬ (false = true) by decide)] at H; exact H
                  clear H
                  have H := H1
                  clear H1
                  simp only [Option.some.injEq, Prod.mk.injEq] at H
                  obtain ⟨rfl, rfl⟩ := H
                  have p103 : 0 ≤ (x7_1 : Int) := of_decide_eq_true (by first | (with_reducible assumption) | assumption)
                  have q103 : x7_1 < (l0.length : Int) := of_decide_eq_true (by first | (with_reducible assumption) | assumption)
                  obtain ⟨ad103, e103, hx103_0⟩ := Kd.at_int HR0.out x7_1 p103 q103
                  cases e103
                  replace p103 := eq_true p103
                  replace q103 := eq_true q103
                  have p104 : 0 ≤ (x7_1 : Int) := of_decide_eq_true (by first | (with_reducible assumption) | assumption)
                  have q104 : x7_1 < (l0.length : Int) := of_decide_eq_true (by first | (with_reducible assumption) | assumption)
                  obtain ⟨ad104, e104, hx104_0⟩ := Kd.at_int HR0.out x7_1 p104 q104
                  obtain rfl : ad103 = ad104 := (by injection e104)
                  replace p104 := eq_true p104
                  replace q104 := eq_true q104
                  go_wp2_with (first | (go_at_call 141; (with_reducible refine (slices_isNaN_int.calls (rd l0 x7_1) false _ A13.out).mono ?_); rintro e w' ⟨rfl, ⟨nd, rfl⟩⟩))
                  go_ret2
                  exact ⟨by first | rfl | (simp; done) | (simp [*]; done), by repeat (first | exact Drawn0.refl _ | apply Drawn0.step)⟩
            · rw [if_neg c11] at H
              exact absurd H (by simp)
          · rw [if_neg c10] at H
            exact absurd H (by simp)
        · rw [if_neg c9] at H
          have c9b0 : decide (x7_1 < (l0.length : Int)) = false := decide_eq_false c9
          clear c9
          simp only [Option.some.injEq, Prod.mk.injEq] at H
          obtain ⟨rfl, rfl⟩ := H
          go_wp2
          go_ret2
          exact ⟨by first | rfl | (simp; done) | (simp [*]; done), by repeat (first | exact Drawn0.refl _ | apply Drawn0.step)⟩

end Go.Proofs.Ytbomgfbfnkfamaa.PAll
end
section
namespace Go.Proofs.Ytbomgfbfnkfamaa.PAll
open Go.RowKit Go.Proofs.YtbomgfbfnkfamaaW.PrintWords Go.Proofs.YtbomgfbfnkfamaaW.PrintLast Go.Proofs.YtbomgfbfnkfamaaW.PrintMore
attribute [local go_sem] max2_int min2_int max_two min_two max_three min_three max_four min_four   -- for this text's walks alone
set_option linter.unusedVariables false
set_option linter.unusedSimpArgs false

/-! ### curve_where: function 68 -/
def curve_where.f (k : Nat) (l0 : List Int) (a1 : Int) : Option (Int × Int × Int) := (slices_BinarySearch_int_int.f k l0 a1).bind fun bt102 => (if bt102.2 = true then (some (bt102.1, 0, 1)) else (if bt102.1 = 0 then (some (0, 0, 1)) else (if bt102.1 = (l0.length : Int) then (some (wrap64 (bt102.1 - 1), 0, 1)) else (if 0 ≤ (wrap64 (bt102.1 - 1)) then (if (wrap64 (bt102.1 - 1)) < (l0.length : Int) then (if 0 ≤ bt102.1 then (if bt102.1 < (l0.length : Int) then (some (wrap64 (bt102.1 - 1), wrap64 (a1 - (rd l0 (wrap64 (bt102.1 - 1)))), wrap64 ((rd l0 bt102.1) - (rd l0 (wrap64 (bt102.1 - 1)))))) else (none)) else (none)) else (none)) else (none)))))
theorem curve_where.mono : ∀ a0 a1 k, LeO (curve_where.f k a0 a1) (curve_where.f (k + 1) a0 a1) := by
  intro a0 a1 k
  unfold curve_where.f
  repeat' first
      | (with_reducible exact slices_BinarySearch_int_int.mono _ _ _)
      | (with_reducible exact LeO.refl _)
      | (with_reducible exact LeO.none _)
      | (with_reducible refine LeO.ite ?_ ?_)
      | (with_reducible refine LeO.bind ?_ (fun _ => ?_))
      | exact slices_BinarySearch_int_int.mono _ _ _
      | exact LeO.none _
      | refine LeO.ite ?_ ?_
      | refine LeO.bind ?_ (fun _ => ?_)
def curve_where.T8 : Bool × List (List Nat × List Nat) := (true, [([], []), ([0], [0]), ([], []), ([], []), ([], []), ([4], [4]), ([3, 5], [3, 5]), ([6], [6]), ([2, 7], [2, 7]), ([], []), ([], []), ([9, 10], [9, 10]), ([11], [11]), ([], []), ([], []), ([14], [14]), ([13, 15], [13, 15]), ([16], [16]), ([12, 17], [12, 17]), ([1, 8, 18], [1, 8, 18]), ([19, 0, 1, 2, 3, 4, 5, 6, 7, 8, 9, 10, 11, 12, 13, 14, 15, 16, 17, 18, 19], [19])])
def curve_where.B8 : List Nat := [0, 1, 0, 0, 0, 16, 56, 120, 252, 0, 0, 1536, 3584, 0, 0, 16384, 57344, 122880, 261632, 524287, 1048575]
theorem curve_where.tab8 : rtab .any (opsOf Try.f68 8) = curve_where.T8 := by kernel_rfl
theorem curve_where.bits8 : waitsOk curve_where.T8.2 curve_where.B8 = true := by kernel_rfl
set_option maxHeartbeats 8000000 in
set_option maxRecDepth 100000 in
theorem curve_where.calls (k : Nat) (A0 : Option Addr) (c0 : Nat) (l0 : List Int) (a1 : Int) (r1 : Int) (r2 : Int) (r3 : Int) (w : World) (hr0 : Kd.C (Kd.int .i64) w A0 l0.length l0) (hc0 : l0.length ≤ c0) (h : curve_where.f k l0 a1 = some (r1, r2, r3)) :
    Calls Try.prog 68 #[.slice A0 l0.length c0, .int .i64 a1] w fun e w' => e = .returned (.agg #[.int .i64 r1, .int .i64 r2, .int .i64 r3]) ∧ Below w.heap.size w w' := by
  have hu86 := Try.underlying86
  have HR0 := Aside0.mk hr0
  have HC0 := Aside0.mk hc0
  clear hr0 hc0
  have HB := Aside0.mk (Below.refl w.heap.size w)
  have H : ((slices_BinarySearch_int_int.f k l0 a1).bind fun bt102 => (if bt102.2 = true then (some (bt102.1, 0, 1)) else (if bt102.1 = 0 then (some (0, 0, 1)) else (if bt102.1 = (l0.length : Int) then (some (wrap64 (bt102.1 - 1), 0, 1)) else (if 0 ≤ (wrap64 (bt102.1 - 1)) then (if (wrap64 (bt102.1 - 1)) < (l0.length : Int) then (if 0 ≤ bt102.1 then (if bt102.1 < (l0.length : Int) then (some (wrap64 (bt102.1 - 1), wrap64 (a1 - (rd l0 (wrap64 (bt102.1 - 1)))), wrap64 ((rd l0 bt102.1) - (rd l0 (wrap64 (bt102.1 - 1)))))) else (none)) else (none)) else (none)) else (none)))))) = some (r1, r2, r3) := h
  clear h
  replace H := Option.bind_eq_some_iff.mp H
  obtain ⟨⟨t102, t103⟩, A30, H⟩ := H
  replace H : (if t103 = true then (some (t102, 0, 1)) else (if t102 = 0 then (some (0, 0, 1)) else (if t102 = (l0.length : Int) then (some (wrap64 (t102 - 1), 0, 1)) else (if 0 ≤ (wrap64 (t102 - 1)) then (if (wrap64 (t102 - 1)) < (l0.length : Int) then (if 0 ≤ t102 then (if t102 < (l0.length : Int) then (some (wrap64 (t102 - 1), wrap64 (a1 - (rd l0 (wrap64 (t102 - 1)))), wrap64 ((rd l0 t102) - (rd l0 (wrap64 (t102 - 1)))))) else (none)) else (none)) else (none)) else (none))))) = some (r1, r2, r3) := H
  have A3 := Aside0.mk A30
  clear A30
  by_cases c4 : t103 = true
  · subst c4
    have H1 : (some (t102, 0, 1)) = some (r1, r2, r3) := by rw [if_pos rfl] at H; exact H
    clear H
    have H := H1
    clear H1
    simp only [Option.some.injEq, Prod.mk.injEq] at H
    obtain ⟨rfl, rfl, rfl⟩ := H
    go_enter Try.func68, Try.ntmps68
    go_wp2_with (first | ((with_reducible refine gate_dst (N := 4) rfl ?_); refine box_event ?hg (N := 4) ?hd (cs := #[.int .i64 0, .int .i64 0, .int .i64 0]) (t := 86) ?hr ?_; (case hd => rfl); (case hg => rfl); (case hr => first | (go_simp; done) | (go_simp; rfl)); intro gb101 hg w5 hbox hb; have n0_ := Aside0.mk (below_step bl hb); have n1_ := Aside0.mk (hbox); have n2_ := Aside0.mk ((by rw [hg]; exact (below_size bl) : w.heap.size ≤ gb101)); have n3_ := Aside0.mk ((by rw [hg]; exact (below_size bl) : w.heap.size ≤ gb101)); clear HB; have HB := n0_; have BK101 := n1_; have GW101 := n2_; have GE101 := n3_; clear n0_ n1_ n2_ n3_; clear hb hbox hg) | ((with_reducible refine gate_callee (f := 115) rfl ?_); refine goesL_ (some 10) rfl rfl Try.func115 (by kernel_rfl) rfl #[.slice A0 l0.length c0, .int .i64 a1] rfl (by (try simp only [List.map_toArray, List.map_cons, List.map_nil]); first | done | rfl | (simp only [List.length_drop, List.length_take]; rfl)) ?_; (with_reducible refine (slices_BinarySearch_int_int.calls k _ _ l0 a1 t102 true _ ?side1 ?side2 A3.out).mono ?_); (case side1 => repeat (first | exact (Kd.C_below HR0.out HB.out) | (with_reducible refine Kd.C_alloc ?_ _) | (with_reducible refine Kd.C_drewN ?_ _) | (with_reducible refine Kd.C_drew ?_))); (case side2 => exact HC0.out); rintro e w' ⟨rfl, ⟨nd, rfl⟩⟩; refine ⟨_, rfl, ?_⟩; (try (rw [drewN_self w5]; generalize hq_ : World.drewN w5 _ = w5; have n0_ : Aside0 (w5.heap[gb101]? = some (.cells #[.int .i64 0, .int .i64 0, .int .i64 0] 86 (0, 0))) := ⟨by rw [← hq_]; exact bk⟩; have n1_ : Aside0 (Below w.heap.size w w5) := ⟨by rw [← hq_]; exact bl⟩; clear BK101 HB hq_; have BK101 := n0_; have HB := n1_; clear n0_ n1_)); have hcz6_0 : w5.cell? ⟨gb101, 0, none⟩ = some (.int .i64 0) := (blk_cell BK101.out 0).trans rfl; have hcz6_1 : w5.cell? ⟨gb101, 1, none⟩ = some (.int .i64 0) := (blk_cell BK101.out 1).trans rfl; have hcz6_2 : w5.cell? ⟨gb101, 2, none⟩ = some (.int .i64 0) := (blk_cell BK101.out 2).trans rfl; have hfz6_0 := blk_frozen BK101.out 0; have hfz6_1 := blk_frozen BK101.out 1; have hfz6_2 := blk_frozen BK101.out 2))
    refine bodyPost_ret (results_cell_row rfl _ _ gb101 86 #[.int .i64 t102, .int .i64 0, .int .i64 1] (0, 0) _ rfl (by (with_reducible repeat (first | refine blk_drewN ?_ _ | refine blk_drew ?_ | refine blk_alloc ?_ _)); refine blk_put (cs := #[.int .i64 t102, .int .i64 0, .int .i64 0]) ?_ 2 _ rfl; (with_reducible repeat (first | refine blk_drewN ?_ _ | refine blk_drew ?_ | refine blk_alloc ?_ _)); refine blk_put (cs := #[.int .i64 t102, .int .i64 0, .int .i64 0]) ?_ 1 _ rfl; (with_reducible repeat (first | refine blk_drewN ?_ _ | refine blk_drew ?_ | refine blk_alloc ?_ _)); refine blk_put (cs := #[.int .i64 0, .int .i64 0, .int .i64 0]) ?_ 0 _ rfl; (with_reducible repeat (first | refine blk_drewN ?_ _ | refine blk_drew ?_ | refine blk_alloc ?_ _)); exact BK101.out) Try.underlying86 rfl (by kernel_rfl)) rfl ?_
    exact ⟨by first | rfl | (simp [errW_none, errW_some] <;> rfl) | (simp [*, errW_none, errW_some] <;> rfl), bl⟩
  · replace c4 := Bool.eq_false_iff.mpr c4
    subst c4
    have H1 : (if t102 = 0 then (some (0, 0, 1)) else (if t102 = (l0.length : Int) then (some (wrap64 (t102 - 1), 0, 1)) else (if 0 ≤ (wrap64 (t102 - 1)) then (if (wrap64 (t102 - 1)) < (l0.length : Int) then (if 0 ≤ t102 then (if t102 < (l0.length : Int) then (some (wrap64 (t102 - 1), wrap64 (a1 - (rd l0 (wrap64 (t102 - 1)))), wrap64 ((rd l0 t102) - (rd l0 (wrap64 (t102 - 1)))))) else (none)) else (none)) else (none)) else (none)))) = some (r1, r2, r3) := by rw [if_neg (show ¬ (false = true) by decide)] at H; exact H
    clear H
    have H := H1
    clear H1
    by_cases c7 : t102 = 0
    · rw [if_pos c7] at H
      have c7b0 : (t102 == 0) = true := beq_iff_eq.mpr c7
      have c7b1 : (t102 != 0) = false := bne_eq_false_iff_eq.mpr c7
      clear c7
      simp only [Option.some.injEq, Prod.mk.injEq] at H
      obtain ⟨rfl, rfl, rfl⟩ := H
      go_enter Try.func68, Try.ntmps68
      go_wp2_with (first | ((with_reducible refine gate_dst (N := 4) rfl ?_); refine box_event ?hg (N := 4) ?hd (cs := #[.int .i64 0, .int .i64 0, .int .i64 0]) (t := 86) ?hr ?_; (case hd => rfl); (case hg => rfl); (case hr => first | (go_simp; done) | (go_simp; rfl)); intro gb101 hg w8 hbox hb; have n0_ := Aside0.mk (below_step bl hb); have n1_ := Aside0.mk (hbox); have n2_ := Aside0.mk ((by rw [hg]; exact (below_size bl) : w.heap.size ≤ gb101)); have n3_ := Aside0.mk ((by rw [hg]; exact (below_size bl) : w.heap.size ≤ gb101)); clear HB; have HB := n0_; have BK101 := n1_; have GW101 := n2_; have GE101 := n3_; clear n0_ n1_ n2_ n3_; clear hb hbox hg) | ((with_reducible refine gate_callee (f := 115) rfl ?_); refine goesL_ (some 10) rfl rfl Try.func115 (by kernel_rfl) rfl #[.slice A0 l0.length c0, .int .i64 a1] rfl (by (try simp only [List.map_toArray, List.map_cons, List.map_nil]); first | done | rfl | (simp only [List.length_drop, List.length_take]; rfl)) ?_; (with_reducible refine (slices_BinarySearch_int_int.calls k _ _ l0 a1 t102 false _ ?side1 ?side2 A3.out).mono ?_); (case side1 => repeat (first | exact (Kd.C_below HR0.out HB.out) | (with_reducible refine Kd.C_alloc ?_ _) | (with_reducible refine Kd.C_drewN ?_ _) | (with_reducible refine Kd.C_drew ?_))); (case side2 => exact HC0.out); rintro e w' ⟨rfl, ⟨nd, rfl⟩⟩; refine ⟨_, rfl, ?_⟩; (try (rw [drewN_self w8]; generalize hq_ : World.drewN w8 _ = w8; have n0_ : Aside0 (w8.heap[gb101]? = some (.cells #[.int .i64 0, .int .i64 0, .int .i64 0] 86 (0, 0))) := ⟨by rw [← hq_]; exact bk⟩; have n1_ : Aside0 (Below w.heap.size w w8) := ⟨by rw [← hq_]; exact bl⟩; clear BK101 HB hq_; have BK101 := n0_; have HB := n1_; clear n0_ n1_)); have hcz9_0 : w8.cell? ⟨gb101, 0, none⟩ = some (.int .i64 0) := (blk_cell BK101.out 0).trans rfl; have hcz9_1 : w8.cell? ⟨gb101, 1, none⟩ = some (.int .i64 0) := (blk_cell BK101.out 1).trans rfl; have hcz9_2 : w8.cell? ⟨gb101, 2, none⟩ = some (.int .i64 0) := (blk_cell BK101.out 2).trans rfl; have hfz9_0 := blk_frozen BK101.out 0; have hfz9_1 := blk_frozen BK101.out 1; have hfz9_2 := blk_frozen BK101.out 2))
      refine bodyPost_ret (results_cell_row rfl _ _ gb101 86 #[.int .i64 0, .int .i64 0, .int .i64 1] (0, 0) _ rfl (by (with_reducible repeat (first | refine blk_drewN ?_ _ | refine blk_drew ?_ | refine blk_alloc ?_ _)); refine blk_put (cs := #[.int .i64 0, .int .i64 0, .int .i64 0]) ?_ 2 _ rfl; (with_reducible repeat (first | refine blk_drewN ?_ _ | refine blk_drew ?_ | refine blk_alloc ?_ _)); refine blk_put (cs := #[.int .i64 0, .int .i64 0, .int .i64 0]) ?_ 1 _ rfl; (with_reducible repeat (first | refine blk_drewN ?_ _ | refine blk_drew ?_ | refine blk_alloc ?_ _)); refine blk_put (cs := #[.int .i64 0, .int .i64 0, .int .i64 0]) ?_ 0 _ rfl; (with_reducible repeat (first | refine blk_drewN ?_ _ | refine blk_drew ?_ | refine blk_alloc ?_ _)); exact BK101.out) Try.underlying86 rfl (by kernel_rfl)) rfl ?_
      exact ⟨by first | rfl | (simp [errW_none, errW_some] <;> rfl) | (simp [*, errW_none, errW_some] <;> rfl), bl⟩
    · rw [if_neg c7] at H
      have c7b0 : (t102 == 0) = false := beq_eq_false_iff_ne.mpr c7
      have c7b1 : (t102 != 0) = true := bne_iff_ne.mpr c7
      by_cases c10 : t102 = (l0.length : Int)
      · rw [if_pos c10] at H
        have c10b0 : (t102 == (l0.length : Int)) = true := beq_iff_eq.mpr c10
        have c10b1 : (t102 != (l0.length : Int)) = false := bne_eq_false_iff_eq.mpr c10
        clear c10
        simp only [Option.some.injEq, Prod.mk.injEq] at H
        obtain ⟨rfl, rfl, rfl⟩ := H
        go_enter Try.func68, Try.ntmps68
        go_wp2_with (first | ((with_reducible refine gate_dst (N := 4) rfl ?_); refine box_event ?hg (N := 4) ?hd (cs := #[.int .i64 0, .int .i64 0, .int .i64 0]) (t := 86) ?hr ?_; (case hd => rfl); (case hg => rfl); (case hr => first | (go_simp; done) | (go_simp; rfl)); intro gb101 hg w11 hbox hb; have n0_ := Aside0.mk (below_step bl hb); have n1_ := Aside0.mk (hbox); have n2_ := Aside0.mk ((by rw [hg]; exact (below_size bl) : w.heap.size ≤ gb101)); have n3_ := Aside0.mk ((by rw [hg]; exact (below_size bl) : w.heap.size ≤ gb101)); clear HB; have HB := n0_; have BK101 := n1_; have GW101 := n2_; have GE101 := n3_; clear n0_ n1_ n2_ n3_; clear hb hbox hg) | ((with_reducible refine gate_callee (f := 115) rfl ?_); refine goesL_ (some 10) rfl rfl Try.func115 (by kernel_rfl) rfl #[.slice A0 l0.length c0, .int .i64 a1] rfl (by (try simp only [List.map_toArray, List.map_cons, List.map_nil]); first | done | rfl | (simp only [List.length_drop, List.length_take]; rfl)) ?_; (with_reducible refine (slices_BinarySearch_int_int.calls k _ _ l0 a1 t102 false _ ?side1 ?side2 A3.out).mono ?_); (case side1 => repeat (first | exact (Kd.C_below HR0.out HB.out) | (with_reducible refine Kd.C_alloc ?_ _) | (with_reducible refine Kd.C_drewN ?_ _) | (with_reducible refine Kd.C_drew ?_))); (case side2 => exact HC0.out); rintro e w' ⟨rfl, ⟨nd, rfl⟩⟩; refine ⟨_, rfl, ?_⟩; (try (rw [drewN_self w11]; generalize hq_ : World.drewN w11 _ = w11; have n0_ : Aside0 (w11.heap[gb101]? = some (.cells #[.int .i64 0, .int .i64 0, .int .i64 0] 86 (0, 0))) := ⟨by rw [← hq_]; exact bk⟩; have n1_ : Aside0 (Below w.heap.size w w11) := ⟨by rw [← hq_]; exact bl⟩; clear BK101 HB hq_; have BK101 := n0_; have HB := n1_; clear n0_ n1_)); have hcz12_0 : w11.cell? ⟨gb101, 0, none⟩ = some (.int .i64 0) := (blk_cell BK101.out 0).trans rfl; have hcz12_1 : w11.cell? ⟨gb101, 1, none⟩ = some (.int .i64 0) := (blk_cell BK101.out 1).trans rfl; have hcz12_2 : w11.cell? ⟨gb101, 2, none⟩ = some (.int .i64 0) := (blk_cell BK101.out 2).trans rfl; have hfz12_0 := blk_frozen BK101.out 0; have hfz12_1 := blk_frozen BK101.out 1; have hfz12_2 := blk_frozen BK101.out 2))
        refine bodyPost_ret (results_cell_row rfl _ _ gb101 86 #[.int .i64 (wrap64 (t102 - 1)), .int .i64 0, .int .i64 1] (0, 0) _ rfl (by (with_reducible repeat (first | refine blk_drewN ?_ _ | refine blk_drew ?_ | refine blk_alloc ?_ _)); refine blk_put (cs := #[.int .i64 (wrap64 (t102 - 1)), .int .i64 0, .int .i64 0]) ?_ 2 _ rfl; (with_reducible repeat (first | refine blk_drewN ?_ _ | refine blk_drew ?_ | refine blk_alloc ?_ _)); refine blk_put (cs := #[.int .i64 (wrap64 (t102 - 1)), .int .i64 0, .int .i64 0]) ?_ 1 _ rfl; (with_reducible repeat (first | refine blk_drewN ?_ _ | refine blk_drew ?_ | refine blk_alloc ?_ _)); refine blk_put (cs := #[.int .i64 0, .int .i64 0, .int .i64 0]) ?_ 0 _ rfl; (with_reducible repeat (first | refine blk_drewN ?_ _ | refine blk_drew ?_ | refine blk_alloc ?_ _)); exact BK101.out) Try.underlying86 rfl (by kernel_rfl)) rfl ?_
        exact ⟨by first | rfl | (simp [errW_none, errW_some] <;> rfl) | (simp [*, errW_none, errW_some] <;> rfl), bl⟩
      · rw [if_neg c10] at H
        have c10b0 : (t102 == (l0.length : Int)) = false := beq_eq_false_iff_ne.mpr c10
        have c10b1 : (t102 != (l0.length : Int)) = true := bne_iff_ne.mpr c10
        obtain ⟨ji13, hji13⟩ : ∃ j_ : Int, (wrap64 (t102 - 1)) = j_ := ⟨_, rfl⟩
        replace H : (if 0 ≤ (ji13) then (if (ji13) < (l0.length : Int) then (if 0 ≤ t102 then (if t102 < (l0.length : Int) then (some (ji13, wrap64 (a1 - (rd l0 (ji13))), wrap64 ((rd l0 t102) - (rd l0 (ji13))))) else (none)) else (none)) else (none)) else (none)) = some (r1, r2, r3) := by first | (rw [hji13] at H; exact H) | (simp only [hji13] at H ⊢; exact H)
        (try rw [hji13] at A3)
        have hji13w : (IntKind.i64.wrap (t102 - 1)) = ji13 := (i64_w _).trans hji13
        by_cases c14 : 0 ≤ (ji13)
        · rw [if_pos c14] at H
          have c14b0 : decide (0 ≤ (ji13)) = true := decide_eq_true c14
          clear c14
          by_cases c15 : (ji13) < (l0.length : Int)
          · rw [if_pos c15] at H
            have c15b0 : decide ((ji13) < (l0.length : Int)) = true := decide_eq_true c15
            clear c15
            by_cases c16 : 0 ≤ t102
            · rw [if_pos c16] at H
              have c16b0 : decide (0 ≤ t102) = true := decide_eq_true c16
              clear c16
              by_cases c17 : t102 < (l0.length : Int)
              · rw [if_pos c17] at H
                have c17b0 : decide (t102 < (l0.length : Int)) = true := decide_eq_true c17
                clear c17
                simp only [Option.some.injEq, Prod.mk.injEq] at H
                obtain ⟨rfl, rfl, rfl⟩ := H
                go_enter Try.func68, Try.ntmps68
                try go_wp2_with (first | ((with_reducible refine gate_dst (N := 4) rfl ?_); refine box_event ?hg (N := 4) ?hd (cs := #[.int .i64 0, .int .i64 0, .int .i64 0]) (t := 86) ?hr ?_; (case hd => rfl); (case hg => rfl); (case hr => first | (go_simp; done) | (go_simp; rfl)); intro gb101 hg w18 hbox hb; have n0_ := Aside0.mk (below_step bl hb); have n1_ := Aside0.mk (hbox); have n2_ := Aside0.mk ((by rw [hg]; exact (below_size bl) : w.heap.size ≤ gb101)); have n3_ := Aside0.mk ((by rw [hg]; exact (below_size bl) : w.heap.size ≤ gb101)); clear HB; have HB := n0_; have BK101 := n1_; have GW101 := n2_; have GE101 := n3_; clear n0_ n1_ n2_ n3_; clear hb hbox hg) | ((with_reducible refine gate_callee (f := 115) rfl ?_); refine goesL_ (some 10) rfl rfl Try.func115 (by kernel_rfl) rfl #[.slice A0 l0.length c0, .int .i64 a1] rfl (by (try simp only [List.map_toArray, List.map_cons, List.map_nil]); first | done | rfl | (simp only [List.length_drop, List.length_take]; rfl)) ?_; (with_reducible refine (slices_BinarySearch_int_int.calls k _ _ l0 a1 t102 false _ ?side1 ?side2 A3.out).mono ?_); (case side1 => repeat (first | exact (Kd.C_below HR0.out HB.out) | (with_reducible refine Kd.C_alloc ?_ _) | (with_reducible refine Kd.C_drewN ?_ _) | (with_reducible refine Kd.C_drew ?_))); (case side2 => exact HC0.out); rintro e w' ⟨rfl, ⟨nd, rfl⟩⟩; refine ⟨_, rfl, ?_⟩; (try (rw [drewN_self w18]; generalize hq_ : World.drewN w18 _ = w18; have n0_ : Aside0 (w18.heap[gb101]? = some (.cells #[.int .i64 0, .int .i64 0, .int .i64 0] 86 (0, 0))) := ⟨by rw [← hq_]; exact bk⟩; have n1_ : Aside0 (Below w.heap.size w w18) := ⟨by rw [← hq_]; exact bl⟩; clear BK101 HB hq_; have BK101 := n0_; have HB := n1_; clear n0_ n1_))))
                have n0_ := Aside0.mk (blk_drew BK101.out)
                have n1_ := Aside0.mk (below_drew1 HB.out)
                clear BK101
                clear HB
                have BK101 := n0_
                have HB := n1_
                clear n0_ n1_
                have p104 : 0 ≤ ((ji13) : Int) := of_decide_eq_true (by first | (with_reducible assumption) | assumption)
                have q104 : (ji13) < (l0.length : Int) := of_decide_eq_true (by first | (with_reducible assumption) | assumption)
                obtain ⟨ad104, e104, hx104_0⟩ := Kd.at_int HR0.out (ji13) p104 q104
                have hw104_0 := hx104_0
                cases e104
                replace hx104_0 := (HB.out.cell (World.block_lt_of_cell? w _ hx104_0)).trans hx104_0
                replace p104 := eq_true p104
                replace q104 := eq_true q104
                have p105 : 0 ≤ (t102 : Int) := of_decide_eq_true (by first | (with_reducible assumption) | assumption)
                have q105 : t102 < (l0.length : Int) := of_decide_eq_true (by first | (with_reducible assumption) | assumption)
                obtain ⟨ad105, e105, hx105_0⟩ := Kd.at_int HR0.out t102 p105 q105
                have hw105_0 := hx105_0
                obtain rfl : ad104 = ad105 := (by injection e105)
                replace hx105_0 := (HB.out.cell (World.block_lt_of_cell? w _ hx105_0)).trans hx105_0
                replace p105 := eq_true p105
                replace q105 := eq_true q105
                have p106 : 0 ≤ ((ji13) : Int) := of_decide_eq_true (by first | (with_reducible assumption) | assumption)
                have q106 : (ji13) < (l0.length : Int) := of_decide_eq_true (by first | (with_reducible assumption) | assumption)
                obtain ⟨ad106, e106, hx106_0⟩ := Kd.at_int HR0.out (ji13) p106 q106
                have hw106_0 := hx106_0
                obtain rfl : ad104 = ad106 := (by injection e106)
                replace hx106_0 := (HB.out.cell (World.block_lt_of_cell? w _ hx106_0)).trans hx106_0
                replace p106 := eq_true p106
                replace q106 := eq_true q106
                refine start_ (n := 21) (S := fun w' => w'.cell? (ad104.add ((ji13)).toNat) = some (.int .i64 (rd l0 (ji13))) ∧ w'.cell? (ad104.add (t102).toNat) = some (.int .i64 (rd l0 t102)) ∧ w'.cell? (ad104.add ((ji13)).toNat) = some (.int .i64 (rd l0 (ji13)))) (ds := []) #[false, false, false, false, false, false, false, false, false, false, false, false, false, false, false, false, false, false, false, false, false] (by kernel_rfl) rfl rfl ⟨((HB.out.cell (World.block_lt_of_cell? w _ hw104_0)).trans hw104_0), ((HB.out.cell (World.block_lt_of_cell? w _ hw105_0)).trans hw105_0), ((HB.out.cell (World.block_lt_of_cell? w _ hw106_0)).trans hw106_0)⟩ (fun hHeld => ?_); refine with_tabW curve_where.tab8 curve_where.bits8 (fun HT_ HW_ => ?_)
                generalize w18.drew = w19 at BK101 HB hx104_0 hx105_0 hx106_0 hHeld ⊢
                refine pure_ (i := 0) (N := some 29) (v := ?_) (a' := ?_) #[true, false, false, false, false, false, false, false, false, false, false, false, false, false, false, false, false, false, false, false, false] rfl rfl (any_of HT_.out (by kernel_rfl)) (fun _ _ _ h => h) (Or.inl ⟨by rfl, ?_⟩) ?_ ?_
                rotate_left
                · intro w'
                  go_simp
                  with_reducible rfl
                rotate_left
                · simp only [Act.put, List.setIfInBounds_toArray, List.set_cons_zero, List.set_cons_succ, i64_w, i32_w]
                  rfl
                refine pure_ (i := 1) (N := some 30) (v := ?_) (a' := ?_) #[true, true, false, false, false, false, false, false, false, false, false, false, false, false, false, false, false, false, false, false, false] rfl rfl (any_of HT_.out (by kernel_rfl)) (fun _ _ _ h => h) (Or.inl ⟨by rfl, ?_⟩) ?_ ?_
                rotate_left
                · intro w'
                  go_simp
                  with_reducible rfl
                rotate_left
                · simp only [Act.put, List.setIfInBounds_toArray, List.set_cons_zero, List.set_cons_succ, i64_w, i32_w]
                  rfl
                refine pure_ (i := 2) (N := some 31) (v := ?_) (a' := ?_) #[true, true, true, false, false, false, false, false, false, false, false, false, false, false, false, false, false, false, false, false, false] rfl rfl (any_of HT_.out (by kernel_rfl)) (fun _ _ _ h => h) (Or.inl ⟨by rfl, ?_⟩) ?_ ?_
                rotate_left
                · intro w'
                  go_simp
                  with_reducible rfl
                rotate_left
                · simp only [Act.put, List.setIfInBounds_toArray, List.set_cons_zero, List.set_cons_succ, i64_w, i32_w]
                  rfl
                refine pure_ (i := 3) (N := some 32) (v := ?_) (a' := ?_) #[true, true, true, true, false, false, false, false, false, false, false, false, false, false, false, false, false, false, false, false, false] rfl rfl (any_of HT_.out (by kernel_rfl)) (fun _ _ _ h => h) (Or.inl ⟨by rfl, ?_⟩) ?_ ?_
                rotate_left
                · intro w'
                  go_simp
                  with_reducible rfl
                rotate_left
                · simp only [Act.put, List.setIfInBounds_toArray, List.set_cons_zero, List.set_cons_succ, i64_w, i32_w]
                  rfl
                refine pure_ (i := 4) (N := some 33) (v := ?_) (a' := ?_) #[true, true, true, true, true, false, false, false, false, false, false, false, false, false, false, false, false, false, false, false, false] rfl rfl (any_of HT_.out (by kernel_rfl)) (fun _ _ _ h => h) (Or.inl ⟨by rfl, ?_⟩) ?_ ?_
                rotate_left
                · intro w'
                  go_simp
                  with_reducible rfl
                rotate_left
                · simp only [Act.put, List.setIfInBounds_toArray, List.set_cons_zero, List.set_cons_succ, i64_w, i32_w]
                  rfl
                refine pure_ (i := 5) (N := some 34) (v := ?_) (a' := ?_) #[true, true, true, true, true, true, false, false, false, false, false, false, false, false, false, false, false, false, false, false, false] rfl rfl (any_of HT_.out (by kernel_rfl)) (fun _ _ _ h => h) (Or.inl ⟨by rfl, ?_⟩) ?_ ?_
                rotate_left
                · intro w'
                  go_simp
                  with_reducible rfl
                rotate_left
                · simp only [Act.put, List.setIfInBounds_toArray, List.set_cons_zero, List.set_cons_succ, i64_w, i32_w]
                  rfl
                refine pure_ (i := 6) (N := some 35) (v := ?_) (a' := ?_) #[true, true, true, true, true, true, true, false, false, false, false, false, false, false, false, false, false, false, false, false, false] rfl rfl (any_of HT_.out (by kernel_rfl)) (fun _ _ _ h => h) (Or.inl ⟨by rfl, ?_⟩) ?_ ?_
                rotate_left
                · intro w'
                  go_simp
                  with_reducible rfl
                rotate_left
                · simp only [Act.put, List.setIfInBounds_toArray, List.set_cons_zero, List.set_cons_succ, i64_w, i32_w]
                  rfl
                refine pure_ (i := 9) (N := some 38) (v := ?_) (a' := ?_) #[true, true, true, true, true, true, true, false, false, true, false, false, false, false, false, false, false, false, false, false, false] rfl rfl (any_of HT_.out (by kernel_rfl)) (fun _ _ _ h => h) (Or.inl ⟨by rfl, ?_⟩) ?_ ?_
                rotate_left
                · intro w'
                  go_simp
                  with_reducible rfl
                rotate_left
                · simp only [Act.put, List.setIfInBounds_toArray, List.set_cons_zero, List.set_cons_succ, i64_w, i32_w]
                  rfl
                refine pure_ (i := 10) (N := some 39) (v := ?_) (a' := ?_) #[true, true, true, true, true, true, true, false, false, true, true, false, false, false, false, false, false, false, false, false, false] rfl rfl (any_of HT_.out (by kernel_rfl)) (fun _ _ _ h => h) (Or.inl ⟨by rfl, ?_⟩) ?_ ?_
                rotate_left
                · intro w'
                  go_simp
                  with_reducible rfl
                rotate_left
                · simp only [Act.put, List.setIfInBounds_toArray, List.set_cons_zero, List.set_cons_succ, i64_w, i32_w]
                  rfl
                refine pure_ (i := 11) (N := some 40) (v := ?_) (a' := ?_) #[true, true, true, true, true, true, true, false, false, true, true, true, false, false, false, false, false, false, false, false, false] rfl rfl (any_of HT_.out (by kernel_rfl)) (fun _ _ _ h => h) (Or.inl ⟨by rfl, ?_⟩) ?_ ?_
                rotate_left
                · intro w'
                  go_simp
                  with_reducible rfl
                rotate_left
                · simp only [Act.put, List.setIfInBounds_toArray, List.set_cons_zero, List.set_cons_succ, i64_w, i32_w]
                  rfl
                refine pure_ (i := 13) (N := some 42) (v := ?_) (a' := ?_) #[true, true, true, true, true, true, true, false, false, true, true, true, false, true, false, false, false, false, false, false, false] rfl rfl (any_of HT_.out (by kernel_rfl)) (fun _ _ _ h => h) (Or.inl ⟨by rfl, ?_⟩) ?_ ?_
                rotate_left
                · intro w'
                  go_simp
                  with_reducible rfl
                rotate_left
                · simp only [Act.put, List.setIfInBounds_toArray, List.set_cons_zero, List.set_cons_succ, i64_w, i32_w]
                  rfl
                refine pure_ (i := 14) (N := some 43) (v := ?_) (a' := ?_) #[true, true, true, true, true, true, true, false, false, true, true, true, false, true, true, false, false, false, false, false, false] rfl rfl (any_of HT_.out (by kernel_rfl)) (fun _ _ _ h => h) (Or.inl ⟨by rfl, ?_⟩) ?_ ?_
                rotate_left
                · intro w'
                  go_simp
                  with_reducible rfl
                rotate_left
                · simp only [Act.put, List.setIfInBounds_toArray, List.set_cons_zero, List.set_cons_succ, i64_w, i32_w]
                  rfl
                refine pure_ (i := 15) (N := some 44) (v := ?_) (a' := ?_) #[true, true, true, true, true, true, true, false, false, true, true, true, false, true, true, true, false, false, false, false, false] rfl rfl (any_of HT_.out (by kernel_rfl)) (fun _ _ _ h => h) (Or.inl ⟨by rfl, ?_⟩) ?_ ?_
                rotate_left
                · intro w'
                  go_simp
                  with_reducible rfl
                rotate_left
                · simp only [Act.put, List.setIfInBounds_toArray, List.set_cons_zero, List.set_cons_succ, i64_w, i32_w]
                  rfl
                refine pure_ (i := 16) (N := some 45) (v := ?_) (a' := ?_) #[true, true, true, true, true, true, true, false, false, true, true, true, false, true, true, true, true, false, false, false, false] rfl rfl (any_of HT_.out (by kernel_rfl)) (fun _ _ _ h => h) (Or.inl ⟨by rfl, ?_⟩) ?_ ?_
                rotate_left
                · intro w'
                  go_simp
                  with_reducible rfl
                rotate_left
                · simp only [Act.put, List.setIfInBounds_toArray, List.set_cons_zero, List.set_cons_succ, i64_w, i32_w]
                  rfl
                refine take_ (i := 7) (N := some 36) (v := ?_) (a' := ?_) #[true, true, true, true, true, true, true, true, false, true, true, true, false, true, true, true, true, false, false, false, false] rfl rfl (take_ofW HT_.out HW_.out (by kernel_rfl)) (fun _ _ _ h => h) (Or.inl ⟨by rfl, ?_⟩) hHeld ?_ ?_
                rotate_left
                · rintro w' ⟨s0, s1, s2⟩
                  go_simp
                  with_reducible rfl
                rotate_left
                · simp only [Act.put, List.setIfInBounds_toArray, List.set_cons_zero, List.set_cons_succ, i64_w, i32_w]
                  rfl
                refine pure_ (i := 8) (N := some 37) (v := ?_) (a' := ?_) #[true, true, true, true, true, true, true, true, true, true, true, true, false, true, true, true, true, false, false, false, false] rfl rfl (any_of HT_.out (by kernel_rfl)) (fun _ _ _ h => h) (Or.inl ⟨by rfl, ?_⟩) ?_ ?_
                rotate_left
                · intro w'
                  go_simp
                  with_reducible rfl
                rotate_left
                · simp only [Act.put, List.setIfInBounds_toArray, List.set_cons_zero, List.set_cons_succ, i64_w, i32_w]
                  rfl
                refine take_ (i := 12) (N := some 41) (v := ?_) (a' := ?_) #[true, true, true, true, true, true, true, true, true, true, true, true, true, true, true, true, true, false, false, false, false] rfl rfl (take_ofW HT_.out HW_.out (by kernel_rfl)) (fun _ _ _ h => h) (Or.inl ⟨by rfl, ?_⟩) hHeld ?_ ?_
                rotate_left
                · rintro w' ⟨s0, s1, s2⟩
                  go_simp
                  with_reducible rfl
                rotate_left
                · simp only [Act.put, List.setIfInBounds_toArray, List.set_cons_zero, List.set_cons_succ, i64_w, i32_w]
                  rfl
                refine take_ (i := 17) (N := some 46) (v := ?_) (a' := ?_) #[true, true, true, true, true, true, true, true, true, true, true, true, true, true, true, true, true, true, false, false, false] rfl rfl (take_ofW HT_.out HW_.out (by kernel_rfl)) (fun _ _ _ h => h) (Or.inl ⟨by rfl, ?_⟩) hHeld ?_ ?_
                rotate_left
                · rintro w' ⟨s0, s1, s2⟩
                  go_simp
                  with_reducible rfl
                rotate_left
                · simp only [Act.put, List.setIfInBounds_toArray, List.set_cons_zero, List.set_cons_succ, i64_w, i32_w]
                  rfl
                refine pure_ (i := 18) (N := some 47) (v := ?_) (a' := ?_) #[true, true, true, true, true, true, true, true, true, true, true, true, true, true, true, true, true, true, true, false, false] rfl rfl (any_of HT_.out (by kernel_rfl)) (fun _ _ _ h => h) (Or.inl ⟨by rfl, ?_⟩) ?_ ?_
                rotate_left
                · intro w'
                  go_simp
                  with_reducible rfl
                rotate_left
                · simp only [Act.put, List.setIfInBounds_toArray, List.set_cons_zero, List.set_cons_succ, i64_w, i32_w]
                  rfl
                refine pure_ (i := 19) (N := some 48) (v := ?_) (a' := ?_) #[true, true, true, true, true, true, true, true, true, true, true, true, true, true, true, true, true, true, true, true, false] rfl rfl (any_of HT_.out (by kernel_rfl)) (fun _ _ _ h => h) (Or.inl ⟨by rfl, ?_⟩) ?_ ?_
                rotate_left
                · intro w'
                  go_simp
                  with_reducible rfl
                rotate_left
                · simp only [Act.put, List.setIfInBounds_toArray, List.set_cons_zero, List.set_cons_succ, i64_w, i32_w]
                  rfl
                refine one_ (i := 20) (N := none) #[true, true, true, true, true, true, true, true, true, true, true, true, true, true, true, true, true, true, true, true, true] rfl rfl (one_of HT_.out (by kernel_rfl)) (by decide) (fun K hK => ?_)
                have hs20 : w19.cell? ⟨gb101, 0, none⟩ = some (.int .i64 0) := (blk_cell BK101.out 0).trans rfl
                have hfs20 := blk_frozen BK101.out 0
                have hs21 : w19.cell? ⟨gb101, 1, none⟩ = some (.int .i64 0) := (blk_cell BK101.out 1).trans rfl
                have hfs21 := blk_frozen BK101.out 1
                have hs22 : w19.cell? ⟨gb101, 2, none⟩ = some (.int .i64 0) := (blk_cell BK101.out 2).trans rfl
                have hfs22 := blk_frozen BK101.out 2
                refine skip_ (w1 := ?_) (by rfl) rfl ?_ ?_
                rotate_left
                · go_simp
                  rfl
                refine hK.out _ _ ⟨((cell_far (p := ⟨gb101, _, none⟩) (by first | exact Nat.ne_of_lt (Nat.lt_of_lt_of_le (by have := World.block_lt_of_cell? _ _ hw104_0; first | rwa [add_block] at this | exact this) GW101.out) | (rw [add_block]; exact Nat.ne_of_lt (Nat.lt_of_lt_of_le (by have := World.block_lt_of_cell? _ _ hw104_0; first | rwa [add_block] at this | exact this) GW101.out)) | (show (Addr.add _ _).block ≠ _; rw [add_block]; exact Nat.ne_of_lt (Nat.lt_of_lt_of_le (by have := World.block_lt_of_cell? _ _ hw104_0; first | rwa [add_block] at this | exact this) GW101.out)) | (dsimp only; exact Nat.ne_of_lt (Nat.lt_of_lt_of_le (by have := World.block_lt_of_cell? _ _ hw104_0; first | rwa [add_block] at this | exact this) GW101.out))) _).trans (((cell_far (p := ⟨gb101, _, none⟩) (by first | exact Nat.ne_of_lt (Nat.lt_of_lt_of_le (by have := World.block_lt_of_cell? _ _ hw104_0; first | rwa [add_block] at this | exact this) GW101.out) | (rw [add_block]; exact Nat.ne_of_lt (Nat.lt_of_lt_of_le (by have := World.block_lt_of_cell? _ _ hw104_0; first | rwa [add_block] at this | exact this) GW101.out)) | (show (Addr.add _ _).block ≠ _; rw [add_block]; exact Nat.ne_of_lt (Nat.lt_of_lt_of_le (by have := World.block_lt_of_cell? _ _ hw104_0; first | rwa [add_block] at this | exact this) GW101.out)) | (dsimp only; exact Nat.ne_of_lt (Nat.lt_of_lt_of_le (by have := World.block_lt_of_cell? _ _ hw104_0; first | rwa [add_block] at this | exact this) GW101.out))) _).trans (((cell_far (p := ⟨gb101, _, none⟩) (by first | exact Nat.ne_of_lt (Nat.lt_of_lt_of_le (by have := World.block_lt_of_cell? _ _ hw104_0; first | rwa [add_block] at this | exact this) GW101.out) | (rw [add_block]; exact Nat.ne_of_lt (Nat.lt_of_lt_of_le (by have := World.block_lt_of_cell? _ _ hw104_0; first | rwa [add_block] at this | exact this) GW101.out)) | (show (Addr.add _ _).block ≠ _; rw [add_block]; exact Nat.ne_of_lt (Nat.lt_of_lt_of_le (by have := World.block_lt_of_cell? _ _ hw104_0; first | rwa [add_block] at this | exact this) GW101.out)) | (dsimp only; exact Nat.ne_of_lt (Nat.lt_of_lt_of_le (by have := World.block_lt_of_cell? _ _ hw104_0; first | rwa [add_block] at this | exact this) GW101.out))) _).trans (hHeld.1)))))), ((cell_far (p := ⟨gb101, _, none⟩) (by first | exact Nat.ne_of_lt (Nat.lt_of_lt_of_le (by have := World.block_lt_of_cell? _ _ hw105_0; first | rwa [add_block] at this | exact this) GW101.out) | (rw [add_block]; exact Nat.ne_of_lt (Nat.lt_of_lt_of_le (by have := World.block_lt_of_cell? _ _ hw105_0; first | rwa [add_block] at this | exact this) GW101.out)) | (show (Addr.add _ _).block ≠ _; rw [add_block]; exact Nat.ne_of_lt (Nat.lt_of_lt_of_le (by have := World.block_lt_of_cell? _ _ hw105_0; first | rwa [add_block] at this | exact this) GW101.out)) | (dsimp only; exact Nat.ne_of_lt (Nat.lt_of_lt_of_le (by have := World.block_lt_of_cell? _ _ hw105_0; first | rwa [add_block] at this | exact this) GW101.out))) _).trans (((cell_far (p := ⟨gb101, _, none⟩) (by first | exact Nat.ne_of_lt (Nat.lt_of_lt_of_le (by have := World.block_lt_of_cell? _ _ hw105_0; first | rwa [add_block] at this | exact this) GW101.out) | (rw [add_block]; exact Nat.ne_of_lt (Nat.lt_of_lt_of_le (by have := World.block_lt_of_cell? _ _ hw105_0; first | rwa [add_block] at this | exact this) GW101.out)) | (show (Addr.add _ _).block ≠ _; rw [add_block]; exact Nat.ne_of_lt (Nat.lt_of_lt_of_le (by have := World.block_lt_of_cell? _ _ hw105_0; first | rwa [add_block] at this | exact this) GW101.out)) | (dsimp only; exact Nat.ne_of_lt (Nat.lt_of_lt_of_le (by have := World.block_lt_of_cell? _ _ hw105_0; first | rwa [add_block] at this | exact this) GW101.out))) _).trans (((cell_far (p := ⟨gb101, _, none⟩) (by first | exact Nat.ne_of_lt (Nat.lt_of_lt_of_le (by have := World.block_lt_of_cell? _ _ hw105_0; first | rwa [add_block] at this | exact this) GW101.out) | (rw [add_block]; exact Nat.ne_of_lt (Nat.lt_of_lt_of_le (by have := World.block_lt_of_cell? _ _ hw105_0; first | rwa [add_block] at this | exact this) GW101.out)) | (show (Addr.add _ _).block ≠ _; rw [add_block]; exact Nat.ne_of_lt (Nat.lt_of_lt_of_le (by have := World.block_lt_of_cell? _ _ hw105_0; first | rwa [add_block] at this | exact this) GW101.out)) | (dsimp only; exact Nat.ne_of_lt (Nat.lt_of_lt_of_le (by have := World.block_lt_of_cell? _ _ hw105_0; first | rwa [add_block] at this | exact this) GW101.out))) _).trans (hHeld.2.1)))))), ((cell_far (p := ⟨gb101, _, none⟩) (by first | exact Nat.ne_of_lt (Nat.lt_of_lt_of_le (by have := World.block_lt_of_cell? _ _ hw106_0; first | rwa [add_block] at this | exact this) GW101.out) | (rw [add_block]; exact Nat.ne_of_lt (Nat.lt_of_lt_of_le (by have := World.block_lt_of_cell? _ _ hw106_0; first | rwa [add_block] at this | exact this) GW101.out)) | (show (Addr.add _ _).block ≠ _; rw [add_block]; exact Nat.ne_of_lt (Nat.lt_of_lt_of_le (by have := World.block_lt_of_cell? _ _ hw106_0; first | rwa [add_block] at this | exact this) GW101.out)) | (dsimp only; exact Nat.ne_of_lt (Nat.lt_of_lt_of_le (by have := World.block_lt_of_cell? _ _ hw106_0; first | rwa [add_block] at this | exact this) GW101.out))) _).trans (((cell_far (p := ⟨gb101, _, none⟩) (by first | exact Nat.ne_of_lt (Nat.lt_of_lt_of_le (by have := World.block_lt_of_cell? _ _ hw106_0; first | rwa [add_block] at this | exact this) GW101.out) | (rw [add_block]; exact Nat.ne_of_lt (Nat.lt_of_lt_of_le (by have := World.block_lt_of_cell? _ _ hw106_0; first | rwa [add_block] at this | exact this) GW101.out)) | (show (Addr.add _ _).block ≠ _; rw [add_block]; exact Nat.ne_of_lt (Nat.lt_of_lt_of_le (by have := World.block_lt_of_cell? _ _ hw106_0; first | rwa [add_block] at this | exact this) GW101.out)) | (dsimp only; exact Nat.ne_of_lt (Nat.lt_of_lt_of_le (by have := World.block_lt_of_cell? _ _ hw106_0; first | rwa [add_block] at this | exact this) GW101.out))) _).trans (((cell_far (p := ⟨gb101, _, none⟩) (by first | exact Nat.ne_of_lt (Nat.lt_of_lt_of_le (by have := World.block_lt_of_cell? _ _ hw106_0; first | rwa [add_block] at this | exact this) GW101.out) | (rw [add_block]; exact Nat.ne_of_lt (Nat.lt_of_lt_of_le (by have := World.block_lt_of_cell? _ _ hw106_0; first | rwa [add_block] at this | exact this) GW101.out)) | (show (Addr.add _ _).block ≠ _; rw [add_block]; exact Nat.ne_of_lt (Nat.lt_of_lt_of_le (by have := World.block_lt_of_cell? _ _ hw106_0; first | rwa [add_block] at this | exact this) GW101.out)) | (dsimp only; exact Nat.ne_of_lt (Nat.lt_of_lt_of_le (by have := World.block_lt_of_cell? _ _ hw106_0; first | rwa [add_block] at this | exact this) GW101.out))) _).trans (hHeld.2.2))))))⟩ (fun hHeld => ?_)
                clear hK K
                refine done_ (done_of HT_.out (by kernel_rfl)) ?_
                try go_wp2
                refine bodyPost_ret (results_cell_row rfl _ _ gb101 86 #[.int .i64 ji13, .int .i64 (wrap64 (a1 - (rd l0 (ji13)))), .int .i64 (wrap64 ((rd l0 t102) - (rd l0 (ji13))))] (0, 0) _ rfl (by (with_reducible repeat (first | refine blk_drewN ?_ _ | refine blk_drew ?_ | refine blk_alloc ?_ _)); refine blk_put (cs := #[.int .i64 ji13, .int .i64 (wrap64 (a1 - (rd l0 (ji13)))), .int .i64 0]) ?_ 2 _ rfl; (with_reducible repeat (first | refine blk_drewN ?_ _ | refine blk_drew ?_ | refine blk_alloc ?_ _)); refine blk_put (cs := #[.int .i64 ji13, .int .i64 0, .int .i64 0]) ?_ 1 _ rfl; (with_reducible repeat (first | refine blk_drewN ?_ _ | refine blk_drew ?_ | refine blk_alloc ?_ _)); refine blk_put (cs := #[.int .i64 0, .int .i64 0, .int .i64 0]) ?_ 0 _ rfl; (with_reducible repeat (first | refine blk_drewN ?_ _ | refine blk_drew ?_ | refine blk_alloc ?_ _)); exact BK101.out) Try.underlying86 rfl (by kernel_rfl)) rfl ?_
                exact ⟨by first | rfl | (simp [errW_none, errW_some] <;> rfl) | (simp only [← hji13]; first | rfl | (simp [errW_none, errW_some] <;> rfl)) | (simp [*, errW_none, errW_some] <;> rfl), bl⟩
              · rw [if_neg c17] at H
                exact absurd H (by simp)
            · rw [if_neg c16] at H
              exact absurd H (by simp)
          · rw [if_neg c15] at H
            exact absurd H (by simp)
        · rw [if_neg c14] at H
          exact absurd H (by simp)

end Go.Proofs.Ytbomgfbfnkfamaa.PAll
end
section
namespace Go.Proofs.Ytbomgfbfnkfamaa.PAll
open Go.RowKit Go.Proofs.YtbomgfbfnkfamaaW.PrintWords Go.Proofs.YtbomgfbfnkfamaaW.PrintLast Go.Proofs.YtbomgfbfnkfamaaW.PrintMore
attribute [local go_sem] max2_int min2_int max_two min_two max_three min_three max_four min_four   -- for this text's walks alone
set_option linter.unusedVariables false
set_option linter.unusedSimpArgs false

/-! ### curve_floor: function 69 -/
def curve_floor.f (a0 : Int) (a1 : Int) : Option (Int) := if a1 = 0 then (none) else (if (wrap64 ((wrap64 (Int.tdiv a0 a1)) * a1)) > a0 then (some (wrap64 ((wrap64 (Int.tdiv a0 a1)) - 1))) else (some (wrap64 (Int.tdiv a0 a1))))
set_option maxHeartbeats 8000000 in
set_option maxRecDepth 100000 in
theorem curve_floor.calls (a0 : Int) (a1 : Int) (r : Int) (w : World) (h : curve_floor.f a0 a1 = some r) :
    Calls Try.prog 69 #[.int .i64 a0, .int .i64 a1] w fun e w' => e = .returned (.int .i64 r) ∧ Drawn0 w w' := by
  have H : (if a1 = 0 then (none) else (if (wrap64 ((wrap64 (Int.tdiv a0 a1)) * a1)) > a0 then (some (wrap64 ((wrap64 (Int.tdiv a0 a1)) - 1))) else (some (wrap64 (Int.tdiv a0 a1))))) = some r := h
  clear h
  by_cases c3 : a1 = 0
  · rw [if_pos c3] at H
    exact absurd H (by simp)
  · rw [if_neg c3] at H
    have c3b0 : (a1 == 0) = false := beq_eq_false_iff_ne.mpr c3
    have c3b1 : (a1 != 0) = true := bne_iff_ne.mpr c3
    by_cases c4 : (wrap64 ((wrap64 (Int.tdiv a0 a1)) * a1)) > a0
    · rw [if_pos c4] at H
      have c4b0 : decide (a0 < (wrap64 ((wrap64 (Int.tdiv a0 a1)) * a1))) = true := decide_eq_true c4
      clear c4
      obtain rfl := Option.some.inj H
      go_enter Try.func69, Try.ntmps69
      go_wp2
      go_ret
      exact ⟨by first | rfl | (simp; done) | (simp [*]; done), by repeat (first | exact Drawn0.refl _ | apply Drawn0.step)⟩
    · rw [if_neg c4] at H
      have c4b0 : decide (a0 < (wrap64 ((wrap64 (Int.tdiv a0 a1)) * a1))) = false := decide_eq_false c4
      clear c4
      obtain rfl := Option.some.inj H
      go_enter Try.func69, Try.ntmps69
      go_wp2
      go_ret
      exact ⟨by first | rfl | (simp; done) | (simp [*]; done), by repeat (first | exact Drawn0.refl _ | apply Drawn0.step)⟩

end Go.Proofs.Ytbomgfbfnkfamaa.PAll
end
section
namespace Go.Proofs.Ytbomgfbfnkfamaa.PAll
open Go.RowKit Go.Proofs.YtbomgfbfnkfamaaW.PrintWords Go.Proofs.YtbomgfbfnkfamaaW.PrintLast Go.Proofs.YtbomgfbfnkfamaaW.PrintMore
attribute [local go_sem] max2_int min2_int max_two min_two max_three min_three max_four min_four   -- for this text's walks alone
set_option linter.unusedVariables false
set_option linter.unusedSimpArgs false

/-! ### curve_value: function 70 -/
def vcell (t : List (List Int)) (i j : Int) : Int := (t.getD i.toNat []).getD j.toNat 0
def vrow (r : List Int) (ya yu yo : Int) : Int := (yo - yu) * r.getD ya.toNat 0 + (if 0 < yu then yu * r.getD (ya + 1).toNat 0 else 0)
def valueOk (l0 : List (List Int)) (xa xu xo ya yu yo : Int) : Bool :=
  decide (0 ≤ xa) && decide (xa + 1 ≤ l0.length) && decide (0 < xu → xa + 2 ≤ l0.length) && decide (0 ≤ xu) && decide (xu ≤ xo) && decide (xo ≤ 2000000) && decide (0 ≤ ya) && decide (0 ≤ yu) && decide (yu ≤ yo) && decide (yo ≤ 1000000) &&
  l0.all fun r => decide (ya + 1 ≤ r.length) && decide (0 < yu → ya + 2 ≤ r.length) && decide (r.length ≤ 1000000) && r.all fun x => decide (0 ≤ x) && decide (x ≤ 1000000)
def curve_value.f (l0 : List (List Int)) (a1_0 : Int) (a1_1 : Int) (a1_2 : Int) (a2_0 : Int) (a2_1 : Int) (a2_2 : Int) : Option (Int) :=
  if valueOk l0 a1_0 a1_1 a1_2 a2_0 a2_1 a2_2 = true then some ((a1_2 - a1_1) * vrow (l0.getD a1_0.toNat []) a2_0 a2_1 a2_2 + (if 0 < a1_1 then a1_1 * vrow (l0.getD (a1_0 + 1).toNat []) a2_0 a2_1 a2_2 else 0)) else none
theorem below_call {w W W' : World} (h : Below w.heap.size w W) (k : Below W.heap.size W W') : Below w.heap.size w W' := below_then h h.size k
/-- The function value gf (with what it captured, lb) hands back the number res at arg, in each later world; it may make memory. -/
def PvGives (P : Program) (gf : Nat) (lb : Array Value) (arg : Value) (res : Int) (w : World) : Prop :=
  ∀ W, Below w.heap.size w W → Calls P gf (#[arg] ++ lb) W fun e w' => e = .returned (.int .i64 res) ∧ Below W.heap.size W w'
theorem PvGives.later {P : Program} {gf : Nat} {lb : Array Value} {arg : Value} {res : Int} {w W : World} (h : PvGives P gf lb arg res w) (hb : Below w.heap.size w W) : PvGives P gf lb arg res W := fun W' hb' => h W' (below_call hb hb')
set_option maxHeartbeats 4000000 in
set_option maxRecDepth 100000 in
theorem mixedI0 (gf : Nat) (lb : Array Value) (eg : ∀ args w, (callFunc gf args).run Try.prog w = .ok (.enter gf args) w) (a u o r0 : Int) (ad : Addr) (n c : Nat) (x0 : Value) (w : World)
   (hx0 : x0.oneCell' = true) (hcell : w.cell? (ad.add a.toNat) = some x0) (hc : n ≤ c) (h0 : 0 ≤ a) (h1 : a < n) (hu : u ≤ 0) (hv : PvGives Try.prog gf lb x0 r0 w) :
    Calls Try.prog 118 #[.agg #[.int .i64 a, .int .i64 u, .int .i64 o], .slice (some ad) n c, .func (.func gf) #[] lb] w fun e w' =>
      e = .returned (.int .i64 (wrap64 (wrap64 (o - u) * r0))) ∧ Below w.heap.size w w' := by
  go_enter Try.func118, Try.ntmps118
  go_wp2_with fail
  generalize hW : (w.alloc (Obj.cells #[Value.int IntKind.i64 a, Value.int IntKind.i64 u, Value.int IntKind.i64 o] 86)) = W
  have k0 : W.cell? ⟨w.heap.size, 0, none⟩ = some (.int .i64 a) := by subst hW; simp
  have k1 : W.cell? ⟨w.heap.size, 1, none⟩ = some (.int .i64 u) := by subst hW; simp
  have k2 : W.cell? ⟨w.heap.size, 2, none⟩ = some (.int .i64 o) := by subst hW; simp
  have k3 : W.cell? (ad.add a.toNat) = some x0 := by subst hW; exact pw_cell_below (below_alloc (Below.refl _ _) _) hcell
  have kb : Below w.heap.size w W := by subst hW; exact (below_alloc (Below.refl _ _) _)
  clear hW hcell
  go_region_held3 (fun w' => w'.cell? ⟨w.heap.size, 0, none⟩ = some (.int .i64 a) ∧ w'.cell? ⟨w.heap.size, 1, none⟩ = some (.int .i64 u) ∧ w'.cell? ⟨w.heap.size, 2, none⟩ = some (.int .i64 o) ∧ w'.cell? (ad.add a.toNat) = some x0 ∧ Below w.heap.size w w') (refine ⟨?_, ?_, ?_, ?_, ?_⟩ <;> first | assumption | (go_keep; done) | (refine pw_cell_below hb ?_; assumption) | (exact hb2) | (exact below_drew (by assumption))) (first | (go_at_fn gf; go_split_ands; (have hB0 : Below w.heap.size w _ := (by assumption)); go_loud (refine (hv _ (by exact hB0)).mono ?_); rintro e w' ⟨rfl, hb⟩; have hb2 := below_call hB0 hb))
  clear hb
  go_wp2_with fail
  go_ret
  simp only [i64_w]
  exact ⟨rfl, hb2⟩
set_option maxHeartbeats 4000000 in
set_option maxRecDepth 100000 in
theorem mixedI1 (gf : Nat) (lb : Array Value) (eg : ∀ args w, (callFunc gf args).run Try.prog w = .ok (.enter gf args) w) (a u o r0 : Int) (ad : Addr) (n c : Nat) (x0 : Value) (w : World)
   (hx0 : x0.oneCell' = true) (hcell : w.cell? (ad.add a.toNat) = some x0) (hc : n ≤ c) (h0 : 0 ≤ a) (h1 : a < n) (h2 : a + 1 < n) (hn : a + 1 ≤ 9223372036854775807) (x1 : Value) (r1 : Int) (hx1 : x1.oneCell' = true) (hcell2 : w.cell? (ad.add (a + 1).toNat) = some x1) (hu : 0 < u) (hv : PvGives Try.prog gf lb x0 r0 w) (hv1 : PvGives Try.prog gf lb x1 r1 w) :
    Calls Try.prog 118 #[.agg #[.int .i64 a, .int .i64 u, .int .i64 o], .slice (some ad) n c, .func (.func gf) #[] lb] w fun e w' =>
      e = .returned (.int .i64 (wrap64 (wrap64 (wrap64 (o - u) * r0) + wrap64 (u * r1)))) ∧ Below w.heap.size w w' := by
  have ha0 : 0 ≤ a + 1 := by omega
  have hwr : IntKind.i64.wrap (a + 1) = a + 1 := IntWalk.i64_in _ (by omega)
  go_enter Try.func118, Try.ntmps118
  go_wp2_with fail
  generalize hW : (w.alloc (Obj.cells #[Value.int IntKind.i64 a, Value.int IntKind.i64 u, Value.int IntKind.i64 o] 86)) = W
  have k0 : W.cell? ⟨w.heap.size, 0, none⟩ = some (.int .i64 a) := by subst hW; simp
  have k1 : W.cell? ⟨w.heap.size, 1, none⟩ = some (.int .i64 u) := by subst hW; simp
  have k2 : W.cell? ⟨w.heap.size, 2, none⟩ = some (.int .i64 o) := by subst hW; simp
  have k3 : W.cell? (ad.add a.toNat) = some x0 := by subst hW; exact pw_cell_below (below_alloc (Below.refl _ _) _) hcell
  have k4 : W.cell? (ad.add (a+1).toNat) = some x1 := by subst hW; exact pw_cell_below (below_alloc (Below.refl _ _) _) hcell2
  have kb : Below w.heap.size w W := by subst hW; exact (below_alloc (Below.refl _ _) _)
  clear hW hcell hcell2
  go_region_held3 (fun w' => w'.cell? ⟨w.heap.size, 0, none⟩ = some (.int .i64 a) ∧ w'.cell? ⟨w.heap.size, 1, none⟩ = some (.int .i64 u) ∧ w'.cell? ⟨w.heap.size, 2, none⟩ = some (.int .i64 o) ∧ w'.cell? (ad.add a.toNat) = some x0 ∧ w'.cell? (ad.add (a+1).toNat) = some x1 ∧ Below w.heap.size w w') (refine ⟨?_, ?_, ?_, ?_, ?_, ?_⟩ <;> first | assumption | (go_keep; done) | (refine pw_cell_below hb ?_; assumption) | (exact hb2) | (exact below_drew (by assumption))) (first | (go_at_fn gf; go_split_ands; (have hB0 : Below w.heap.size w _ := (by assumption)); go_loud (refine (hv _ (by exact hB0)).mono ?_); rintro e w' ⟨rfl, hb⟩; have hb2 := below_call hB0 hb))
  clear hb
  go_split_ands
  go_wp2_with fail
  go_region_held3 (fun w' => w'.cell? ⟨w.heap.size, 0, none⟩ = some (.int .i64 a) ∧ w'.cell? ⟨w.heap.size, 1, none⟩ = some (.int .i64 u) ∧ w'.cell? ⟨w.heap.size, 2, none⟩ = some (.int .i64 o) ∧ w'.cell? (ad.add a.toNat) = some x0 ∧ w'.cell? (ad.add (a+1).toNat) = some x1 ∧ Below w.heap.size w w') (refine ⟨?_, ?_, ?_, ?_, ?_, ?_⟩ <;> first | assumption | (go_keep; done) | (refine pw_cell_below hb ?_; assumption) | (exact hb2) | (exact below_drew (by assumption))) (first | (go_at_fn gf; go_split_ands; (have hB0 : Below w.heap.size w _ := (by assumption)); go_loud (refine (hv1 _ (by exact hB0)).mono ?_); rintro e w' ⟨rfl, hb⟩; have hb2 := below_call hB0 hb))
  clear hb
  go_wp2_with fail
  go_ret
  simp only [i64_w]
  exact ⟨rfl, hb2⟩
set_option maxHeartbeats 4000000 in
set_option maxRecDepth 100000 in
theorem mixedL0 (gf : Nat) (lb : Array Value) (eg : ∀ args w, (callFunc gf args).run Try.prog w = .ok (.enter gf args) w) (a u o r0 : Int) (ad : Addr) (n c : Nat) (x0 : Value) (w : World)
   (hx0 : x0.oneCell' = true) (hcell : w.cell? (ad.add a.toNat) = some x0) (hc : n ≤ c) (h0 : 0 ≤ a) (h1 : a < n) (hu : u ≤ 0) (hv : PvGives Try.prog gf lb x0 r0 w) :
    Calls Try.prog 116 #[.agg #[.int .i64 a, .int .i64 u, .int .i64 o], .slice (some ad) n c, .func (.func gf) #[] lb] w fun e w' =>
      e = .returned (.int .i64 (wrap64 (wrap64 (o - u) * r0))) ∧ Below w.heap.size w w' := by
  go_enter Try.func116, Try.ntmps116
  go_wp2_with fail
  generalize hW : (w.alloc (Obj.cells #[Value.int IntKind.i64 a, Value.int IntKind.i64 u, Value.int IntKind.i64 o] 86)) = W
  have k0 : W.cell? ⟨w.heap.size, 0, none⟩ = some (.int .i64 a) := by subst hW; simp
  have k1 : W.cell? ⟨w.heap.size, 1, none⟩ = some (.int .i64 u) := by subst hW; simp
  have k2 : W.cell? ⟨w.heap.size, 2, none⟩ = some (.int .i64 o) := by subst hW; simp
  have k3 : W.cell? (ad.add a.toNat) = some x0 := by subst hW; exact pw_cell_below (below_alloc (Below.refl _ _) _) hcell
  have kb : Below w.heap.size w W := by subst hW; exact (below_alloc (Below.refl _ _) _)
  clear hW hcell
  go_region_held3 (fun w' => w'.cell? ⟨w.heap.size, 0, none⟩ = some (.int .i64 a) ∧ w'.cell? ⟨w.heap.size, 1, none⟩ = some (.int .i64 u) ∧ w'.cell? ⟨w.heap.size, 2, none⟩ = some (.int .i64 o) ∧ w'.cell? (ad.add a.toNat) = some x0 ∧ Below w.heap.size w w') (refine ⟨?_, ?_, ?_, ?_, ?_⟩ <;> first | assumption | (go_keep; done) | (refine pw_cell_below hb ?_; assumption) | (exact hb2) | (exact below_drew (by assumption))) (first | (go_at_fn gf; go_split_ands; (have hB0 : Below w.heap.size w _ := (by assumption)); go_loud (refine (hv _ (by exact hB0)).mono ?_); rintro e w' ⟨rfl, hb⟩; have hb2 := below_call hB0 hb))
  clear hb
  go_wp2_with fail
  go_ret
  simp only [i64_w]
  exact ⟨rfl, hb2⟩
set_option maxHeartbeats 4000000 in
set_option maxRecDepth 100000 in
theorem mixedL1 (gf : Nat) (lb : Array Value) (eg : ∀ args w, (callFunc gf args).run Try.prog w = .ok (.enter gf args) w) (a u o r0 : Int) (ad : Addr) (n c : Nat) (x0 : Value) (w : World)
   (hx0 : x0.oneCell' = true) (hcell : w.cell? (ad.add a.toNat) = some x0) (hc : n ≤ c) (h0 : 0 ≤ a) (h1 : a < n) (h2 : a + 1 < n) (hn : a + 1 ≤ 9223372036854775807) (x1 : Value) (r1 : Int) (hx1 : x1.oneCell' = true) (hcell2 : w.cell? (ad.add (a + 1).toNat) = some x1) (hu : 0 < u) (hv : PvGives Try.prog gf lb x0 r0 w) (hv1 : PvGives Try.prog gf lb x1 r1 w) :
    Calls Try.prog 116 #[.agg #[.int .i64 a, .int .i64 u, .int .i64 o], .slice (some ad) n c, .func (.func gf) #[] lb] w fun e w' =>
      e = .returned (.int .i64 (wrap64 (wrap64 (wrap64 (o - u) * r0) + wrap64 (u * r1)))) ∧ Below w.heap.size w w' := by
  have ha0 : 0 ≤ a + 1 := by omega
  have hwr : IntKind.i64.wrap (a + 1) = a + 1 := IntWalk.i64_in _ (by omega)
  go_enter Try.func116, Try.ntmps116
  go_wp2_with fail
  generalize hW : (w.alloc (Obj.cells #[Value.int IntKind.i64 a, Value.int IntKind.i64 u, Value.int IntKind.i64 o] 86)) = W
  have k0 : W.cell? ⟨w.heap.size, 0, none⟩ = some (.int .i64 a) := by subst hW; simp
  have k1 : W.cell? ⟨w.heap.size, 1, none⟩ = some (.int .i64 u) := by subst hW; simp
  have k2 : W.cell? ⟨w.heap.size, 2, none⟩ = some (.int .i64 o) := by subst hW; simp
  have k3 : W.cell? (ad.add a.toNat) = some x0 := by subst hW; exact pw_cell_below (below_alloc (Below.refl _ _) _) hcell
  have k4 : W.cell? (ad.add (a+1).toNat) = some x1 := by subst hW; exact pw_cell_below (below_alloc (Below.refl _ _) _) hcell2
  have kb : Below w.heap.size w W := by subst hW; exact (below_alloc (Below.refl _ _) _)
  clear hW hcell hcell2
  go_region_held3 (fun w' => w'.cell? ⟨w.heap.size, 0, none⟩ = some (.int .i64 a) ∧ w'.cell? ⟨w.heap.size, 1, none⟩ = some (.int .i64 u) ∧ w'.cell? ⟨w.heap.size, 2, none⟩ = some (.int .i64 o) ∧ w'.cell? (ad.add a.toNat) = some x0 ∧ w'.cell? (ad.add (a+1).toNat) = some x1 ∧ Below w.heap.size w w') (refine ⟨?_, ?_, ?_, ?_, ?_, ?_⟩ <;> first | assumption | (go_keep; done) | (refine pw_cell_below hb ?_; assumption) | (exact hb2) | (exact below_drew (by assumption))) (first | (go_at_fn gf; go_split_ands; (have hB0 : Below w.heap.size w _ := (by assumption)); go_loud (refine (hv _ (by exact hB0)).mono ?_); rintro e w' ⟨rfl, hb⟩; have hb2 := below_call hB0 hb))
  clear hb
  go_split_ands
  go_wp2_with fail
  go_region_held3 (fun w' => w'.cell? ⟨w.heap.size, 0, none⟩ = some (.int .i64 a) ∧ w'.cell? ⟨w.heap.size, 1, none⟩ = some (.int .i64 u) ∧ w'.cell? ⟨w.heap.size, 2, none⟩ = some (.int .i64 o) ∧ w'.cell? (ad.add a.toNat) = some x0 ∧ w'.cell? (ad.add (a+1).toNat) = some x1 ∧ Below w.heap.size w w') (refine ⟨?_, ?_, ?_, ?_, ?_, ?_⟩ <;> first | assumption | (go_keep; done) | (refine pw_cell_below hb ?_; assumption) | (exact hb2) | (exact below_drew (by assumption))) (first | (go_at_fn gf; go_split_ands; (have hB0 : Below w.heap.size w _ := (by assumption)); go_loud (refine (hv1 _ (by exact hB0)).mono ?_); rintro e w' ⟨rfl, hb⟩; have hb2 := below_call hB0 hb))
  clear hb
  go_wp2_with fail
  go_ret
  simp only [i64_w]
  exact ⟨rfl, hb2⟩
theorem v_mul_le {a b m n : Int} (ha0 : 0 ≤ a) (ha : a ≤ m) (hb0 : 0 ≤ b) (hb : b ≤ n) : 0 ≤ a * b ∧ a * b ≤ m * n :=
  ⟨Int.mul_nonneg ha0 hb0, Int.le_trans (Int.mul_le_mul_of_nonneg_right ha hb0) (Int.mul_le_mul_of_nonneg_left hb (by omega))⟩
theorem v_wrap {x : Int} (h0 : 0 ≤ x) (h1 : x ≤ 9000000000000000000) : wrap64 x = x := by unfold wrap64; omega
theorem vrow_bounds {r : List Int} {ya yu yo : Int} (h0 : 0 ≤ yu) (h1 : yu ≤ yo) (h2 : yo ≤ 1000000) (hr : ∀ x ∈ r, 0 ≤ x ∧ x ≤ 1000000) : 0 ≤ vrow r ya yu yo ∧ vrow r ya yu yo ≤ 1000000000000 := by
  have hg : ∀ n : Nat, 0 ≤ r.getD n 0 ∧ r.getD n 0 ≤ 1000000 := fun n => by
    rw [List.getD_eq_getElem?_getD]
    rcases h : r[n]? with _ | x
    · simp
    · exact hr x (List.mem_of_getElem? h)
  have g0 := hg ya.toNat
  have g1 := hg (ya + 1).toNat
  unfold vrow
  generalize r.getD ya.toNat 0 = p at *
  generalize r.getD (ya + 1).toNat 0 = q at *
  have b1 : 0 ≤ (yo - yu) * p := Int.mul_nonneg (by omega) (by omega)
  have b2 : (yo - yu) * p ≤ (yo - yu) * 1000000 := Int.mul_le_mul_of_nonneg_left g0.2 (by omega)
  have b3 : 0 ≤ yu * q := Int.mul_nonneg (by omega) (by omega)
  have b4 : yu * q ≤ yu * 1000000 := Int.mul_le_mul_of_nonneg_left g1.2 (by omega)
  split <;> omega
theorem ident_calls (n : Int) (w : World) : PvGives Try.prog 119 #[] (.int .i64 n) n w := fun W _ => by
  show Calls Try.prog 119 #[.int .i64 n] W _
  go_enter Try.func119, Try.ntmps119
  go_wp2
  go_ret
  exact ⟨rfl, Below.refl _ _⟩
theorem mixedRow (r : List Int) (ya yu yo : Int) (A0 : Option Addr) (c0 : Nat) (w : World) (hr : Kd.C (Kd.int .i64) w A0 r.length r) (hc : r.length ≤ c0)
    (h0 : 0 ≤ ya) (h1 : ya + 1 ≤ r.length) (h2 : 0 < yu → ya + 2 ≤ r.length) (h3 : 0 ≤ yu) (h4 : yu ≤ yo) (h5 : yo ≤ 1000000) (h6 : ∀ x ∈ r, 0 ≤ x ∧ x ≤ 1000000) (hl : r.length ≤ 1000000) :
    Calls Try.prog 118 #[.agg #[.int .i64 ya, .int .i64 yu, .int .i64 yo], .slice A0 r.length c0, .func (.func 119) #[] #[]] w fun e w' => e = .returned (.int .i64 (vrow r ya yu yo)) ∧ Below w.heap.size w w' := by
  have hg : ∀ n : Nat, 0 ≤ r.getD n 0 ∧ r.getD n 0 ≤ 1000000 := fun n => by
    rw [List.getD_eq_getElem?_getD]
    rcases h : r[n]? with _ | x
    · simp
    · exact h6 x (List.mem_of_getElem? h)
  obtain ⟨ad, hA, hcell⟩ := Kd.at_int hr ya h0 (by omega)
  subst hA
  have g0 := hg ya.toNat
  have g1 := hg (ya + 1).toNat
  have b1 := v_mul_le (a := yo - yu) (b := r.getD ya.toNat 0) (m := 1000000) (n := 1000000) (by omega) (by omega) g0.1 g0.2
  have b2 := v_mul_le (a := yu) (b := r.getD (ya + 1).toNat 0) (m := 1000000) (n := 1000000) (by omega) (by omega) g1.1 g1.2
  have e0 : wrap64 (yo - yu) = yo - yu := v_wrap (by omega) (by omega)
  have e1 : wrap64 ((yo - yu) * r.getD ya.toNat 0) = (yo - yu) * r.getD ya.toNat 0 := v_wrap (by omega) (by omega)
  by_cases hu : 0 < yu
  · obtain ⟨ad2, hA2, hcell2⟩ := Kd.at_int hr (ya + 1) (by omega) (by omega)
    obtain rfl : ad = ad2 := Option.some.inj hA2
    have e2 : wrap64 (yu * r.getD (ya + 1).toNat 0) = yu * r.getD (ya + 1).toNat 0 := v_wrap (by omega) (by omega)
    have e3 : vrow r ya yu yo = wrap64 (wrap64 (wrap64 (yo - yu) * r.getD ya.toNat 0) + wrap64 (yu * r.getD (ya + 1).toNat 0)) := by
      rw [e0, e1, e2]; unfold vrow; rw [if_pos hu, v_wrap (by omega) (by omega)]
    rw [e3]
    exact mixedI1 _ _ (enters_of Try.func119 (by kernel_rfl) rfl) ya yu yo _ ad r.length c0 _ w rfl hcell hc h0 (by omega) (by omega) (by omega) _ _ rfl hcell2 hu (ident_calls _ _) (ident_calls _ _)
  · have e3 : vrow r ya yu yo = wrap64 (wrap64 (yo - yu) * r.getD ya.toNat 0) := by
      rw [e0, e1]; unfold vrow; rw [if_neg hu]; omega
    rw [e3]
    exact mixedI0 _ _ (enters_of Try.func119 (by kernel_rfl) rfl) ya yu yo _ ad r.length c0 _ w rfl hcell hc h0 (by omega) (by omega) (ident_calls _ _)
set_option maxHeartbeats 1000000 in
theorem value1_calls (B : Nat) (r : List Int) (ya yu yo : Int) (A0 : Option Addr) (c0 : Nat) (w : World) (hr : Kd.C (Kd.int .i64) w A0 r.length r) (hc : r.length ≤ c0)
    (h0 : 0 ≤ ya) (h1 : ya + 1 ≤ r.length) (h2 : 0 < yu → ya + 2 ≤ r.length) (h3 : 0 ≤ yu) (h4 : yu ≤ yo) (h5 : yo ≤ 1000000) (h6 : ∀ x ∈ r, 0 ≤ x ∧ x ≤ 1000000) (hl : r.length ≤ 1000000)
    (c1 : w.cell? ⟨B, 0, none⟩ = some (.int .i64 ya)) (c2 : w.cell? ⟨B, 1, none⟩ = some (.int .i64 yu)) (c3 : w.cell? ⟨B, 2, none⟩ = some (.int .i64 yo)) :
    PvGives Try.prog 117 #[.pointer (some ⟨B, 0, none⟩)] (.slice A0 r.length c0) (vrow r ya yu yo) w := fun W hW => by
  have HC := Aside0.mk (fun W1 hW1 => mixedRow r ya yu yo A0 c0 W1 (Kd.C_below hr hW1) hc h0 h1 h2 h3 h4 h5 h6 hl)
  have d1 := pw_cell_below hW c1
  have d2 := pw_cell_below hW c2
  have d3 := pw_cell_below hW c3
  have HB := Aside0.mk hW
  clear hr hc h0 h1 h2 h3 h4 h5 h6 hl c1 c2 c3 hW
  show Calls Try.prog 117 #[.slice A0 r.length c0, .pointer (some ⟨B, 0, none⟩)] W _
  go_enter Try.func117, Try.ntmps117
  go_wp2_with (go_at_call 118; refine (HC.out _ HB.out).mono ?_; rintro e w' ⟨rfl, hb⟩)
  go_ret
  exact ⟨rfl, hb⟩

set_option maxHeartbeats 8000000 in
set_option maxRecDepth 100000 in
theorem curve_value.calls (A0 : Option Addr) (c0 : Nat) (l0 : List (List Int)) (a1_0 : Int) (a1_1 : Int) (a1_2 : Int) (a2_0 : Int) (a2_1 : Int) (a2_2 : Int) (r : Int) (w : World) (hr0 : Kd.C (Kd.slice 3 (Kd.int .i64)) w A0 l0.length l0) (hc0 : l0.length ≤ c0) (h : curve_value.f l0 a1_0 a1_1 a1_2 a2_0 a2_1 a2_2 = some r) :
    Calls Try.prog 70 #[.slice A0 l0.length c0, .agg #[.int .i64 a1_0, .int .i64 a1_1, .int .i64 a1_2], .agg #[.int .i64 a2_0, .int .i64 a2_1, .int .i64 a2_2]] w fun e w' => e = .returned (.int .i64 r) ∧ Below w.heap.size w w' := by
  unfold curve_value.f at h
  split at h
  · rename_i hok
    obtain rfl := Option.some.inj h
    clear h
    simp only [valueOk, Bool.and_eq_true, decide_eq_true_eq, List.all_eq_true] at hok
    obtain ⟨⟨⟨⟨⟨⟨⟨⟨⟨⟨p0, p1⟩, p2⟩, p3⟩, p4⟩, p5⟩, p6⟩, p7⟩, p8⟩, p9⟩, p10⟩ := hok
    have hrow : ∀ n : Nat, n < l0.length → a2_0 + 1 ≤ (l0.getD n []).length ∧ (0 < a2_1 → a2_0 + 2 ≤ (l0.getD n []).length) ∧ (l0.getD n []).length ≤ 1000000 ∧ ∀ x ∈ l0.getD n [], 0 ≤ x ∧ x ≤ 1000000 := fun n hn => by
      have hm : l0.getD n [] ∈ l0 := by rw [List.getD_eq_getElem?_getD, List.getElem?_eq_getElem hn]; exact List.getElem_mem hn
      have := p10 _ hm
      exact ⟨this.1.1.1, this.1.1.2, this.1.2, fun x hx => this.2 x hx⟩
    obtain ⟨ad, Ar, cr, hA, hcell, hlc, hC⟩ := @at_L1 _ _ _ _ hr0 a1_0 p0 (by omega)
    subst hA
    obtain ⟨q1, q2, q3, q4⟩ := hrow a1_0.toNat (by omega)
    have vb0 := vrow_bounds (r := l0.getD a1_0.toNat []) (ya := a2_0) p7 p8 p9 q4
    have vb1 := v_mul_le (a := a1_2 - a1_1) (m := 2000000) (by omega) (by omega) vb0.1 vb0.2
    have e0 : wrap64 (a1_2 - a1_1) = a1_2 - a1_1 := v_wrap (by omega) (by omega)
    have e1 : wrap64 ((a1_2 - a1_1) * vrow (l0.getD a1_0.toNat []) a2_0 a2_1 a2_2) = (a1_2 - a1_1) * vrow (l0.getD a1_0.toNat []) a2_0 a2_1 a2_2 := v_wrap (by omega) (by omega)
    have HV0 := Aside0.mk (fun W B c1 c2 c3 (hb : Below w.heap.size w W) => value1_calls B (l0.getD a1_0.toNat []) a2_0 a2_1 a2_2 Ar cr W (Kd.C_below hC hb) hlc p6 q1 q2 p7 p8 p9 q4 q3 c1 c2 c3)
    have HCELL := Aside0.mk hcell
    by_cases hu : 0 < a1_1
    · obtain ⟨ad2, As, cs, hA2, hcell2, hlc2, hC2⟩ := @at_L1 _ _ _ _ hr0 (a1_0 + 1) (by omega) (by omega)
      obtain rfl : ad = ad2 := Option.some.inj hA2
      obtain ⟨s1, s2, s3, s4⟩ := hrow (a1_0 + 1).toNat (by omega)
      have vb2 := vrow_bounds (r := l0.getD (a1_0 + 1).toNat []) (ya := a2_0) p7 p8 p9 s4
      have vb3 := v_mul_le (a := a1_1) (m := 2000000) (by omega) (by omega) vb2.1 vb2.2
      have e2 : wrap64 (a1_1 * vrow (l0.getD (a1_0 + 1).toNat []) a2_0 a2_1 a2_2) = a1_1 * vrow (l0.getD (a1_0 + 1).toNat []) a2_0 a2_1 a2_2 := v_wrap (by omega) (by omega)
      have vb4 : (a1_2 - a1_1) * vrow (l0.getD a1_0.toNat []) a2_0 a2_1 a2_2 ≤ (a1_2 - a1_1) * 1000000000000 := Int.mul_le_mul_of_nonneg_left vb0.2 (by omega)
      have vb5 : a1_1 * vrow (l0.getD (a1_0 + 1).toNat []) a2_0 a2_1 a2_2 ≤ a1_1 * 1000000000000 := Int.mul_le_mul_of_nonneg_left vb2.2 (by omega)
      have e3 : (a1_2 - a1_1) * vrow (l0.getD a1_0.toNat []) a2_0 a2_1 a2_2 + (if 0 < a1_1 then a1_1 * vrow (l0.getD (a1_0 + 1).toNat []) a2_0 a2_1 a2_2 else 0) = wrap64 (wrap64 (wrap64 (a1_2 - a1_1) * vrow (l0.getD a1_0.toNat []) a2_0 a2_1 a2_2) + wrap64 (a1_1 * vrow (l0.getD (a1_0 + 1).toNat []) a2_0 a2_1 a2_2)) := by
        rw [e0, e1, e2, if_pos hu, v_wrap (by omega) (by omega)]
      rw [e3]
      have HV1 := Aside0.mk (fun W B c1' c2' c3' (hb : Below w.heap.size w W) => value1_calls B (l0.getD (a1_0 + 1).toNat []) a2_0 a2_1 a2_2 As cs W (Kd.C_below hC2 hb) hlc2 p6 s1 s2 p7 p8 p9 s4 s3 c1' c2' c3')
      have HCELL2 := Aside0.mk hcell2
      have HH := Aside0.mk (And.intro hc0 (And.intro p0 (And.intro (show a1_0 < l0.length by omega) (And.intro (show a1_0 + 1 < l0.length by omega) (And.intro (show a1_0 + 1 ≤ 9223372036854775807 by have := hr0.2.1; omega) hu)))))
      generalize vrow (l0.getD a1_0.toNat []) a2_0 a2_1 a2_2 = R0 at *
      generalize vrow (l0.getD (a1_0 + 1).toNat []) a2_0 a2_1 a2_2 = R1 at *
      clear e0 e1 e2 e3 vb0 vb1 vb2 vb3 vb4 vb5 hcell hcell2 hr0 hrow p10 p0 p1 p2 p3 p4 p5 p6 p7 p8 p9 q1 q2 q3 q4 s1 s2 s3 s4 hu hlc hC hlc2 hC2 hA2 hc0
      go_enter Try.func70, Try.ntmps70
      go_wp2_with (go_at_call 116; go_loud (refine (mixedL1 _ _ (enters_of Try.func117 (by kernel_rfl) rfl) a1_0 a1_1 a1_2 R0 ad l0.length c0 _ _ rfl (pw_cell_below (below_alloc (below_alloc (Below.refl _ _) _) _) HCELL.out) HH.out.1 HH.out.2.1 HH.out.2.2.1 HH.out.2.2.2.1 HH.out.2.2.2.2.1 _ R1 rfl (pw_cell_below (below_alloc (below_alloc (Below.refl _ _) _) _) HCELL2.out) HH.out.2.2.2.2.2 (HV0.out _ (w.heap.size + 1) (by simp) (by simp) (by simp) (below_alloc (below_alloc (Below.refl _ _) _) _)) (HV1.out _ (w.heap.size + 1) (by simp) (by simp) (by simp) (below_alloc (below_alloc (Below.refl _ _) _) _))).mono ?_); rintro e w' ⟨rfl, hb⟩)
      go_ret
      exact ⟨rfl, below_call (below_alloc (below_alloc (Below.refl _ _) _) _) hb⟩
    · have e3 : (a1_2 - a1_1) * vrow (l0.getD a1_0.toNat []) a2_0 a2_1 a2_2 + (if 0 < a1_1 then a1_1 * vrow (l0.getD (a1_0 + 1).toNat []) a2_0 a2_1 a2_2 else 0) = wrap64 (wrap64 (a1_2 - a1_1) * vrow (l0.getD a1_0.toNat []) a2_0 a2_1 a2_2) := by
        rw [e0, e1, if_neg hu]; omega
      rw [e3]
      have HH := Aside0.mk (And.intro hc0 (And.intro p0 (And.intro (show a1_0 < l0.length by omega) (show a1_1 ≤ 0 by omega))))
      generalize vrow (l0.getD a1_0.toNat []) a2_0 a2_1 a2_2 = R0 at *
      generalize vrow (l0.getD (a1_0 + 1).toNat []) a2_0 a2_1 a2_2 = R1 at *
      clear e0 e1 e3 vb0 vb1 hcell hr0 hrow p10 p0 p1 p2 p3 p4 p5 p6 p7 p8 p9 q1 q2 q3 q4 hu hlc hC hc0
      go_enter Try.func70, Try.ntmps70
      go_wp2_with (go_at_call 116; go_loud (refine (mixedL0 _ _ (enters_of Try.func117 (by kernel_rfl) rfl) a1_0 a1_1 a1_2 R0 ad l0.length c0 _ _ rfl (pw_cell_below (below_alloc (below_alloc (Below.refl _ _) _) _) HCELL.out) HH.out.1 HH.out.2.1 HH.out.2.2.1 HH.out.2.2.2 (HV0.out _ (w.heap.size + 1) (by simp) (by simp) (by simp) (below_alloc (below_alloc (Below.refl _ _) _) _))).mono ?_); rintro e w' ⟨rfl, hb⟩)
      go_ret
      exact ⟨rfl, below_call (below_alloc (below_alloc (Below.refl _ _) _) _) hb⟩
  · cases h

end Go.Proofs.Ytbomgfbfnkfamaa.PAll
end
section
namespace Go.Proofs.Ytbomgfbfnkfamaa.PAll
open Go.RowKit Go.Proofs.YtbomgfbfnkfamaaW.PrintWords Go.Proofs.YtbomgfbfnkfamaaW.PrintLast Go.Proofs.YtbomgfbfnkfamaaW.PrintMore
attribute [local go_sem] max2_int min2_int max_two min_two max_three min_three max_four min_four   -- for this text's walks alone
set_option linter.unusedVariables false
set_option linter.unusedSimpArgs false

/-! ### curve_ceil: function 71 -/
def curve_ceil.f (a0 : Int) (a1 : Int) : Option (Int) := if a1 = 0 then (none) else (if (wrap64 ((wrap64 (Int.tdiv a0 a1)) * a1)) < a0 then (some (wrap64 ((wrap64 (Int.tdiv a0 a1)) + 1))) else (some (wrap64 (Int.tdiv a0 a1))))
set_option maxHeartbeats 8000000 in
set_option maxRecDepth 100000 in
theorem curve_ceil.calls (a0 : Int) (a1 : Int) (r : Int) (w : World) (h : curve_ceil.f a0 a1 = some r) :
    Calls Try.prog 71 #[.int .i64 a0, .int .i64 a1] w fun e w' => e = .returned (.int .i64 r) ∧ Drawn0 w w' := by
  have H : (if a1 = 0 then (none) else (if (wrap64 ((wrap64 (Int.tdiv a0 a1)) * a1)) < a0 then (some (wrap64 ((wrap64 (Int.tdiv a0 a1)) + 1))) else (some (wrap64 (Int.tdiv a0 a1))))) = some r := h
  clear h
  by_cases c3 : a1 = 0
  · rw [if_pos c3] at H
    exact absurd H (by simp)
  · rw [if_neg c3] at H
    have c3b0 : (a1 == 0) = false := beq_eq_false_iff_ne.mpr c3
    have c3b1 : (a1 != 0) = true := bne_iff_ne.mpr c3
    by_cases c4 : (wrap64 ((wrap64 (Int.tdiv a0 a1)) * a1)) < a0
    · rw [if_pos c4] at H
      have c4b0 : decide ((wrap64 ((wrap64 (Int.tdiv a0 a1)) * a1)) < a0) = true := decide_eq_true c4
      clear c4
      obtain rfl := Option.some.inj H
      go_enter Try.func71, Try.ntmps71
      go_wp2
      go_ret
      exact ⟨by first | rfl | (simp; done) | (simp [*]; done), by repeat (first | exact Drawn0.refl _ | apply Drawn0.step)⟩
    · rw [if_neg c4] at H
      have c4b0 : decide ((wrap64 ((wrap64 (Int.tdiv a0 a1)) * a1)) < a0) = false := decide_eq_false c4
      clear c4
      obtain rfl := Option.some.inj H
      go_enter Try.func71, Try.ntmps71
      go_wp2
      go_ret
      exact ⟨by first | rfl | (simp; done) | (simp [*]; done), by repeat (first | exact Drawn0.refl _ | apply Drawn0.step)⟩

end Go.Proofs.Ytbomgfbfnkfamaa.PAll
end
