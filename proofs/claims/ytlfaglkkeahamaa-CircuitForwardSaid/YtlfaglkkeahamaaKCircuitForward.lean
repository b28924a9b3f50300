/- CircuitForward. -/
import Derived.Test.YtlfaglkkeahamaaNrests
set_option linter.unusedVariables false
set_option maxHeartbeats 16000000
set_option linter.unusedSimpArgs false
namespace Go.Proofs.Ytlfaglkkeahamaa.I
open Go.Ideal

theorem CircuitForward_ok (nums : List Int) (hnums : nums.length ≤ 9223372036854775807) (H : Heap) :
    Ev T (.call (.func (.func 4) [] []) [sl nums] H) (.call (.bool true) H) := by
  refine run_pure T4 (.bool _) (nn_cons (sl_no _) nn_none) ?_ H
  have q := NewDice_ok nums hnums
  obtain ⟨s, ks⟩ := q
  have q := NetOf_any s 5 3 true (by omega) (by omega) (by omega) (by omega)
  obtain ⟨n, s1, hm, k1⟩ := q
  have hn := hm.ok
  have hF := hm.fwd
  have q := InputsOf_any s1 n hn.i0 hn.i1
  obtain ⟨l, s2, hl, k2⟩ := q
  have p1 := fun H => Settle_any hn hl (a := 3) (by omega) (by omega) H
  have hR := hF.rest hn (hn.start hl).len
  have p1 : ∀ H, Ev T (.call (.func (.func 15) [] []) [n.I, ol Rg.R l, .int .i64 3] H) (.call (.tuple [setI (n.rest (n.start l) 3), .int .i64 0]) H) := p1
  generalize n.rest (n.start l) 3 = x at *
  obtain ⟨x, xs, xb⟩ := x
  obtain ⟨rfl, hxs⟩ := hR
  have hxs : (xs : Int) ≤ 2 := by dsimp only at hxs; omega
  have p1 : ∀ H, Ev T (.call (.func (.func 15) [] []) [n.I, ol Rg.R l, .int .i64 3] H) (.call (.tuple [.agg [rgsI x, .int .i64 (xs : Int), .bool true], .int .i64 0]) H) := p1
  generalize hxi : (xs : Int) = xs' at *
  repeat' ((conv => whnf); first | (refine CallP.new ks ?_) | (refine CallP.one (fun H hb => k1 H _ hb) rfl ?_) | (refine CallP.one (fun H hb => k2 H _ hb) rfl ?_) | (refine CallP.pure p1 ?_) | (refine CallP.pure awake_ok ?_) | (refine forceC_in (v := ol Rg.R l) ?_) | (refine force_in (v := ol Rg.R l) ?_) | (refine condP.dec (fun _ => ?_) (fun h => absurd (by omega) h)) | (first | refine condP.dec (fun h => ?_) (fun h => ?_) | refine condP.eq (fun h => ?_) (fun h => ?_) | refine condP.ne (fun h => ?_) (fun h => ?_)) | (refine .i64 (by omega) (by omega) ?_) | (refine onSome.intro (idx_fs rfl rfl (by omega) (by omega) (fun _ => rfl)) ?_) | (refine onSome.intro (load_fs rfl (by omega) (by omega) rfl) ?_) | (refine And.intro rfl ?_))
  all_goals first | (exfalso; omega) | skip
  conv => whnf
  exact .intro (.bool true) (.inl rfl) rfl (.refl _)

end Go.Proofs.Ytlfaglkkeahamaa.I
