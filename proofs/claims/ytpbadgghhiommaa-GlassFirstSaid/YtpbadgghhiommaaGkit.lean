/- Dice, stuffs made of numbers. -/
import Derived.Test.YtpbadgghhiommaaGstr
set_option linter.unusedVariables false
set_option maxHeartbeats 16000000
set_option linter.unusedSimpArgs false
namespace Go.Proofs.Ytpbadgghhiommaa.I
open Go.Ideal

theorem NewDice_ok (l : List Int) (hl : l.length ≤ 9223372036854775807) : ∃ s : Int, ∀ (H : Heap) (n : Nat), H n = .free → Ev T (.call (.func (.func 21) [] []) [sl l] H) (.call (.ptr n 0 0) (H.set n (S1 s))) := by
  have key := run_new T21 (args := [sl l]) (P := fun v k s => v = .ptr 0 0 0 ∧ k = 0 ∧ ∃ n, s = S1 n) (nn_cons (sl_no _) nn_none) (by
    conv => whnf
    refine .u64 (by simp) (by simp; omega) ?_
    conv => whnf
    refine .wrap ?_
    generalize IntKind.u64.wrap _ = w
    conv => whnf
    refine loop_rule (X := Nat × Int) (fun x => [(0, sl l), (3, .ptr 0 0 0), (4, .int .i64 x.1)]) (fun x => [S1 x.2]) (fun x => l.length - x.1) (fun x => x.1 ≤ l.length) (0, w)
      (Nat.zero_le _) ⟨rfl, rfl, rfl, trivial⟩ rfl (fun _ _ => rfl) (fun x hx => ?_)
    obtain ⟨i, s⟩ := x
    simp only at hx
    dsimp only
    conv => whnf
    refine condP.dec (fun h => ?_) (fun h => ?_)
    · have hlt : (i : Int) < l.length := by simpa using h
      conv => whnf
      refine onSome.intro (idx_fs rfl rfl (Int.natCast_nonneg _) hlt (fun _ => rfl)) ?_
      conv => whnf
      refine onSome.intro (load_fs (v := .int .i64 (at' l i)) rfl (Int.natCast_nonneg _) hlt rfl) ?_
      conv => whnf
      refine .wrap ?_
      conv => whnf
      refine CallP.one (fun H hb => next_ok _ H hb) rfl ?_
      conv => whnf
      refine .i64 (by omega) (by omega) ?_
      conv => whnf
      exact .more (i + 1, _) rfl (by simp only; omega) (by simp only; omega) ⟨rfl, rfl, rfl, trivial⟩ rfl ⟨(sl_no _).inn _, .ptr _ _ _ (by simp), .int _ _, trivial⟩ ⟨fun j k h h' => (S1_no _ _ (List.getElem_mem h) _ (List.getElem_mem h')).inn _, trivial⟩
    · conv => whnf
      refine .done (by simp) ?_
      conv => whnf
      exact .intro (.ptr 0 0 0) 0 (S1 s) ⟨rfl, rfl, s, rfl⟩ (.inl rfl) rfl rfl (S1_no s) (.ptr _ _ _ rfl))
  obtain ⟨v, k, s, ⟨rfl, rfl, n, rfl⟩, _, h⟩ := key
  refine ⟨n, fun H m hm => ?_⟩
  have := h H m hm
  simpa [IV.ren, sw] using this

end Go.Proofs.Ytpbadgghhiommaa.I
