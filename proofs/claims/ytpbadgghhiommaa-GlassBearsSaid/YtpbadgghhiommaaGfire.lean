/- Fires: are they valid? -/
import Derived.Test.YtpbadgghhiommaaGref
import Derived.Test.YtpbadgghhiommaaGin
import Derived.Test.YtpbadgghhiommaaGsame
set_option linter.unusedVariables false
set_option maxHeartbeats 16000000
set_option linter.unusedSimpArgs false
namespace Go.Proofs.Ytpbadgghhiommaa.I
open Go.Ideal

def aftE (m i : Int) (af : List Int) (k : Nat) : Int := if Outs (at' af (k : Int)) (m - 1) then 2 else if at' af (k : Int) = i then 12 else if 0 < k ∧ at' af (k : Int) ≤ at' af ((k : Int) - 1) then 11 else 0
def fireE (l : List Fire) (i : Nat) : Int := if Outs (at' l (i : Int)).heat 2000 ∨ Outs (at' l (i : Int)).hold 2000 then 2 else firstErr (aftE l.length i (at' l (i : Int)).aft) (at' l (i : Int)).aft.length
def firesE (l : List Fire) : Int := if 8 < l.length then 8 else firstErr (fireE l) l.length

theorem CheckFires_ok (l : List Fire) (hl : l.length ≤ 9000000000000000000) (ha : ∀ i : Nat, i < l.length → (at' l (i : Int)).aft.length ≤ 9000000000000000000) (H : Heap) : Ev T (.call (.func (.func 34) [] []) [frsl l] H) (.call (.int .i64 (firesE l)) H) := by
  refine run_pure T34 (nn_int _ _) (nn_cons (frsl_no _) nn_none) ?_ H
  have e1 : (l.map frR).length = l.length := List.length_map ..
  have hx : ∃ r, r = firesE l := ⟨_, rfl⟩
  obtain ⟨r, hr⟩ := hx
  rw [← hr]
  unfold firesE at hr
  repeat' ((conv => whnf); first | (first | refine condP.dec (fun h => ?_) (fun h => ?_) | refine condP.eq (fun h => ?_) (fun h => ?_) | refine condP.ne (fun h => ?_) (fun h => ?_)) | (refine .i64 (by omega) (by omega) ?_) | (refine onSome.intro (idx_fs rfl rfl (by omega) (by omega) (fun _ => rfl)) ?_) | (refine onSome.intro (load_fs rfl (by omega) (by omega) rfl) ?_) | (refine And.intro rfl ?_))
  all_goals first | (exfalso; omega) | skip
  all_goals conv => whnf
  all_goals first
    | exact .intro (.int .i64 8) (.inl rfl) rfl (frz_int (by rw [hr, if_pos (by omega)]))
    | skip
  rw [if_neg (by omega)] at hr
  refine loop_rule (X := Nat) (fun i => [(0, frsl l), (10, frsl l), (11, .int .i64 l.length), (12, .int .i64 i)]) (fun _ => []) (fun i => l.length - i) (fun i => i ≤ l.length ∧ firstErr (fireE l) i = 0) 0
    ⟨Nat.zero_le _, rfl⟩ ⟨rfl, rfl, by show i6 _ = i6 _; rw [e1], rfl, trivial⟩ rfl (fun _ _ => rfl) (fun i hi => ?_)
  obtain ⟨hi, h0⟩ := hi
  rcases Nat.lt_or_ge i l.length with hlt | hge
  · have hnext : fireE l i = 0 → firstErr (fireE l) (i + 1) = 0 := fun h => firstErr_succ h0 h
    have hstop : fireE l i ≠ 0 → firstErr (fireE l) l.length = fireE l i := fun h => firstErr_stop h0 h (by omega)
    have haf := ha i hlt
    have hce : ∃ c, c = fireE l i := ⟨_, rfl⟩
    obtain ⟨c, hc⟩ := hce
    rw [← hc] at hnext hstop
    unfold fireE at hc
    generalize hf : at' l (i : Int) = f at *
    have e2 : (f.aft.map ei).length = f.aft.length := List.length_map ..
    repeat' ((conv => whnf); first | (refine condP.dec (fun _ => ?_) (fun h => absurd (by omega) h)) | (refine onSome.intro (load_fs (l := l) (enc := frR) (i := (i : Int)) (v := .agg (frR f)) rfl (by omega) (by omega) (by rw [hf]; rfl)) ?_) | (refine CallP.dec (outside_ok _ _) (fun h => ?_) (fun h => ?_)) | (first | refine condP.dec (fun h => ?_) (fun h => ?_) | refine condP.eq (fun h => ?_) (fun h => ?_) | refine condP.ne (fun h => ?_) (fun h => ?_)) | (refine .i64 (by omega) (by omega) ?_) | (refine onSome.intro (idx_fs rfl rfl (by omega) (by omega) (fun _ => rfl)) ?_) | (refine onSome.intro (load_fs rfl (by omega) (by omega) rfl) ?_) | (refine And.intro rfl ?_))
    all_goals unfold Outs at hc
    all_goals unfold Outs at *
    all_goals first | (exfalso; omega) | skip
    all_goals conv => whnf
    all_goals first
      | (refine .done (by simp) ?_
         conv => whnf
         have hcn : c = 2 := by rw [hc, if_pos (by omega)]
         exact .intro (.int .i64 2) (.inl rfl) rfl (frz_int (by rw [hr, hstop (by omega), hcn])))
      | skip
    rw [if_neg (by omega)] at hc
    refine loop_rule (X := Nat) (fun k => [(0, frsl l), (3, .int .i64 i), (4, .ptr 0 0 0), (10, frsl l), (11, .int .i64 l.length), (12, .int .i64 i), (26, sl f.aft), (27, .int .i64 f.aft.length), (28, .int .i64 k)]) (fun _ => [.live 3 [frR f]]) (fun k => f.aft.length - k) (fun k => k ≤ f.aft.length ∧ firstErr (aftE l.length i f.aft) k = 0) 0
      ⟨Nat.zero_le _, rfl⟩ ⟨rfl, rfl, rfl, rfl, rfl, rfl, rfl, by show i6 _ = i6 _; rw [e2], rfl, trivial⟩ rfl (fun _ _ => rfl) (fun k hk => ?_)
    obtain ⟨hk, j0⟩ := hk
    rcases Nat.lt_or_ge k f.aft.length with klt | kge
    · have jnext : aftE l.length i f.aft k = 0 → firstErr (aftE l.length i f.aft) (k + 1) = 0 := fun h => firstErr_succ j0 h
      have jstop : aftE l.length i f.aft k ≠ 0 → firstErr (aftE l.length i f.aft) f.aft.length = aftE l.length i f.aft k := fun h => firstErr_stop j0 h (by omega)
      have hge : ∃ g, g = aftE l.length i f.aft k := ⟨_, rfl⟩
      obtain ⟨g, hg⟩ := hge
      rw [← hg] at jnext jstop
      unfold aftE at hg
      generalize hv : at' f.aft (k : Int) = v at *
      generalize hw : at' f.aft ((k : Int) - 1) = w at *
      repeat' ((conv => whnf); first | (refine condP.dec (fun _ => ?_) (fun h => absurd (by omega) h)) | (refine onSome.intro (load_fs (l := f.aft) (enc := ei) (i := (k : Int)) (v := .int .i64 v) rfl (by omega) (by omega) (by rw [hv]; rfl)) ?_) | (refine onSome.intro (load_fs (l := f.aft) (enc := ei) (i := (k : Int) - 1) (v := .int .i64 w) rfl (by omega) (by omega) (by rw [hw]; rfl)) ?_) | (refine CallP.dec (outside_ok _ _) (fun h => ?_) (fun h => ?_)) | (first | refine condP.dec (fun h => ?_) (fun h => ?_) | refine condP.eq (fun h => ?_) (fun h => ?_) | refine condP.ne (fun h => ?_) (fun h => ?_)) | (refine .i64 (by omega) (by omega) ?_) | (refine onSome.intro (idx_fs rfl rfl (by omega) (by omega) (fun _ => rfl)) ?_) | (refine onSome.intro (load_fs rfl (by omega) (by omega) rfl) ?_) | (refine And.intro rfl ?_))
      all_goals unfold Outs at hg
      all_goals unfold Outs at *
      all_goals first | (exfalso; omega) | skip
      all_goals conv => whnf
      all_goals first
        | (have hg0 : g = 0 := by
             rw [hg]
             repeat' split
             all_goals omega
           exact .more (k + 1) rfl ⟨by omega, jnext hg0⟩ (by omega) ⟨rfl, rfl, rfl, rfl, rfl, rfl, rfl, rfl, rfl, trivial⟩ rfl ⟨(frsl_no _).inn _, .int _ _, .ptr _ _ _ (by simp), (frsl_no _).inn _, .int _ _, .int _ _, (sl_no _).inn _, .int _ _, .int _ _, trivial⟩ ⟨row_inn (frR_no _), trivial⟩)
        | (refine .done (by simp) ?_
           conv => whnf
           refine .done (by simp) ?_
           conv => whnf
           have hgn : g ≠ 0 := by
             rw [hg]
             repeat' split
             all_goals omega
           refine .intro (.int .i64 _) (.inl rfl) rfl (frz_int ?_)
           rw [hr, hstop (by rw [hc, jstop hgn]; exact hgn), hc, jstop hgn, hg]
           repeat' split
           all_goals omega)
    · obtain rfl : k = f.aft.length := by omega
      rw [j0] at hc
      repeat' ((conv => whnf); first | (refine condP.dec (fun h => absurd h (by omega)) (fun _ => ?_)) | (first | refine condP.dec (fun h => ?_) (fun h => ?_) | refine condP.eq (fun h => ?_) (fun h => ?_) | refine condP.ne (fun h => ?_) (fun h => ?_)) | (refine .i64 (by omega) (by omega) ?_) | (refine onSome.intro (idx_fs rfl rfl (by omega) (by omega) (fun _ => rfl)) ?_) | (refine onSome.intro (load_fs rfl (by omega) (by omega) rfl) ?_) | (refine And.intro rfl ?_))
      all_goals refine .done (by simp) ?_
      all_goals conv => whnf
      all_goals refine .i64 (by omega) (by omega) ?_
      all_goals conv => whnf
      all_goals exact .more (i + 1) rfl ⟨by omega, hnext hc⟩ (by omega) ⟨rfl, rfl, rfl, rfl, trivial⟩ rfl ⟨(frsl_no _).inn _, (frsl_no _).inn _, .int _ _, .int _ _, trivial⟩ trivial
  · obtain rfl : i = l.length := by omega
    repeat' ((conv => whnf); first | (refine condP.dec (fun h => absurd h (by omega)) (fun _ => ?_)) | (first | refine condP.dec (fun h => ?_) (fun h => ?_) | refine condP.eq (fun h => ?_) (fun h => ?_) | refine condP.ne (fun h => ?_) (fun h => ?_)) | (refine .i64 (by omega) (by omega) ?_) | (refine onSome.intro (idx_fs rfl rfl (by omega) (by omega) (fun _ => rfl)) ?_) | (refine onSome.intro (load_fs rfl (by omega) (by omega) rfl) ?_) | (refine And.intro rfl ?_))
    all_goals refine .done (by simp) ?_
    all_goals conv => whnf
    all_goals exact .intro (.int .i64 0) (.inl rfl) rfl (frz_int (by rw [hr, h0]))

end Go.Proofs.Ytpbadgghhiommaa.I
