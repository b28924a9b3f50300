/- GlassGrows runs to true. -/
import Derived.Test.YtpbadgghhiommaaGkit
import Derived.Test.YtpbadgghhiommaaGawake
import Derived.Test.YtpbadgghhiommaaGin
set_option linter.unusedVariables false
set_option maxHeartbeats 16000000
set_option linter.unusedSimpArgs false
namespace Go.Proofs.Ytpbadgghhiommaa.I
open Go.Ideal

theorem growth_pair (b : Int) (zs : List Zone) (hz : zs.length ≤ 9000000000000000000) (u v : Int) : ∃ e x y : Int, (∀ H, Ev T (.call (.func (.func 47) [] []) [stuffI b zs, .int .i64 u, .int .i64 v] H) (.call (errRg e x y) H)) ∧
    ∀ H, Ev T (.call (.func (.func 48) [] []) [stuffI b zs, .int .i64 u, .int .i64 v] H) (.call (errRg e x y) H) := ⟨_, _, _, Growth_ok b zs hz u v, rGrowth_ok b zs hz u v⟩
theorem mismatch_pair (a : Int) (x : List Zone) (b : Int) (y : List Zone) (hx : x.length ≤ 9000000000000000000) (hy : y.length ≤ 9000000000000000000) (u v : Int) : ∃ e p q : Int, (∀ H, Ev T (.call (.func (.func 45) [] []) [stuffI a x, stuffI b y, .int .i64 u, .int .i64 v] H) (.call (errRg e p q) H)) ∧
    ∀ H, Ev T (.call (.func (.func 40) [] []) [stuffI a x, stuffI b y, .int .i64 u, .int .i64 v] H) (.call (errRg e p q) H) := ⟨_, _, _, Mismatch_ok a x b y hx hy u v, rMismatch_ok a x b y hx hy u v⟩
theorem same_rg {a b : Int} (h : cellsEq [.i, .i] [.int .i64 a, .int .i64 b] [.int .i64 a, .int .i64 b] = some false) : False := by
  simp [cellsEq, cellEq] at h

theorem GlassGrows_ok (b1 : Int) (z1 : List Zone) (b2 : Int) (z2 : List Zone) (u v : Int) (l : List Int) (h1 : z1.length ≤ 9223372036854775807) (h2 : z2.length ≤ 9223372036854775807)
    (hu0 : -9223372036854775808 ≤ u) (hu1 : u ≤ 9223372036854775807) (hv0 : -9223372036854775808 ≤ v) (hv1 : v ≤ 9223372036854775807) (hl : l.length ≤ 9223372036854775807) (H : Heap) :
    Ev T (.call (.func (.func 7) [] []) [stuffI b1 z1, stuffI b2 z2, .int .i64 u, .int .i64 v, sl l] H) (.call (.bool true) H) := by
  refine run_pure T7 (nn_bool _) (nn_cons (stuffI_no _ _) (nn_cons (stuffI_no _ _) (nn_cons (nn_int _ _) (nn_cons (nn_int _ _) (nn_cons (sl_no _) nn_none))))) ?_ H
  have e1 : (z1.map zr).length = z1.length := List.length_map ..
  have e2 : (z2.map zr).length = z2.length := List.length_map ..
  by_cases hlong : z1.length ≤ 30 ∧ z2.length ≤ 30
  rotate_left
  · repeat' ((conv => whnf); first | (refine CallP.pure awake_ok ?_) | (first | refine condP.dec (fun h => ?_) (fun h => ?_) | refine condP.eq (fun h => ?_) (fun h => ?_) | refine condP.ne (fun h => ?_) (fun h => ?_)) | (refine .i64 (by omega) (by omega) ?_) | (refine onSome.intro (idx_fs rfl rfl (by omega) (by omega) (fun _ => rfl)) ?_) | (refine onSome.intro (load_fs rfl (by omega) (by omega) rfl) ?_) | (refine And.intro rfl ?_))
    all_goals first | (exfalso; omega) | skip
    all_goals conv => whnf
    all_goals exact .intro (.bool true) (.inl rfl) rfl (.refl _)
  have q := NewDice_ok l hl
  obtain ⟨s, kd⟩ := q
  have q := StuffOf_ok s
  obtain ⟨bx, x, s1, bx0, bx1, hx, kx⟩ := q
  have q := StuffOf_ok s1
  obtain ⟨by', y, s2, by0, by1, hy, ky⟩ := q
  have q := growth_pair b1 z1 (by omega) u v
  obtain ⟨ge, gx, gy, kg, kgr⟩ := q
  have q := mismatch_pair b1 z1 b2 z2 (by omega) (by omega) u v
  obtain ⟨me, mx, my, km, kmr⟩ := q
  have mu := Mod_ok u 2001 hu0 hu1 (by omega) (by omega)
  have mv := Mod_ok v 2001 hv0 hv1 (by omega) (by omega)
  generalize modI u 2001 = u' at *
  generalize modI v 2001 = v' at *
  have q := growth_pair bx x (by have := hx.len; omega) u' v'
  obtain ⟨he, hx1, hy1, kh, khr⟩ := q
  have q := mismatch_pair bx x by' y (by have := hx.len; omega) (by have := hy.len; omega) u' v'
  obtain ⟨ne, nx, ny, kn, knr⟩ := q
  repeat' ((conv => whnf); first | (refine condP.dec (fun h => absurd h (by omega)) (fun _ => ?_)) | (refine condP.same2 ?_) | (refine condP.same1 ?_) | (refine condP.differ1 ?_) | (refine CallP.pure awake_ok ?_) | (refine CallP.new kd ?_) | (refine CallP.one (fun H hb => kx H _ hb) rfl ?_) | (refine CallP.one (fun H hb => ky H _ hb) rfl ?_) | (refine CallP.pure kg ?_) | (refine CallP.pure kgr ?_) | (refine CallP.pure km ?_) | (refine CallP.pure kmr ?_) | (refine CallP.pure mu ?_) | (refine CallP.pure mv ?_) | (refine CallP.pure kh ?_) | (refine CallP.pure khr ?_) | (refine CallP.pure kn ?_) | (refine CallP.pure knr ?_) | (first | refine condP.dec (fun h => ?_) (fun h => ?_) | refine condP.eq (fun h => ?_) (fun h => ?_) | refine condP.ne (fun h => ?_) (fun h => ?_)) | (refine .i64 (by omega) (by omega) ?_) | (refine onSome.intro (idx_fs rfl rfl (by omega) (by omega) (fun _ => rfl)) ?_) | (refine onSome.intro (load_fs rfl (by omega) (by omega) rfl) ?_) | (refine And.intro rfl ?_))
  all_goals conv => whnf
  all_goals exact .intro (.bool true) (.inl rfl) rfl (.refl _)

end Go.Proofs.Ytpbadgghhiommaa.I
