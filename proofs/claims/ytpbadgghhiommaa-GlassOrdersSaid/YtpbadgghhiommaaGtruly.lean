/- What truly grows, as the statements make it. -/
import Derived.Test.YtpbadgghhiommaaGtrue
import Derived.Test.YtpbadgghhiommaaGkit
import Derived.Test.YtpbadgghhiommaaGin
set_option linter.unusedVariables false
set_option maxHeartbeats 16000000
set_option maxRecDepth 20000
set_option linter.unusedSimpArgs false
namespace Go.Proofs.Ytpbadgghhiommaa.I
open Go.Ideal

theorem In_any (s lo hi : Int) (h0 : lo ≤ hi) (h1 : -1000000000000 ≤ lo) (h2 : hi ≤ 10000000000000) : ∃ v s' : Int, lo ≤ v ∧ v ≤ hi ∧ ∀ (H : Heap) (n : Nat), H n = S1 s → Ev T (.call (.func (.func 55) [] []) [.ptr n 0 0, rgI lo hi] H) (.call (.int .i64 v) (H.set n (S1 s'))) := by
  obtain ⟨v, s', v0, v1, k⟩ := Between_any s lo (max lo hi) (by omega) (by omega) (by omega)
  refine ⟨v, s', v0, by omega, fun H n hn => ?_⟩
  refine run_one T55 (nn_int _ _) (nn_cons (rgI_no _ _) nn_none) (S1_no _) (S1_no _) ?_ H hn
  conv => whnf
  refine CallP.one (fun H hb => k H _ hb) rfl ?_
  conv => whnf
  exact .one (u := .int .i64 v) (.inl rfl) rfl rfl (.refl _) (nn_int _ _)

theorem truly_any (s b : Int) (zs : List Zone) (h : ZOk zs) : ∃ (l : List Int) (s' : Int), TrueL zs l ∧ ∀ (H : Heap) (n : Nat), H n = S1 s → Ev T (.call (.func (.func 42) [] []) [.ptr n 0 0, stuffI b zs] H) (.call (sl l) (H.set n (S1 s'))) := by
  have key := run_one_some T42 (i := 0) (off := 0) (args := [stuffI b zs]) (s := S1 s) (P := fun v z => ∃ (l : List Int) (s' : Int), v = sl l ∧ z = S1 s' ∧ TrueL zs l)
    (nn_cons (stuffI_no _ _) nn_none) (S1_no _) (by
    have q := Upto_any s 3 (by omega)
    obtain ⟨u, s1, u0, u1, k1⟩ := q
    have q : ∃ l0 : List Int, l0.length = 2001 ∧ List.replicate 2001 [IV.int .i64 0] = l0.map ei := ⟨List.replicate 2001 0, List.length_replicate .., by rw [List.map_replicate]; rfl⟩
    obtain ⟨l0, hl0, e0⟩ := q
    have hlen := h.len
    have hpos := h.pos
    conv => whnf
    refine .make (n := 2001) rfl rfl (by omega) (by omega) (r := l0.map ei) e0 ?_
    conv => whnf
    refine CallP.one (fun H hb => k1 H _ hb) rfl ?_
    conv => whnf
    refine loop_rule (X := Nat × List Int × Int) (fun x => [(0, .ptr 0 0 0), (3, .ptr 1 0 0), (5, .mslice 2 0 2001 2001 true), (6, .int .i64 u), (7, .int .i64 x.1)]) (fun x => [S1 x.2.2, .live 2 [[.int .i64 b, zsl zs]], .live 1 (x.2.1.map ei)]) (fun x => 2001 - x.1)
      (fun x => x.1 ≤ 2001 ∧ x.2.1.length = 2001 ∧ ∀ t : Int, 0 ≤ t → t < x.1 → (zoneOf zs t).gl ≤ at' x.2.1 t ∧ at' x.2.1 t ≤ (zoneOf zs t).gh) (0, l0, s1) ⟨Nat.zero_le _, hl0, fun t a b => by omega⟩ ⟨rfl, rfl, rfl, rfl, rfl, trivial⟩ rfl (fun _ _ => rfl) (fun x hx => ?_)
    obtain ⟨i, l, s⟩ := x
    have hi := hx.1
    have hl := hx.2.1
    have hall := hx.2.2
    dsimp only at hi hl hall ⊢
    have inT : ∀ (n : Nat) (u' : Int), 2 < n → chkI (fun b => b < n) [(0, .ptr 0 0 0), (3, .ptr 1 0 0), (5, .mslice 2 0 2001 2001 true), (6, .int .i64 u), (7, .int .i64 u')] := fun n u' hn => ⟨.ptr _ _ _ (by omega), .ptr _ _ _ (by omega), .mslice _ _ _ _ _ hn, .int _ _, .int _ _, trivial⟩
    have inS : ∀ (n : Nat) (s' : Int) (l' : List Int), chkS (fun b => b < n) [S1 s', .live 2 [[.int .i64 b, zsl zs]], .live 1 (l'.map ei)] := fun n s' l' => ⟨row_inn (nn_cons (.int _ _) nn_none), row_inn (stuff_row _ _), fun j k hj hk => (noS_ints (sz := 1) (l := l') _ (List.getElem_mem hj) _ (List.getElem_mem hk)).inn _, trivial⟩
    have kz := ZoneOf_ok b zs hpos (by omega) i
    have hg := zoneOf_gr h i
    have hnew := fun (v : Int) (hv : (zoneOf zs i).gl ≤ v ∧ v ≤ (zoneOf zs i).gh) (hlt : i < 2001) => (show ∀ t : Int, 0 ≤ t → t < ((i + 1 : Nat) : Int) → (zoneOf zs t).gl ≤ at' (l.set i v) t ∧ at' (l.set i v) t ≤ (zoneOf zs t).gh from fun t t0 t1 => by
      by_cases c : t = i
      · subst c
        have : at' (l.set i v) (i : Int) = v := by unfold at'; simp [List.getD_eq_getElem?_getD, List.getElem?_set_self (show i < l.length by omega)]
        rw [this]; exact hv
      · have : at' (l.set i v) t = at' l t := by unfold at'; rw [List.getD_eq_getElem?_getD, List.getD_eq_getElem?_getD, List.getElem?_set_ne (by omega)]
        rw [this]; exact hall t t0 (by omega))
    generalize zoneOf zs i = z at *
    have q := In_any s z.gl z.gh hg.2.1 (by omega) (by omega)
    obtain ⟨w, s2, w0, w1, k2⟩ := q
    have hb3 : z.gl ≤ at' [z.gl, z.gh, w] u ∧ at' [z.gl, z.gh, w] u ≤ z.gh := by
      have : u = 0 ∨ u = 1 ∨ u = 2 := by omega
      rcases this with rfl | rfl | rfl <;> simp [at'] <;> omega
    have hx : ∃ b, b = at' [z.gl, z.gh, w] u := ⟨_, rfl⟩
    obtain ⟨y, hy⟩ := hx
    rw [← hy] at hb3
    conv => whnf
    refine condP.dec (fun hlt => ?_) (fun hge => ?_)
    · conv => whnf
      refine CallP.pure kz ?_
      conv => whnf
      refine CallP.one (fun H hb => k2 H _ hb) rfl ?_
      (repeat ((conv => whnf); refine And.intro rfl ?_)); conv => whnf
      refine onSome.intro (idx_ms rfl rfl rfl (by omega) (by omega)) ?_
      conv => whnf
      refine onSome.intro (load_ms (l := [z.gl, z.gh, w]) (enc := ei) (i := u) (v := .int .i64 y) rfl rfl (by omega) (by simp; omega) (by rw [hy]; rfl)) ?_
      conv => whnf
      refine onSome.intro (idx_ms rfl rfl rfl (by omega) (by omega)) ?_
      conv => whnf
      refine onSome.intro (get_ei (i := i) (by omega)) ?_
      conv => whnf
      refine store_ei (l' := l.set i y) (v := y) rfl rfl ?_
      (repeat ((conv => whnf); refine And.intro rfl ?_)); conv => whnf
      refine .i64 (by omega) (by omega) ?_
      conv => whnf
      exact .more (i + 1, l.set i y, s2) rfl ⟨by dsimp only; omega, by simpa using hl, hnew y hb3 (by omega)⟩ (by dsimp only; omega) ⟨rfl, rfl, rfl, rfl, rfl, trivial⟩ rfl (inT 3 _ (by decide)) (inS 3 _ _)
    · conv => whnf
      refine .done (by simp) ?_
      conv => whnf
      exact .intro (sl l) (S1 s) ⟨l, s, rfl, rfl, ⟨hl, fun t a b => hall t a (by omega)⟩⟩ (sl_no _) (S1_no _) (.one (u := .mslice 2 0 2001 2001 true) (.inl rfl) rfl rfl (.ints rfl (fun _ _ h => by cases h) (by omega)) (sl_no _)))
  obtain ⟨v, z, ⟨l, s', rfl, rfl, ht⟩, _, _, hh⟩ := key
  exact ⟨l, s', ht, fun H n hn => hh H n hn⟩

theorem tsum_bound {l : List Int} (h : ∀ t : Int, 0 ≤ t → t < l.length → -100000 ≤ at' l t ∧ at' l t ≤ 100000) {a : Int} (ha : 0 ≤ a) : ∀ k : Nat, a + k ≤ l.length → -100000 * k ≤ tsum l a k ∧ tsum l a k ≤ 100000 * k
  | 0, _ => ⟨Int.le_refl _, Int.le_refl _⟩
  | k + 1, hk => by
    have h1 := tsum_bound h ha k (by omega)
    have h2 := h (a + k) (by omega) (by omega)
    rw [tsum]
    omega
theorem grown_ok (l : List Int) (hl : l.length = 2001) (h : ∀ t : Int, 0 ≤ t → t < l.length → -100000 ≤ at' l t ∧ at' l t ≤ 100000) (u v : Int) (hu : 0 ≤ u) (hu1 : u ≤ 2000) (hv : 0 ≤ v) (hv1 : v ≤ 2000) (H : Heap) :
    Ev T (.call (.func (.func 43) [] []) [sl l, .int .i64 u, .int .i64 v] H) (.call (.int .i64 (grownV l u v)) H) := by
  refine run_pure T43 (nn_int _ _) (nn_cons (sl_no _) (nn_cons (nn_int _ _) (nn_cons (nn_int _ _) nn_none))) ?_ H
  conv => whnf
  refine loop_rule (X := Nat) (fun k => [(0, sl l), (1, .int .i64 u), (2, .int .i64 v), (7, .int .i64 (tsum l (min u v) k)), (8, .int .i64 (min u v + k))]) (fun _ => []) (fun k => (max u v - min u v).toNat - k) (fun k => min u v + k ≤ max u v) 0
    (by omega) ⟨rfl, rfl, rfl, rfl, by show i6 _ = i6 _; congr 1; omega, trivial⟩ rfl (fun _ _ => rfl) (fun k hk => ?_)
  have hb := tsum_bound h (a := min u v) (by omega) k (by omega)
  have hc := fun q => h (min u v + k) (by omega) q
  have hs : tsum l (min u v) (k + 1) = tsum l (min u v) k + at' l (min u v + k) := rfl
  have hm : ∃ m, m = min u v := ⟨_, rfl⟩
  obtain ⟨m, hm⟩ := hm
  rw [← hm] at hb hc hs hk ⊢
  have ht : ∃ t, t = tsum l m k := ⟨_, rfl⟩
  obtain ⟨t, ht⟩ := ht
  rw [← ht] at hb hs ⊢
  conv => whnf
  refine condP.dec (fun hlt => ?_) (fun hge => ?_)
  · have hc := hc (by omega)
    conv => whnf
    refine onSome.intro (idx_fs rfl rfl (by omega) (by omega) (fun _ => rfl)) ?_
    conv => whnf
    refine onSome.intro (load_fs (v := .int .i64 (at' l (m + k))) rfl (by omega) (by omega) rfl) ?_
    conv => whnf
    refine .i64 (by omega) (by omega) ?_
    conv => whnf
    refine .i64 (by omega) (by omega) ?_
    conv => whnf
    refine .more (k + 1) rfl (by omega) (by omega) ⟨rfl, rfl, rfl, ?_, ?_, trivial⟩ rfl ⟨(sl_no _).inn _, .int _ _, .int _ _, .int _ _, .int _ _, trivial⟩ trivial
    · show i6 _ = i6 _
      rw [hs]
    · show i6 _ = i6 _
      congr 1
      omega
  · conv => whnf
    refine .done (by simp) ?_
    have hkk : k = (max u v - m).toNat := by omega
    conv => whnf
    refine condP.dec (fun hgt => ?_) (fun hle => ?_)
    · conv => whnf
      refine .i64 (by omega) (by omega) ?_
      conv => whnf
      refine .intro (.int .i64 (0 - t)) (.inl rfl) rfl (frz_int ?_)
      unfold grownV
      rw [if_neg (by omega), ht, hkk, show m = v by omega, show (max u v - v).toNat = (u - v).toNat by omega]
      omega
    · conv => whnf
      refine .intro (.int .i64 t) (.inl rfl) rfl (frz_int ?_)
      unfold grownV
      rw [if_pos (by omega), ht, hkk, show m = u by omega, show (max u v - u).toNat = (v - u).toNat by omega]

end Go.Proofs.Ytpbadgghhiommaa.I
