/- Nets that are copied: the reference. -/
import Derived.Test.YtlfaglkkeahamaaGreatNrests
import Derived.Test.YtlfaglkkeahamaaGreatNcorner
set_option linter.unusedVariables false
set_option maxHeartbeats 16000000
set_option linter.unusedSimpArgs false
namespace Go.Proofs.YtlfaglkkeahamaaGreat.I
open Go.Ideal

theorem rints_ok (l : List Int) (hne : l ≠ []) (hl : l.length ≤ 1000000) (H : Heap) : Ev T (.call (.func (.func 143) [] []) [sl l] H) (.call (sl l) H) := by
  cases l with
  | nil => exact absurd rfl hne
  | cons a l =>
    refine run_pure T143 (sl_no _) (nn_cons (sl_no _) nn_none) ?_ H
    rw [List.length_cons] at hl
    conv => whnf
    refine .nil (.inl rfl) rfl (by simp) ei_len ei_ok (List.length_map ..) (by simp only [List.length_cons]; omega) ?_
    conv => whnf
    exact .intro (.mslice 0 0 (l.length + 1) (l.length + 1) false) (.inl rfl) rfl (.ints (sz := 1) (l := a :: l) rfl (fun _ _ h => by cases h) rfl)
theorem rtable_ok (t : List (List Int)) (hne : t ≠ []) (hl : t.length ≤ 1000000) (hr : ∀ i : Nat, ∀ h : i < t.length, t[i] ≠ [] ∧ t[i].length ≤ 1000000) (H : Heap) : Ev T (.call (.func (.func 144) [] []) [sll t] H) (.call (sll t) H) := by
  refine run_pure T144 (sll_no _) (nn_cons (sll_no _) nn_none) ?_ H
  have e1 : (t.map el).length = t.length := List.length_map ..
  conv => whnf
  refine .pad 1 ?_
  refine loop_grow (X := Nat) (fun i => [(0, sll t), (3, omsl 0 (t.take i)), (4, .int .i64 i)]) (fun i => [lsS 1 el (t.take i)]) (fun i => t.length - i) (fun i => i ≤ t.length) 0 (Nat.zero_le _) ⟨rfl, rfl, rfl, trivial⟩ rfl (fun i hi => ?_)
  rcases Nat.lt_or_ge i t.length with hlt | hge
  · have er : at' t (i : Int) = t[i] := at'_get hlt
    have hri := hr i hlt
    have kr := rints_ok t[i] hri.1 hri.2
    have htk : t.take (i + 1) = t.take i ++ [t[i]] := by rw [List.take_add_one, List.getElem?_eq_getElem hlt]; rfl
    have hlen : (t.take i).length = i := by rw [List.length_take]; omega
    have hlen2 : (t.take i ++ [t[i]]).length = (t.take i).length + 1 := by rw [List.length_append]; rfl
    have hne2 : t.take i ++ [t[i]] ≠ [] := fun q => by rw [q] at hlen2; rw [List.length_nil] at hlen2; omega
    repeat' ((conv => whnf); first | (refine condP.dec (fun _ => ?_) (fun h => absurd (by omega) h)) | (refine onSome.intro (load_fs (l := t) (enc := el) (i := (i : Int)) (v := sl t[i]) rfl (by omega) (by omega) (by rw [er]; rfl)) ?_) | (refine CallP.pure kr ?_) | (refine force_om ?_) | (refine forceC_om ?_) | (first | refine condP.dec (fun h => ?_) (fun h => ?_) | refine condP.eq (fun h => ?_) (fun h => ?_) | refine condP.ne (fun h => ?_) (fun h => ?_)) | (refine .i64 (by omega) (by omega) ?_) | (refine onSome.intro (idx_fs rfl rfl (by omega) (by omega) (fun _ => rfl)) ?_) | (refine onSome.intro (load_fs rfl (by omega) (by omega) rfl) ?_) | (refine And.intro rfl ?_))
    conv => whnf
    refine .snocM (enc := el) (l := t.take i) (b := 0) t[i] rfl rfl rfl rfl (fun c hc => by simp [el] at hc; subst hc; rfl) (by omega) ?_
    (repeat ((conv => whnf); refine And.intro rfl ?_)); conv => whnf
    refine .i64 (by omega) (by omega) ?_
    conv => whnf
    exact .more (i + 1) [2] rfl (by omega) (by omega) rfl ⟨.same (sll_no _), by rw [htk]; exact .grown rfl hlen2 hne2, .nn (.int _ _) (frz_int (by omega)), trivial⟩ ⟨by rw [htk]; exact .lsM hne2 el_no, trivial⟩
  · obtain rfl : i = t.length := by omega
    repeat' ((conv => whnf); first | (refine condP.dec (fun h => absurd h (by omega)) (fun _ => ?_)) | (first | refine condP.dec (fun h => ?_) (fun h => ?_) | refine condP.eq (fun h => ?_) (fun h => ?_) | refine condP.ne (fun h => ?_) (fun h => ?_)) | (refine .i64 (by omega) (by omega) ?_) | (refine onSome.intro (idx_fs rfl rfl (by omega) (by omega) (fun _ => rfl)) ?_) | (refine onSome.intro (load_fs rfl (by omega) (by omega) rfl) ?_) | (refine And.intro rfl ?_))
    refine .done (by simp) ?_
    rw [List.take_length]
    repeat' ((conv => whnf); first | (refine force_om ?_) | (refine forceC_om ?_) | (first | refine condP.dec (fun h => ?_) (fun h => ?_) | refine condP.eq (fun h => ?_) (fun h => ?_) | refine condP.ne (fun h => ?_) (fun h => ?_)) | (refine .i64 (by omega) (by omega) ?_) | (refine onSome.intro (idx_fs rfl rfl (by omega) (by omega) (fun _ => rfl)) ?_) | (refine onSome.intro (load_fs rfl (by omega) (by omega) rfl) ?_) | (refine And.intro rfl ?_))
    conv => whnf
    exact .intro (omsl 0 t) (.inl rfl) rfl (.oml (sz := 1) rfl (fun _ _ h => by cases h))
theorem rCopy_ok {F : Fam} (hF : F.Ok) (H : Heap) : Ev T (.call (.func (.func 88) [] []) [F.I] H) (.call F.I H) := by
  refine run_pure T88 F.I_no (nn_cons F.I_no nn_none) ?_ H
  obtain ⟨n1, n2, n3, n4⟩ := hF.ne
  have g1 := hF.g1
  have p1 := hF.p1
  have tl := hF.tl.len
  have th := hF.th.len
  have p0 := hF.p0
  have hr : ∀ {t : List (List Int)}, TabOk F.g.length F.p.length t → ∀ i : Nat, ∀ h : i < t.length, t[i] ≠ [] ∧ t[i].length ≤ 1000000 := fun {t} ht i h => by
    have := ht.row i (by have := ht.len; omega)
    rw [List.getD_eq_getElem?_getD, List.getElem?_eq_getElem h, Option.getD_some] at this
    exact ⟨fun q => by rw [q] at this; simp at this; omega, by omega⟩
  have k1 := rints_ok F.g n1 (by omega)
  have k2 := rints_ok F.p n2 (by omega)
  have k3 := rtable_ok F.lo n3 (by omega) (hr hF.tl)
  have k4 := rtable_ok F.hi n4 (by omega) (hr hF.th)
  repeat' ((conv => whnf); first | (refine CallP.pure k1 ?_) | (refine CallP.pure k2 ?_) | (refine CallP.pure k3 ?_) | (refine CallP.pure k4 ?_) | (first | refine condP.dec (fun h => ?_) (fun h => ?_) | refine condP.eq (fun h => ?_) (fun h => ?_) | refine condP.ne (fun h => ?_) (fun h => ?_)) | (refine .i64 (by omega) (by omega) ?_) | (refine onSome.intro (idx_fs rfl rfl (by omega) (by omega) (fun _ => rfl)) ?_) | (refine onSome.intro (load_fs rfl (by omega) (by omega) rfl) ?_) | (refine And.intro rfl ?_))
  all_goals conv => whnf
  all_goals exact .intro F.I (.inl rfl) rfl (.refl _)
/-- What a function hands back: one new block; what else it names is frozen. -/
inductive NewF (res : List IRes) (P : IV → Nat → Slot → Prop) (e : IEx) (E1 : Env) (L1 : List Slot) : Prop
  | intro (u v : IV) (k : Nat) (s : Slot) (hP : P v k s) (he : e = .ret ∨ e = .normal) (hr : resultsI (Heap.of L1) E1 res = some u) (hk : L1[k]? = some s) (hs : NonameS s) (hv : Inn (fun b => b = k) v) (hz : Frz (Heap.of L1) ((Heap.of []).set k s) u v) : NewF res P e E1 L1
theorem run_newF {T : Ideal.Sys} {f : FuncId} {fn : IFunc} (hT : T.fn f = some fn) {args : List IV} {P : IV → Nat → Slot → Prop} (ha : ∀ x ∈ args, Noname x) (h : wpC T 0 fn.body (argEnv args) [] (NewF fn.res P)) :
    ∃ v k s, P v k s ∧ NonameS s ∧ ∀ (H : Heap) (n : Nat), H n = .free → Ev T (.call (.func (.func f) [] []) args H) (.call (v.ren (sw k n)) (H.set n s)) := by
  obtain ⟨e, E1, L1, h1, h2⟩ := wpC_sound h
  cases h2 with
  | intro u v k s hP he hr hk hs hv hz =>
  refine ⟨v, k, s, hP, hs, fun H n hn => ?_⟩
  have e0 : ∀ b, (Heap.of []) b = .free := fun b => rfl
  have ek : ∀ b, ((Heap.of []).set k s) b = if b = k then s else .free := fun b => rfl
  have hne := hs.free
  have h0 : Ev T (.call (.func (.func f) [] []) args (Heap.of [])) (.call v ((Heap.of []).set k s)) := by
    refine .func hT (fs := []) (cs := []) (S := Sk 0) (fun b hb => absurd (e0 b) hb) (by simpa using h1) he hr hz ⟨fun b => ?_, fun b hb => absurd (e0 b) hb, fun b sz es hb => .inr (fun j i hj hi => ?_), fun b => ?_, hv.mono (fun b hb => ?_)⟩
    · rw [ek]
      by_cases q : b = k
      · subst q; exact .inl (by rw [if_pos rfl, Heap.of_get hk])
      · exact .inr (.inl ⟨if_neg q, e0 b⟩)
    · rw [ek] at hb
      split at hb
      · subst hb; exact (hs _ (List.getElem_mem hj) _ (List.getElem_mem hi)).inn _
      · cases hb
    · rw [ek]
      split
      · exact hs.noLoop
      · rfl
    · subst hb
      simp only [Heap.named, ek, if_true]; exact hne
  have h3 := Ev.ren k n h0
  have e1 : (IV.func (.func f) [] []).ren (sw k n) = .func (.func f) [] [] := rfl
  have e2 : args.map (IV.ren (sw k n)) = args := map_id_of (fun j hj => (ha _ (List.getElem_mem hj)).ren)
  rw [e1, e2] at h3
  have r0 : ∀ b, ((Heap.of []).ren k n) b = .free := fun b => rfl
  have r1 : ∀ b, (((Heap.of []).set k s).ren k n) b = if b = n then s else .free := by
    intro b
    simp only [Heap.ren, ek]
    by_cases q : b = n
    · subst q
      have : sw k b b = k := by unfold sw; split <;> simp_all
      rw [this, if_pos rfl, if_pos rfl, hs.ren]
    · rw [if_neg q]
      have : sw k n b ≠ k := by
        unfold sw
        split
        · rename_i hb; intro hq; exact q (by rw [hb, hq])
        · assumption
      rw [if_neg this]; rfl
  refine .frame (.func _ _ _ (fun i h => by simp at h) (fun i h => by simp at h)) (fun x hx => (ha x hx).inn _) ⟨fun b sz es hb => (by rw [r0] at hb; cases hb), fun b E ps aa bd st pd hb => (by rw [r0] at hb; cases hb)⟩ h3 (fun b => ?_) (.inr fun b => by rw [r0]; rfl)
  rw [r0, r1]
  by_cases q : b = n
  · subst q; exact .inl ⟨hn, by rw [if_pos rfl, Heap.set_same]⟩
  · exact .inr ⟨rfl, if_neg q, Heap.set_ne _ _ q⟩
theorem stage_anew' {kept : List Nat} {H1 H2 : Heap} {l : List Stg} {i b n lb : Nat} {ex : Bool} {s : Stg} {hi : i < l.length} (hs : l[i] = s) {e' : List IV} (he : e' = [.int .i64 s.tube, .int .i64 s.su.lo, .int .i64 s.su.hi, .int .i64 s.ld.lo, .int .i64 s.ld.hi, .int .i64 s.bi.lo, .int .i64 s.bi.hi, .mslice b 0 n lb ex])
    (hn : n = s.taps.length) (hb : H1 b = .live 3 (s.taps.map Tap.R)) (hb' : ∀ sz e, H2 b ≠ .live sz e) : MvS kept H1 H2 (.live 8 ((l.map Stg.R).set i e')) (.live 8 (l.map Stg.R)) := by
  subst he
  refine .nn (noS_map Stg.R_no) (FzE.slot (fzE_set fun h => ?_))
  rw [List.getElem_map, hs]
  exact .cons (.refl _) (.cons (.refl _) (.cons (.refl _) (.cons (.refl _) (.cons (.refl _) (.cons (.refl _) (.cons (.refl _) (.cons (Frz.taps hb hb' hn) .nil)))))))
theorem r9CopyS_ok {n : Net} (hn : n.Ok) (H : Heap) (b : Nat) (hb : H b = .free) : Ev T (.call (.func (.func 35) [] []) [n.I] H) (.call (.agg [famsI n.tubes, .int .i64 n.ins, .mslice b 0 n.stages.length n.stages.length false]) (H.set b (.live 8 (n.stages.map Stg.R)))) := by
  have key := run_newF T35 (args := [n.I]) (P := fun v k s => v = .agg [famsI n.tubes, .int .i64 n.ins, .mslice k 0 n.stages.length n.stages.length false] ∧ s = .live 8 (n.stages.map Stg.R)) (nn_cons n.I_no nn_none) (by
    have t0 := hn.t0
    have t1 := hn.t1
    have s0 := hn.s0
    have s1 := hn.s1
    have e1 : (n.tubes.map Fam.R).length = n.tubes.length := List.length_map ..
    have e2 : (n.stages.map Stg.R).length = n.stages.length := List.length_map ..
    have nt : n.tubes ≠ [] := fun q => by rw [q] at t0; simp at t0
    have ns : n.stages ≠ [] := fun q => by rw [q] at s0; simp at s0
    have ntr : n.tubes.map Fam.R ≠ [] := fun q => nt (List.map_eq_nil_iff.mp q)
    have nsr : n.stages.map Stg.R ≠ [] := fun q => ns (List.map_eq_nil_iff.mp q)
    conv => whnf
    refine .full (es := []) (n := 0) (es' := n.tubes.map Fam.R) rfl rfl rfl rfl ntr (fun e he => by obtain ⟨z, _, rfl⟩ := List.mem_map.mp he; rfl) (fun e he c hc => by obtain ⟨z, _, rfl⟩ := List.mem_map.mp he; simp [Fam.R] at hc; rcases hc with rfl | rfl | rfl | rfl <;> rfl) (r := n.tubes.map Fam.R) rfl (n' := n.tubes.length) e1 (by omega) ?_
    conv => whnf
    have hS : chkS (fun b => b < 4) [.live 3 [[.mslice 3 0 n.tubes.length n.tubes.length false, .int .i64 n.ins, stgsI n.stages]], .live 3 [[.nilslice, .int .i64 0, .nilslice]], .live 4 [], .live 4 (n.tubes.map Fam.R)] :=
      ⟨inn_row (in_cons (.mslice _ _ _ _ _ (by decide)) (in_cons (.int _ _) (in_one ((stgsI_no _).inn _)))), inn_row (in_cons ((show Noname .nilslice from .nilslice).inn _) (in_cons (.int _ _) (in_one ((show Noname .nilslice from .nilslice).inn _)))), fun j k hj => by simp at hj, ms_inn Fam.R_no _, trivial⟩
    refine loop_rule (X := Nat) (fun i => [(1, .ptr 0 0 0), (2, .ptr 1 0 0), (3, .int .i64 i)]) (fun _ => [.live 3 [[.mslice 3 0 n.tubes.length n.tubes.length false, .int .i64 n.ins, stgsI n.stages]], .live 3 [[.nilslice, .int .i64 0, .nilslice]], .live 4 [], .live 4 (n.tubes.map Fam.R)]) (fun i => n.tubes.length - i) (fun i => i ≤ n.tubes.length) 0 (Nat.zero_le _) ⟨rfl, rfl, rfl, trivial⟩ rfl (fun _ _ => rfl) (fun i hi => ?_)
    rcases Nat.lt_or_ge i n.tubes.length with hlt | hge
    · have hf : at' n.tubes (i : Int) = n.tubes[i] := at'_get hlt
      have kC := rCopy_ok (hn.fam i hlt)
      rw [hf] at kC
      generalize hs : n.tubes[i] = s at *
      repeat' ((conv => whnf); first | (refine condP.dec (fun _ => ?_) (fun h => absurd (by omega) h)) | (refine onSome.intro (idx_ms (n := (i : Int)) rfl rfl rfl (by omega) (by omega)) ?_) | (refine onSome.intro (load_ms (l := n.tubes) (enc := Fam.R) (i := (i : Int)) (v := s.I) rfl rfl (by omega) (by omega) (by rw [hf]; rfl)) ?_) | (refine CallP.pure kC ?_) | (refine And.intro (idx_ms (n := (i : Int)) rfl rfl rfl (by omega) (by omega)) ?_) | (first | refine condP.dec (fun h => ?_) (fun h => ?_) | refine condP.eq (fun h => ?_) (fun h => ?_) | refine condP.ne (fun h => ?_) (fun h => ?_)) | (refine .i64 (by omega) (by omega) ?_) | (refine onSome.intro (idx_fs rfl rfl (by omega) (by omega) (fun _ => rfl)) ?_) | (refine onSome.intro (load_fs rfl (by omega) (by omega) rfl) ?_) | (refine And.intro rfl ?_))
      all_goals conv => whnf
      all_goals refine onSome.intro (get_enc (i := i) (by omega)) ?_
      all_goals rw [hs]
      all_goals conv => whnf
      all_goals refine store_enc (a := s) (l' := n.tubes) rfl (by rw [← hs]; exact List.set_getElem_self _) ?_
      all_goals (repeat ((conv => whnf); refine And.intro rfl ?_)); conv => whnf
      all_goals refine .i64 (by omega) (by omega) ?_
      all_goals conv => whnf
      all_goals exact .more (i + 1) rfl (by omega) (by omega) ⟨rfl, rfl, rfl, trivial⟩ rfl ⟨.ptr _ _ _ (by simp), .ptr _ _ _ (by simp), .int _ _, trivial⟩ hS
    obtain rfl : i = n.tubes.length := by omega
    repeat' ((conv => whnf); first | (refine condP.dec (fun h => absurd h (by omega)) (fun _ => ?_)) | (first | refine condP.dec (fun h => ?_) (fun h => ?_) | refine condP.eq (fun h => ?_) (fun h => ?_) | refine condP.ne (fun h => ?_) (fun h => ?_)) | (refine .i64 (by omega) (by omega) ?_) | (refine onSome.intro (idx_fs rfl rfl (by omega) (by omega) (fun _ => rfl)) ?_) | (refine onSome.intro (load_fs rfl (by omega) (by omega) rfl) ?_) | (refine And.intro rfl ?_))
    refine .done (by simp) ?_
    conv => whnf
    refine .full (es := []) (n := 0) (es' := n.stages.map Stg.R) rfl rfl rfl rfl nsr (fun e he => by obtain ⟨z, _, rfl⟩ := List.mem_map.mp he; rfl) (fun e he c hc => by obtain ⟨z, _, rfl⟩ := List.mem_map.mp he; simp [Stg.R] at hc; rcases hc with rfl | rfl | rfl | rfl | rfl | rfl | rfl | rfl <;> rfl) (r := n.stages.map Stg.R) rfl (n' := n.stages.length) e2 (by omega) ?_
    conv => whnf
    refine loop_grow (X := Nat) (fun i => [(1, .ptr 0 0 0), (2, .ptr 1 0 0), (4, .int .i64 i)]) (fun _ => [.live 3 [[.mslice 3 0 n.tubes.length n.tubes.length false, .int .i64 n.ins, .mslice 5 0 n.stages.length n.stages.length false]], .live 3 [[.nilslice, .int .i64 0, .nilslice]], .live 4 [], .live 4 (n.tubes.map Fam.R), .live 8 [], .live 8 (n.stages.map Stg.R)]) (fun i => n.stages.length - i) (fun i => i ≤ n.stages.length) 0 (Nat.zero_le _) ⟨rfl, rfl, rfl, trivial⟩ rfl (fun i hi => ?_)
    rcases Nat.lt_or_ge i n.stages.length with hlt | hge
    · have hf : at' n.stages (i : Int) = n.stages[i] := at'_get hlt
      have h4 := (hn.st i hlt).taps.len
      rw [hf] at h4
      generalize hs : n.stages[i] = s at *
      obtain ⟨tb, su, ld, bi, tp⟩ := s
      rcases tp with _ | ⟨u, tp⟩
      · repeat' ((conv => whnf); first | (refine condP.dec (fun _ => ?_) (fun h => absurd (by omega) h)) | (refine onSome.intro (idx_ms (n := (i : Int)) rfl rfl rfl (by omega) (by omega)) ?_) | (refine onSome.intro (load_ms (l := n.stages) (enc := Stg.R) (i := (i : Int)) (v := tapsI []) rfl rfl (by omega) (by omega) (by rw [hf]; rfl)) ?_) | (refine .none rfl rfl rfl ?_) | (refine And.intro (idx_ms (n := (i : Int)) rfl rfl rfl (by omega) (by omega)) ?_) | (first | refine condP.dec (fun h => ?_) (fun h => ?_) | refine condP.eq (fun h => ?_) (fun h => ?_) | refine condP.ne (fun h => ?_) (fun h => ?_)) | (refine .i64 (by omega) (by omega) ?_) | (refine onSome.intro (idx_fs rfl rfl (by omega) (by omega) (fun _ => rfl)) ?_) | (refine onSome.intro (load_fs rfl (by omega) (by omega) rfl) ?_) | (refine And.intro rfl ?_))
        all_goals conv => whnf
        all_goals refine onSome.intro (get_enc (i := i) (by omega)) ?_
        all_goals rw [hs]
        all_goals conv => whnf
        all_goals refine store_sym ?_
        all_goals (repeat ((conv => whnf); refine And.intro rfl ?_)); conv => whnf
        all_goals refine .i64 (by omega) (by omega) ?_
        all_goals conv => whnf
        all_goals refine .more (i + 1) [0, 1, 2, 3, 4, 5] rfl (by omega) (by omega) rfl ⟨.pt rfl, .pt rfl, .nn (.int _ _) (frz_int (by omega)), trivial⟩ ?_
        all_goals exact
          ⟨.row (.cons (.ms rfl) (.cons (.same (.int _ _)) (.cons (.ms rfl) .nil))), .same (noS_row (nn_cons .nilslice (nn_cons (.int _ _) (nn_cons .nilslice nn_none)))), .same (noS_map (l := ([] : List Fam)) Fam.R_no), .same (noS_map Fam.R_no), .same (noS_map (l := ([] : List Stg)) Stg.R_no), stage_anew' (b := 6) (hi := hlt) hs rfl rfl rfl (fun _ _ q => by cases q), trivial⟩
      · rw [List.length_cons] at h4
        repeat' ((conv => whnf); first | (refine condP.dec (fun _ => ?_) (fun h => absurd (by omega) h)) | (refine onSome.intro (idx_ms (n := (i : Int)) rfl rfl rfl (by omega) (by omega)) ?_) | (refine onSome.intro (load_ms (l := n.stages) (enc := Stg.R) (i := (i : Int)) (v := tapsI (u :: tp)) rfl rfl (by omega) (by omega) (by rw [hf]; rfl)) ?_) | (refine .full (es := []) (n := 0) (es' := (u :: tp).map Tap.R) rfl rfl rfl rfl (by simp) (fun e he => by obtain ⟨z, _, rfl⟩ := List.mem_map.mp he; rfl) (fun e he c hc => by obtain ⟨z, _, rfl⟩ := List.mem_map.mp he; simp [Tap.R] at hc; rcases hc with rfl | rfl | rfl <;> rfl) (r := (u :: tp).map Tap.R) rfl (n' := tp.length + 1) (by simp) (by omega) ?_) | (refine And.intro (idx_ms (n := (i : Int)) rfl rfl rfl (by omega) (by omega)) ?_) | (first | refine condP.dec (fun h => ?_) (fun h => ?_) | refine condP.eq (fun h => ?_) (fun h => ?_) | refine condP.ne (fun h => ?_) (fun h => ?_)) | (refine .i64 (by omega) (by omega) ?_) | (refine onSome.intro (idx_fs rfl rfl (by omega) (by omega) (fun _ => rfl)) ?_) | (refine onSome.intro (load_fs rfl (by omega) (by omega) rfl) ?_) | (refine And.intro rfl ?_))
        all_goals conv => whnf
        all_goals refine onSome.intro (get_enc (i := i) (by omega)) ?_
        all_goals rw [hs]
        all_goals conv => whnf
        all_goals refine store_sym ?_
        all_goals (repeat ((conv => whnf); refine And.intro rfl ?_)); conv => whnf
        all_goals refine .i64 (by omega) (by omega) ?_
        all_goals conv => whnf
        all_goals refine .more (i + 1) [0, 1, 2, 3, 4, 5] rfl (by omega) (by omega) rfl ⟨.pt rfl, .pt rfl, .nn (.int _ _) (frz_int (by omega)), trivial⟩ ?_
        all_goals exact
          ⟨.row (.cons (.ms rfl) (.cons (.same (.int _ _)) (.cons (.ms rfl) .nil))), .same (noS_row (nn_cons .nilslice (nn_cons (.int _ _) (nn_cons .nilslice nn_none)))), .same (noS_map (l := ([] : List Fam)) Fam.R_no), .same (noS_map Fam.R_no), .same (noS_map (l := ([] : List Stg)) Stg.R_no), stage_anew' (b := 7) (hi := hlt) hs rfl rfl rfl (fun _ _ q => by cases q), trivial⟩
    obtain rfl : i = n.stages.length := by omega
    repeat' ((conv => whnf); first | (refine condP.dec (fun h => absurd h (by omega)) (fun _ => ?_)) | (first | refine condP.dec (fun h => ?_) (fun h => ?_) | refine condP.eq (fun h => ?_) (fun h => ?_) | refine condP.ne (fun h => ?_) (fun h => ?_)) | (refine .i64 (by omega) (by omega) ?_) | (refine onSome.intro (idx_fs rfl rfl (by omega) (by omega) (fun _ => rfl)) ?_) | (refine onSome.intro (load_fs rfl (by omega) (by omega) rfl) ?_) | (refine And.intro rfl ?_))
    refine .done (by simp) ?_
    conv => whnf
    exact .intro (.agg [.mslice 3 0 n.tubes.length n.tubes.length false, .int .i64 n.ins, .mslice 5 0 n.stages.length n.stages.length false]) (.agg [famsI n.tubes, .int .i64 n.ins, .mslice 5 0 n.stages.length n.stages.length false]) 5 (.live 8 (n.stages.map Stg.R)) ⟨rfl, rfl⟩ (.inl rfl) rfl rfl (noS_map Stg.R_no)
      (.agg _ (fun i hi => (in_cons (S := fun b => b = 5) ((famsI_no _).inn _) (in_cons (.int _ _) (in_one (.mslice _ _ _ _ _ rfl)))) _ (List.getElem_mem hi)))
      (.aggL (.cons (.whole (sz := 4) (es := n.tubes.map Fam.R) rfl (fun _ _ h => by cases h) e1.symm (.refl _)) (.cons (.refl _) (.cons (.refl _) .nil)))))
  obtain ⟨v, k, s, ⟨rfl, rfl⟩, _, h⟩ := key
  have := h H b hb
  have e : (famsI n.tubes).ren (sw k b) = famsI n.tubes := (famsI_no _).ren
  simpa [IV.ren, renL, sw, e] using this

end Go.Proofs.YtlfaglkkeahamaaGreat.I
