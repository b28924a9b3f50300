/- An ideal machine for Go code. Part 27: functions and loops, run by computing. -/
import Derived.Test.YtlfaglkkeahamaaGreatI2
import Derived.ChangeSlices
import Derived.Carry
set_option linter.unusedSimpArgs false
set_option linter.unusedVariables false
namespace Go.Ideal

def Noname (x : IV) : Prop := Inn (fun _ => False) x
theorem Noname.inn {x : IV} (h : Noname x) (S : Nat → Prop) : Inn S x := h.mono (fun _ q => q.elim)
theorem map_id_of {α : Type} {f : α → α} : ∀ {l : List α}, (∀ (i : Nat) (h : i < l.length), f l[i] = l[i]) → l.map f = l
  | [], _ => rfl
  | x :: xs, h => by
    rw [List.map_cons, show f x = x from h 0 (by simp), map_id_of (l := xs) (fun i hi => h (i + 1) (by simpa using hi))]
theorem Noname.ren {π : Nat → Nat} {x : IV} (h : Noname x) : x.ren π = x := by
  unfold Noname at h
  induction h with
  | ptr b i off h => exact h.elim
  | mslice b off len lb ex h => exact h.elim
  | yield l h => exact h.elim
  | cptr es i off h ih => simp only [IV.ren, renE_map]; rw [map_id_of (fun j hj => map_id_of (fun k hk => ih j k hj hk))]
  | fslice es h ih => simp only [IV.ren, renE_map]; rw [map_id_of (fun j hj => map_id_of (fun k hk => ih j k hj hk))]
  | func fn fs cs hf hc ih1 ih2 => simp only [IV.ren, renL_map]; rw [map_id_of ih1, map_id_of ih2]
  | agg cs h ih => simp only [IV.ren, renL_map]; rw [map_id_of ih]
  | tuple cs h ih => simp only [IV.ren, renL_map]; rw [map_id_of ih]
  | _ => rfl

structure Cut (L0 : List Slot) (L1 : List Slot) (v : IV) : Prop where
  len : L0.length ≤ L1.length
  live : ∀ b, b < L0.length → ∀ s, L1[b]? = some s → (s = .dead ∨ ∃ sz es, s = .live sz es ∧ ∀ (j k : Nat) (h : j < es.length) (h' : k < es[j].length), Inn (fun b => b < L0.length) es[j][k])
  val : Inn (fun b => b < L0.length) v

/-- What a function leaves: of its memory only what was there before. -/
inductive FinP (res : List IRes) (L0 : List Slot) (v : IV) (L2 : List Slot) (e : IEx) (E1 : Env) (L1 : List Slot) : Prop
  | intro (u : IV) (he : e = .ret ∨ e = .normal) (hr : resultsI (Heap.of L1) E1 res = some u) (hL : L1.take L0.length = L2) (hz : Frz (Heap.of L1) (Heap.of L2) u v) (hc : Cut L0 L1 v) : FinP res L0 v L2 e E1 L1

theorem of_some {L : List Slot} {b : Nat} {s : Slot} (h : (Heap.of L) b = s) (hs : s ≠ .free) : L[b]? = some s := by
  simp only [Heap.of] at h
  split at h
  · rename_i s' h'; rw [h', h]
  · exact absurd h.symm hs

theorem fin_call {T : Sys} {f : FuncId} {fn : IFunc} (hT : T.fn f = some fn) {fs cs args : List IV} {L0 L2 L1 : List Slot} {v : IV} {e : IEx} {E1 : Env}
    (h1 : Ev T (.code (Sk L0.length) fn.body (argEnv (fs ++ args ++ cs)) (Heap.of L0)) (.code e E1 (Heap.of L1))) (h2 : FinP fn.res L0 v L2 e E1 L1) : Ev T (.call (.func (.func f) fs cs) args (Heap.of L0)) (.call v (Heap.of L2)) := by
  cases h2 with
  | intro u he hr hL hz hc =>
  subst hL
  have get : ∀ b, (Heap.of (L1.take L0.length)) b = if b < L0.length then (Heap.of L1) b else .free := by
    intro b
    by_cases hb : b < L0.length
    · rw [if_pos hb]; simp only [Heap.of]; rw [List.getElem?_take_of_lt hb]
    · rw [if_neg hb]; simp only [Heap.of]; rw [List.getElem?_eq_none (by simp; omega)]
  have named : ∀ b, b < L0.length → (Heap.of (L1.take L0.length)).named b := by
    intro b hb
    simp only [Heap.named, get, if_pos hb]
    have hb' : b < L1.length := Nat.lt_of_lt_of_le hb hc.len
    rcases hc.live b hb _ (List.getElem?_eq_getElem hb') with q | ⟨sz, es, q, _⟩
    · simp only [Heap.of, List.getElem?_eq_getElem hb', q]; simp
    · simp only [Heap.of, List.getElem?_eq_getElem hb', q]; simp
  refine .func hT (fun b hb => Classical.byContradiction fun q => hb (by simp only [Heap.of]; rw [List.getElem?_eq_none (by simp only [Sk] at q; omega)])) h1 he hr hz ⟨fun b => ?_, fun b hb => ?_, fun b sz es hb => ?_, fun b => ?_, hc.val.mono named⟩
  · by_cases hb : b < L0.length
    · exact .inl (by rw [get, if_pos hb])
    · refine .inr (.inl ⟨by rw [get, if_neg hb], ?_⟩)
      simp only [Heap.of]; rw [List.getElem?_eq_none (by omega)]
  · apply named
    apply Classical.byContradiction
    intro q
    exact hb (by simp only [Heap.of]; rw [List.getElem?_eq_none (by omega)])
  · right
    rw [get] at hb
    split at hb
    · rename_i hlt
      have := of_some hb (by simp)
      rcases hc.live b hlt _ this with q | ⟨sz', es', q, q'⟩
      · cases q
      · cases q
        exact fun j k hj hk => (q' j k hj hk).mono named
    · cases hb
  · rw [get]
    split
    · rename_i hlt
      have hb' : b < L1.length := Nat.lt_of_lt_of_le hlt hc.len
      rcases hc.live b hlt _ (List.getElem?_eq_getElem hb') with q | ⟨sz, es, q, _⟩
      · simp only [Heap.of, List.getElem?_eq_getElem hb', q]; rfl
      · simp only [Heap.of, List.getElem?_eq_getElem hb', q]; rfl
    · rfl

theorem run_fun {T : Sys} {f : FuncId} {fn : IFunc} (hT : T.fn f = some fn) {fs cs args : List IV} {L0 L2 : List Slot} {v : IV}
    (h : wpC T L0.length fn.body (argEnv (fs ++ args ++ cs)) L0 (FinP fn.res L0 v L2)) : Ev T (.call (.func (.func f) fs cs) args (Heap.of L0)) (.call v (Heap.of L2)) := by
  obtain ⟨e, E1, L1, h1, h2⟩ := wpC_sound h
  exact fin_call hT h1 h2

/-- What a function answers that takes no memory of its own. -/
inductive PureP (res : List IRes) (v : IV) (e : IEx) (E1 : Env) (L1 : List Slot) : Prop
  | intro (u : IV) (he : e = .ret ∨ e = .normal) (hr : resultsI (Heap.of L1) E1 res = some u) (hz : Frz (Heap.of L1) (Heap.of []) u v) : PureP res v e E1 L1

theorem run_pure {T : Sys} {f : FuncId} {fn : IFunc} (hT : T.fn f = some fn) {args : List IV} {v : IV} (hv : Noname v) (ha : ∀ x ∈ args, Noname x)
    (h : wpC T 0 fn.body (argEnv args) [] (PureP fn.res v)) (H : Heap) : Ev T (.call (.func (.func f) [] []) args H) (.call v H) := by
  obtain ⟨e, E1, L1, h1, h2⟩ := wpC_sound h
  cases h2 with
  | intro u he hr hz =>
  have h0 : Ev T (.call (.func (.func f) [] []) args (Heap.of [])) (.call v (Heap.of [])) :=
    fin_call (L0 := []) hT (fs := []) (cs := []) (by simpa using h1) (.intro u he hr rfl hz ⟨Nat.zero_le _, fun b hb => absurd hb (Nat.not_lt_zero b), hv.inn _⟩)
  refine .frame (.func _ _ _ (fun i h => by simp at h) (fun i h => by simp at h)) (fun x hx => (ha x hx).inn _) ⟨fun b sz es hb => by simp [Heap.of] at hb, fun b _ _ _ _ _ _ hb => by simp [Heap.of] at hb⟩ h0 (fun b => .inr ⟨?_, ?_, rfl⟩) (.inr (fun b => rfl))
  · simp [Heap.of]
  · simp [Heap.of]

/-- .. some answer. -/
inductive SomeP (res : List IRes) (P : IV → Prop) (e : IEx) (E1 : Env) (L1 : List Slot) : Prop
  | intro (v u : IV) (hP : P v) (hn : Noname v) (he : e = .ret ∨ e = .normal) (hr : resultsI (Heap.of L1) E1 res = some u) (hz : Frz (Heap.of L1) (Heap.of []) u v) : SomeP res P e E1 L1
theorem run_some {T : Sys} {f : FuncId} {fn : IFunc} (hT : T.fn f = some fn) {args : List IV} {P : IV → Prop} (ha : ∀ x ∈ args, Noname x)
    (h : wpC T 0 fn.body (argEnv args) [] (SomeP fn.res P)) : ∃ v, P v ∧ Noname v ∧ ∀ H, Ev T (.call (.func (.func f) [] []) args H) (.call v H) := by
  obtain ⟨e, E1, L1, h1, h2⟩ := wpC_sound h
  cases h2 with
  | intro v u hP hv he hr hz =>
  have h0 : Ev T (.call (.func (.func f) [] []) args (Heap.of [])) (.call v (Heap.of [])) :=
    fin_call (L0 := []) hT (fs := []) (cs := []) (by simpa using h1) (.intro u he hr rfl hz ⟨Nat.zero_le _, fun b hb => absurd hb (Nat.not_lt_zero b), hv.inn _⟩)
  refine ⟨v, hP, hv, fun H => ?_⟩
  refine .frame (.func _ _ _ (fun i h => by simp at h) (fun i h => by simp at h)) (fun x hx => (ha x hx).inn _) ⟨fun b sz es hb => by simp [Heap.of] at hb, fun b _ _ _ _ _ _ hb => by simp [Heap.of] at hb⟩ h0 (fun b => .inr ⟨?_, ?_, rfl⟩) (.inr (fun b => rfl))
  · simp [Heap.of]
  · simp [Heap.of]

def NonameS : Slot → Prop
  | .live _ es => ∀ e ∈ es, ∀ x ∈ e, Noname x
  | .dead => True
  | _ => False
theorem NonameS.ren {π : Nat → Nat} {s : Slot} (h : NonameS s) : s.ren π = s := by
  cases s with
  | live sz es =>
    simp only [Slot.ren, renE_map]
    rw [map_id_of (fun j hj => map_id_of (fun k hk => Noname.ren (h _ (List.getElem_mem hj) _ (List.getElem_mem hk))))]
  | loop E ps aa bd st pd => exact h.elim
  | _ => rfl
theorem NonameS.noLoop {s : Slot} (h : NonameS s) : s.isLoop = false := by
  cases s with
  | loop => exact h.elim
  | _ => rfl
theorem NonameS.free {s : Slot} (h : NonameS s) : s ≠ .free := by rintro rfl; exact h

/-- A function with one block of its caller's. -/
theorem lift_one {T : Sys} {f : FuncId} {i off : Nat} {args : List IV} {v : IV} {s s' : Slot} (hv : Noname v) (ha : ∀ x ∈ args, Noname x) (hs : NonameS s) (hs' : NonameS s')
    (h0 : Ev T (.call (.func (.func f) [] []) (.ptr 0 i off :: args) (Heap.of [s])) (.call v (Heap.of [s']))) (H : Heap) {b : Nat} (hb : H b = s) : Ev T (.call (.func (.func f) [] []) (.ptr b i off :: args) H) (.call v (H.set b s')) := by
  have h1 := Ev.ren 0 b h0
  have e1 : (IV.func (.func f) [] []).ren (sw 0 b) = .func (.func f) [] [] := rfl
  have e2 : (IV.ptr 0 i off :: args).map (IV.ren (sw 0 b)) = .ptr b i off :: args := by
    rw [List.map_cons, map_id_of (fun j hj => (ha _ (List.getElem_mem hj)).ren)]
    rfl
  rw [e1, e2, hv.ren] at h1
  have one : ∀ s : Slot, NonameS s → ∀ c, ((Heap.of [s]).ren 0 b) c = if c = b then s else .free := by
    intro s hs c
    simp only [Heap.ren]
    by_cases q : c = b
    · subst q
      have : sw 0 c c = 0 := by unfold sw; split <;> simp_all
      rw [if_pos rfl, this]
      exact hs.ren
    · rw [if_neg q]
      have : ∃ z, sw 0 b c = z + 1 := by
        unfold sw
        split
        · rename_i h0; exact ⟨b - 1, by omega⟩
        · exact ⟨c - 1, by omega⟩
      obtain ⟨z, hz⟩ := this
      rw [hz]; rfl
  have nb : ((Heap.of [s]).ren 0 b).named b := by simp only [Heap.named, one s hs, if_true]; exact hs.free
  refine .frame (.func _ _ _ (fun i h => by simp at h) (fun i h => by simp at h)) (fun x hx => ?_) ⟨fun c sz es hc j k hj hk => ?_, fun c E ps aa bd st pd hc => ?_⟩ h1 (fun c => ?_) (.inr fun c => ?_)
  · rcases List.mem_cons.mp hx with rfl | hx
    · exact .ptr b i off nb
    · exact (ha x hx).inn _
  · rw [one s hs] at hc
    split at hc
    · subst hc
      exact (hs _ (List.getElem_mem hj) _ (List.getElem_mem hk)).inn _
    · cases hc
  · rw [one s hs] at hc
    split at hc
    · subst hc; exact hs.elim
    · cases hc
  · rw [one s hs, one s' hs']
    by_cases q : c = b
    · subst q
      exact .inl ⟨by rw [if_pos rfl]; exact hb, by rw [if_pos rfl, Heap.set_same]⟩
    · exact .inr ⟨if_neg q, if_neg q, Heap.set_ne _ _ q⟩
  · rw [one s hs]
    split
    · exact hs.noLoop
    · rfl

theorem run_one {T : Sys} {f : FuncId} {fn : IFunc} (hT : T.fn f = some fn) {i off : Nat} {args : List IV} {v : IV} {s s' : Slot} (hv : Noname v) (ha : ∀ x ∈ args, Noname x) (hs : NonameS s) (hs' : NonameS s')
    (h : wpC T 1 fn.body (argEnv (.ptr 0 i off :: args)) [s] (FinP fn.res [s] v [s'])) (H : Heap) {b : Nat} (hb : H b = s) : Ev T (.call (.func (.func f) [] []) (.ptr b i off :: args) H) (.call v (H.set b s')) :=
  lift_one hv ha hs hs' (run_fun hT (fs := []) (cs := []) (by simpa using h)) H hb
/-- .. some answer, some state of the block. -/
inductive SomeP1 (res : List IRes) (s : Slot) (P : IV → Slot → Prop) (e : IEx) (E1 : Env) (L1 : List Slot) : Prop
  | intro (v : IV) (s' : Slot) (hP : P v s') (hv : Noname v) (hs : NonameS s') (h : FinP res [s] v [s'] e E1 L1) : SomeP1 res s P e E1 L1
theorem run_one_some {T : Sys} {f : FuncId} {fn : IFunc} (hT : T.fn f = some fn) {i off : Nat} {args : List IV} {s : Slot} {P : IV → Slot → Prop} (ha : ∀ x ∈ args, Noname x) (hs : NonameS s)
    (h : wpC T 1 fn.body (argEnv (.ptr 0 i off :: args)) [s] (SomeP1 fn.res s P)) : ∃ v s', P v s' ∧ Noname v ∧ NonameS s' ∧ ∀ (H : Heap) (b : Nat), H b = s → Ev T (.call (.func (.func f) [] []) (.ptr b i off :: args) H) (.call v (H.set b s')) := by
  obtain ⟨e, E1, L1, h1, h2⟩ := wpC_sound h
  cases h2 with
  | intro v s' hP hv hs' hf =>
  exact ⟨v, s', hP, hv, hs', fun H b hb => lift_one hv ha hs hs' (fin_call hT (fs := []) (cs := []) (by simpa using h1) hf) H hb⟩

/-- A function that hands back a new block. -/
inductive NewP (res : List IRes) (P : IV → Nat → Slot → Prop) (e : IEx) (E1 : Env) (L1 : List Slot) : Prop
  | intro (v : IV) (k : Nat) (s : Slot) (hP : P v k s) (he : e = .ret ∨ e = .normal) (hr : resultsI (Heap.of L1) E1 res = some v) (hk : L1[k]? = some s) (hs : NonameS s) (hv : Inn (fun b => b = k) v) : NewP res P e E1 L1
theorem run_new {T : Sys} {f : FuncId} {fn : IFunc} (hT : T.fn f = some fn) {args : List IV} {P : IV → Nat → Slot → Prop} (ha : ∀ x ∈ args, Noname x) (h : wpC T 0 fn.body (argEnv args) [] (NewP fn.res P)) :
    ∃ v k s, P v k s ∧ NonameS s ∧ ∀ (H : Heap) (n : Nat), H n = .free → Ev T (.call (.func (.func f) [] []) args H) (.call (v.ren (sw k n)) (H.set n s)) := by
  obtain ⟨e, E1, L1, h1, h2⟩ := wpC_sound h
  cases h2 with
  | intro v k s hP he hr hk hs hv =>
  refine ⟨v, k, s, hP, hs, fun H n hn => ?_⟩
  have e0 : ∀ b, (Heap.of []) b = .free := fun b => rfl
  have ek : ∀ b, ((Heap.of []).set k s) b = if b = k then s else .free := fun b => rfl
  have hne := hs.free
  have h0 : Ev T (.call (.func (.func f) [] []) args (Heap.of [])) (.call v ((Heap.of []).set k s)) := by
    refine .func hT (fs := []) (cs := []) (S := Sk 0) (fun b hb => absurd (e0 b) hb) (by simpa using h1) he hr (.refl v) ⟨fun b => ?_, fun b hb => absurd (e0 b) hb, fun b sz es hb => .inr (fun j i hj hi => ?_), fun b => ?_, hv.mono (fun b hb => ?_)⟩
    · rw [ek]
      by_cases q : b = k
      · subst q; exact .inl (by rw [if_pos rfl, Heap.of_get hk])
      · exact .inr (.inl ⟨if_neg q, e0 b⟩)
    · rw [ek] at hb
      split at hb
      · subst hb; exact (hs _ (List.getElem_mem hj) _ (List.getElem_mem hi)).inn _
      · cases hb
    · rw [ek]
      split
      · exact hs.noLoop
      · rfl
    · subst hb
      simp only [Heap.named, ek, if_true]; exact hne
  have h3 := Ev.ren k n h0
  have e1 : (IV.func (.func f) [] []).ren (sw k n) = .func (.func f) [] [] := rfl
  have e2 : args.map (IV.ren (sw k n)) = args := map_id_of (fun j hj => (ha _ (List.getElem_mem hj)).ren)
  rw [e1, e2] at h3
  have r0 : ∀ b, ((Heap.of []).ren k n) b = .free := fun b => rfl
  have r1 : ∀ b, (((Heap.of []).set k s).ren k n) b = if b = n then s else .free := by
    intro b
    simp only [Heap.ren, ek]
    by_cases q : b = n
    · subst q
      have : sw k b b = k := by unfold sw; split <;> simp_all
      rw [this, if_pos rfl, if_pos rfl, hs.ren]
    · rw [if_neg q]
      have : sw k n b ≠ k := by
        unfold sw
        split
        · rename_i hb; intro hq; exact q (by rw [hb, hq])
        · assumption
      rw [if_neg this]; rfl
  refine .frame (.func _ _ _ (fun i h => by simp at h) (fun i h => by simp at h)) (fun x hx => (ha x hx).inn _) ⟨fun b sz es hb => (by rw [r0] at hb; cases hb), fun b E ps aa bd st pd hb => (by rw [r0] at hb; cases hb)⟩ h3 (fun b => ?_) (.inr fun b => by rw [r0]; rfl)
  rw [r0, r1]
  by_cases q : b = n
  · subst q; exact .inl ⟨hn, by rw [if_pos rfl, Heap.set_same]⟩
  · exact .inr ⟨rfl, if_neg q, Heap.set_ne _ _ q⟩

def Slot.used : Slot → Bool
  | .free => false
  | _ => true
theorem CallP.new {T : Sys} {f : IV} {args : List IV} {L : List Slot} {K : IV → List Slot → Prop} {v : Nat → IV} {s : Slot} (h : ∀ (H : Heap) (n : Nat), H n = .free → Ev T (.call f args H) (.call (v n) (H.set n s)))
    (k : litK L.length fun n => snocK L s (K (v n))) : CallP T f args L K := by
  rw [litK_eq, snocK_eq] at k
  exact .intro _ _ (by rw [Heap.of_snoc]; exact h _ _ (Heap.of_free L)) k
theorem CallP.pure {T : Sys} {f : IV} {args : List IV} {L : List Slot} {K : IV → List Slot → Prop} {v : IV} (h : ∀ H, Ev T (.call f args H) (.call v H)) (k : K v L) : CallP T f args L K := .intro v L (h _) k
/-- .. a truth. -/
theorem CallP.dec {T : Sys} {f : IV} {args : List IV} {L : List Slot} {K : IV → List Slot → Prop} {p : Prop} [inst : Decidable p] (h : ∀ H, Ev T (.call f args H) (.call (.bool (decide p)) H)) (k1 : p → K (.bool true) L) (k2 : ¬ p → K (.bool false) L) : CallP T f args L K := by
  by_cases q : p
  · have e := decide_eq_true q
    exact .intro (.bool true) L (by rw [← e]; exact h _) (k1 q)
  · have e := decide_eq_false q
    exact .intro (.bool false) L (by rw [← e]; exact h _) (k2 q)
theorem CallP.one {T : Sys} {f : IV} {args : List IV} {L : List Slot} {K : IV → List Slot → Prop} {v : IV} {b : Nat} {s s' : Slot} (h : ∀ H : Heap, H b = s → Ev T (.call f args H) (.call v (H.set b s'))) (hL : L[b]? = some s)
    (k : setK L b s' (K v)) : CallP T f args L K := by
  obtain ⟨h1, h2⟩ := setK_elim k
  exact .intro v _ (by rw [Heap.of_set h1]; exact h _ (Heap.of_get hL)) h2

/-- The function's code, in its caller's memory. -/
theorem CallP.inl {T : Sys} {f : FuncId} {fn : IFunc} (hT : T.fn f = some fn) {fs cs args : List IV} {L : List Slot} {K : IV → List Slot → Prop} (hL : L.all Slot.used = true)
    (h : wpC T L.length fn.body (argEnv (fs ++ (args ++ cs))) L (fun e E1 L1 => match e with
      | .ret => onSome (resultsI (Heap.of L1) E1 fn.res) fun u => force u fun u => K u L1
      | .normal => onSome (resultsI (Heap.of L1) E1 fn.res) fun u => force u fun u => K u L1
      | .exit _ => False)) : CallP T (.func (.func f) fs cs) args L K := by
  rw [← List.append_assoc] at h
  obtain ⟨e, E1, L1, h1, h2⟩ := wpC_sound h
  have hS : ∀ b, (Heap.of L) b ≠ .free → Sk L.length b := fun b hb => Classical.byContradiction fun q => hb (by simp only [Heap.of]; rw [List.getElem?_eq_none (by simp only [Sk] at q; omega)])
  have hS' : ∀ b, Sk L.length b → (Heap.of L) b ≠ .free := by
    intro b hb
    have hb' : b < L.length := hb
    rw [List.all_eq_true] at hL
    have := hL _ (List.getElem_mem hb')
    simp only [Heap.of, List.getElem?_eq_getElem hb']
    intro q
    rw [q] at this
    cases this
  cases e with
  | ret =>
    obtain ⟨u, hu, hk⟩ := h2.elim
    rw [force_eq] at hk
    exact .intro u L1 (.funcA hT hS hS' h1 (.inl rfl) hu) hk
  | normal =>
    obtain ⟨u, hu, hk⟩ := h2.elim
    rw [force_eq] at hk
    exact .intro u L1 (.funcA hT hS hS' h1 (.inr rfl) hu) hk
  | exit id => exact h2.elim

def chkE (E : Env) : List (Nat × IV) → Prop
  | [] => True
  | p :: l => E p.1 = p.2 ∧ chkE E l
def chkI (S : Nat → Prop) : List (Nat × IV) → Prop
  | [] => True
  | p :: l => Inn S p.2 ∧ chkI S l
theorem chkE_le {E : Env} : ∀ {l : List (Nat × IV)}, chkE E l → ∀ t, envL l t = .undef ∨ envL l t = E t
  | [], _, _ => .inl rfl
  | p :: l, h, t => by
    simp only [envL, ep]
    split
    · rename_i q
      have := Nat.eq_of_beq_eq_true q
      subst this
      exact .inr h.1.symm
    · exact chkE_le h.2 t
theorem chkI_inn {S : Nat → Prop} : ∀ {l : List (Nat × IV)}, chkI S l → ∀ t, Inn S (envL l t)
  | [], _, _ => .undef
  | p :: l, h, t => by
    simp only [envL, ep]
    split
    · exact h.1
    · exact chkI_inn h.2 t
/-- .. or frozen. -/
def chkF (H1 H2 : Heap) (E : Env) : List (Nat × IV) → Prop
  | [] => True
  | p :: l => Frz H1 H2 (E p.1) p.2 ∧ chkF H1 H2 E l
theorem chkF_of {H1 H2 : Heap} {E : Env} : ∀ {l : List (Nat × IV)}, chkE E l → chkF H1 H2 E l
  | [], _ => trivial
  | p :: l, h => ⟨by rw [h.1]; exact .refl _, chkF_of h.2⟩
theorem chkF_le {H1 H2 : Heap} {E : Env} : ∀ {l : List (Nat × IV)}, chkF H1 H2 E l → ∀ t, envL l t = .undef ∨ Frz H1 H2 (E t) (envL l t)
  | [], _, _ => .inl rfl
  | p :: l, h, t => by
    simp only [envL, ep]
    split
    · rename_i q
      have := Nat.eq_of_beq_eq_true q
      subst this
      exact .inr h.1
    · exact chkF_le h.2 t
def chkS (S : Nat → Prop) : List Slot → Prop
  | [] => True
  | .live _ es :: l => (∀ (j k : Nat) (h : j < es.length) (h' : k < es[j].length), Inn S es[j][k]) ∧ chkS S l
  | .dead :: l => chkS S l
  | .loop E _ _ _ _ _ :: l => (∀ t, Inn S (E t)) ∧ chkS S l
  | .free :: _ => False
theorem chkS_get {S : Nat → Prop} : ∀ {l : List Slot}, chkS S l → ∀ (b : Nat) (s : Slot), l[b]? = some s → s ≠ .free ∧ (∀ sz es, s = .live sz es → ∀ (j k : Nat) (h : j < es.length) (h' : k < es[j].length), Inn S es[j][k]) ∧ ∀ E ps aa bd st pd, s = .loop E ps aa bd st pd → ∀ t, Inn S (E t)
  | [], _, _, _, h => by simp at h
  | x :: l, hc, b, s, h => by
    cases b with
    | zero =>
      simp only [List.getElem?_cons_zero, Option.some.injEq] at h
      subst h
      cases x with
      | live sz es => exact ⟨by simp, fun _ _ q => (by cases q; exact hc.1), fun _ _ _ _ _ _ q => (by cases q)⟩
      | dead => exact ⟨by simp, fun _ _ q => (by cases q), fun _ _ _ _ _ _ q => (by cases q)⟩
      | free => exact hc.elim
      | loop => exact ⟨by simp, fun _ _ q => (by cases q), fun _ _ _ _ _ _ q => (by cases q; exact hc.1)⟩
    | succ b =>
      simp only [List.getElem?_cons_succ] at h
      cases x with
      | live sz es => exact chkS_get hc.2 b s h
      | dead => exact chkS_get (l := l) hc b s h
      | free => exact hc.elim
      | loop => exact chkS_get hc.2 b s h

inductive BodyP {X : Type} (st : X → List (Nat × IV)) (hp : X → List Slot) (μ : X → Nat) (I : X → Prop) (x : X) (Q : IEx → Env → List Slot → Prop) (e : IEx) (E1 : Env) (L1 : List Slot) : Prop
  | more (y : X) (he : e = .normal) (hI : I y) (hμ : μ y < μ x) (hE : chkE E1 (st y)) (hL : L1.take (hp x).length = hp y) (hi : chkI (fun b => b < (hp x).length) (st y)) (hs : chkS (fun b => b < (hp x).length) (hp y)) : BodyP st hp μ I x Q e E1 L1
  | moreF (y : X) (he : e = .normal) (hI : I y) (hμ : μ y < μ x) (hE : chkF (Heap.of L1) (Heap.of (hp y)) E1 (st y)) (hL : L1.take (hp x).length = hp y) (hi : chkI (fun b => b < (hp x).length) (st y)) (hs : chkS (fun b => b < (hp x).length) (hp y)) : BodyP st hp μ I x Q e E1 L1
  | done (he : e ≠ .normal) (h : Q e E1 L1) : BodyP st hp μ I x Q e E1 L1

theorem loop_rule {T : Sys} {k0 : Nat} {c : IC} {E : Env} {L : List Slot} {Q : IEx → Env → List Slot → Prop} {X : Type} (st : X → List (Nat × IV)) (hp : X → List Slot) (μ : X → Nat) (I : X → Prop) (x0 : X) (hI : I x0) (hE : chkE E (st x0)) (hL : L = hp x0)
    (hlen : ∀ x y, (hp x).length = (hp y).length) (body : ∀ x, I x → wpC T k0 c (envL (st x)) (hp x) (BodyP st hp μ I x Q)) (hk : ∀ x, Nat.ble k0 (hp x).length = true := by exact fun _ => rfl) : LoopP T k0 (.loop c) E L Q := by
  have key : ∀ n x, μ x = n → I x → ∃ e E1 L1, Ev T (.code (Sk k0) (.loop c) (envL (st x)) (Heap.of (hp x))) (.code e E1 (Heap.of L1)) ∧ Q e E1 L1 := by
    intro n
    induction n using Nat.strongRecOn with
    | _ n ih =>
      intro x hn hI
      obtain ⟨e, E1, L1, h1, h2⟩ := wpC_sound (body x hI)
      have next : ∀ y, e = .normal → I y → μ y < μ x → chkF (Heap.of L1) (Heap.of (hp y)) E1 (st y) → L1.take (hp x).length = hp y → chkI (fun b => b < (hp x).length) (st y) → chkS (fun b => b < (hp x).length) (hp y) →
          ∃ e E1 L1, Ev T (.code (Sk k0) (.loop c) (envL (st x)) (Heap.of (hp x))) (.code e E1 (Heap.of L1)) ∧ Q e E1 L1 := by
        intro y he hI hμ hE hL hi hs
        subst he
        obtain ⟨e, E2, L2, h3, h4⟩ := ih (μ y) (hn ▸ hμ) y rfl hI
        have hly := hlen y x
        have inn : ∀ z, Inn (fun b => b < (hp x).length) z → Inn (Heap.of (hp y)).named z := by
          intro z hz
          refine hz.mono (fun b hb => ?_)
          have hb' : b < (hp y).length := by rw [hly]; exact hb
          simp only [Heap.named, Heap.of, List.getElem?_eq_getElem hb']
          exact (chkS_get hs b _ (List.getElem?_eq_getElem hb')).1
        refine ⟨e, E2, L2, .loopN (.forget h1 (chkF_le hE) (fun b => ?_) (fun t => inn _ (chkI_inn hi t)) ⟨fun b sz es hb j k hj hk => ?_, fun b E ps aa bd st pd hb t => ?_⟩) h3, h4⟩
        · rcases Nat.lt_or_ge b (hp x).length with q | q
          · left
            rw [← hL]
            simp only [Heap.of]
            rw [List.getElem?_take_of_lt q]
            exact .refl _
          · right
            simp only [Heap.of]
            rw [List.getElem?_eq_none (by omega)]
            have := Nat.le_of_ble_eq_true (hk x)
            exact ⟨rfl, by simp only [Sk]; omega⟩
        · exact inn _ ((chkS_get hs b _ (of_some hb (by simp))).2.1 sz es rfl j k hj hk)
        · exact inn _ ((chkS_get hs b _ (of_some hb (by simp))).2.2 _ _ _ _ _ _ rfl t)
      cases h2 with
      | done he h => exact ⟨e, E1, L1, .loopX h1 he, h⟩
      | more y he hI hμ hE hL hi hs => exact next y he hI hμ (chkF_of hE) hL hi hs
      | moreF y he hI hμ hE hL hi hs => exact next y he hI hμ hE hL hi hs
  obtain ⟨e, E1, L1, h1, h2⟩ := key _ x0 rfl hI
  subst hL
  exact .intro e E1 L1 (.weak (chkE_le hE) h1) h2

/-- One round more. -/
theorem loop_step {T : Sys} {k0 : Nat} {c : IC} {E : Env} {L : List Slot} {Q : IEx → Env → List Slot → Prop} (h : wpC T k0 c E L (fun e E1 L1 => match e with
    | .normal => LoopP T k0 (.loop c) E1 L1 Q
    | .exit id => Q (.exit id) E1 L1
    | .ret => Q .ret E1 L1)) : LoopP T k0 (.loop c) E L Q := by
  obtain ⟨e, E1, L1, h1, h2⟩ := wpC_sound h
  cases e with
  | normal =>
    cases h2 with
    | intro e E2 L2 h3 k => exact .intro e E2 L2 (.loopN h1 h3) k
  | exit id => exact .intro _ E1 L1 (.loopX h1 (by simp)) h2
  | ret => exact .intro _ E1 L1 (.loopX h1 (by simp)) h2

/-- Which slot a name has, when the blocks kept.. are the first ones. -/
def pick : List Nat → List Slot → Nat → Slot
  | k :: ks, s :: ss, b => match Nat.beq k b with
    | true => s
    | false => pick ks ss b
  | _, _, _ => .free
theorem pick_free : ∀ {ks : List Nat} {Ls : List Slot} {b : Nat}, b ∉ ks → pick ks Ls b = .free
  | [], _, _, _ => by unfold pick; rfl
  | k :: ks, [], _, _ => by unfold pick; rfl
  | k :: ks, s :: ss, b, h => by
    simp only [List.mem_cons, not_or] at h
    unfold pick
    split
    · rename_i q; exact absurd (Nat.eq_of_beq_eq_true q).symm h.1
    · exact pick_free h.2
/-- Each name stands at its new place, or above. -/
structure KOk (i : Nat) (ks : List Nat) : Prop where
  nd : ks.Nodup
  ge : ∀ (j b : Nat), ks[j]? = some b → i + j ≤ b
theorem KOk.cons {i k : Nat} {ks : List Nat} (h : KOk i (k :: ks)) : i ≤ k ∧ k ∉ ks ∧ KOk (i + 1) ks := by
  have hn := List.nodup_cons.mp h.nd
  exact ⟨by simpa using h.ge 0 k rfl, hn.1, hn.2, fun j b hj => by have := h.ge (j + 1) b (by simpa using hj); omega⟩
theorem KOk.all {i : Nat} {ks : List Nat} (h : KOk i ks) : ∀ b ∈ ks, i ≤ b := fun b hb => by
  obtain ⟨j, hj, rfl⟩ := List.getElem_of_mem hb
  have := h.ge j _ (List.getElem?_eq_getElem hj)
  omega
theorem pick_at : ∀ {ks : List Nat} {Ls : List Slot} {i b : Nat} {s : Slot}, ks.Nodup → ks[i]? = some b → Ls[i]? = some s → pick ks Ls b = s
  | [], _, _, _, _, _, h, _ => by simp at h
  | _ :: _, [], _, _, _, _, _, h => by simp at h
  | k :: ks, s :: ss, 0, b, t, _, h, h' => by
    simp only [List.getElem?_cons_zero, Option.some.injEq] at h h'
    subst h; subst h'
    unfold pick
    rw [Nat.beq_refl]
  | k :: ks, s :: ss, i + 1, b, t, hp, h, h' => by
    simp only [List.getElem?_cons_succ] at h h'
    rw [List.nodup_cons] at hp
    have := List.mem_of_getElem? h
    unfold pick
    split
    · rename_i q; have := Nat.eq_of_beq_eq_true q; subst this; exact absurd (List.mem_of_getElem? h) hp.1
    · exact pick_at hp.2 h h'
def pickH (kept : List Nat) (Ls : List Slot) : Heap where
  at_ := pick kept Ls
  fin := by
    refine ⟨kept.foldr max 0 + 1, fun m hm => pick_free fun h => ?_⟩
    have : ∀ l : List Nat, m ∈ l → m ≤ l.foldr max 0 := by
      intro l
      induction l with
      | nil => intro h; cases h
      | cons x xs ih =>
        intro h
        simp only [List.foldr_cons]
        rcases List.mem_cons.mp h with rfl | h
        · omega
        · have := ih h; omega
    have := this kept h
    omega

/-- What becomes of a value. -/
inductive Mv (kept : List Nat) (H1 H2 : Heap) : IV → IV → Prop
  | nn {x y : IV} (h : Noname y) (k : Frz H1 H2 x y) : Mv kept H1 H2 x y
  | ms {b i off len lb : Nat} {ex : Bool} (h : kept[i]? = some b) : Mv kept H1 H2 (.mslice b off len lb ex) (.mslice i off len lb ex)
  | pt {b i j off : Nat} (h : kept[i]? = some b) : Mv kept H1 H2 (.ptr b j off) (.ptr i j off)
  | yd {b i : Nat} (h : kept[i]? = some b) : Mv kept H1 H2 (.yield b) (.yield i)
  | agg {cs cs' : List IV} (hn : cs'.length = cs.length) (hv : ∀ (i : Nat) (h : i < cs.length) (h' : i < cs'.length), Mv kept H1 H2 cs[i] cs'[i]) : Mv kept H1 H2 (.agg cs) (.agg cs')
  | func {fn : Fn} {fs fs' cs cs' : List IV} (hn : fs'.length = fs.length) (hv : ∀ (i : Nat) (h : i < fs.length) (h' : i < fs'.length), Mv kept H1 H2 fs[i] fs'[i])
      (hm : cs'.length = cs.length) (hw : ∀ (i : Nat) (h : i < cs.length) (h' : i < cs'.length), Mv kept H1 H2 cs[i] cs'[i]) : Mv kept H1 H2 (.func fn fs cs) (.func fn fs' cs')

/-- Other names, one behind the other. -/
def renAll : List Nat → Nat → IV → IV
  | [], _, x => x
  | b :: ks, i, x => renAll ks (i + 1) (x.ren (sw i b))
def hrenAll : List Nat → Nat → Heap → Heap
  | [], _, H => H
  | b :: ks, i, H => hrenAll ks (i + 1) (H.ren i b)
def img : List Nat → Nat → Nat → Nat
  | [], _, x => x
  | b :: ks, i, x => img ks (i + 1) (sw i b x)
def pre : List Nat → Nat → Nat → Nat
  | [], _, x => x
  | b :: ks, i, x => sw i b (pre ks (i + 1) x)
theorem sw_out {a b x : Nat} (h1 : x ≠ a) (h2 : x ≠ b) : sw a b x = x := by unfold sw; rw [if_neg h1, if_neg h2]
theorem sw_left (a b : Nat) : sw a b a = b := by unfold sw; rw [if_pos rfl]
theorem sw_right (a b : Nat) : sw a b b = a := by unfold sw; split <;> simp_all
theorem pre_low : ∀ {ks : List Nat} {i x : Nat}, x < i → (∀ b ∈ ks, x < b) → pre ks i x = x
  | [], _, _, _, _ => rfl
  | b :: ks, i, x, h, hk => by
    have hb := hk b List.mem_cons_self
    rw [pre, pre_low (by omega) (fun c hc => hk c (List.mem_cons_of_mem _ hc)), sw_out (by omega) (by omega)]
theorem img_low : ∀ {ks : List Nat} {i x : Nat}, x < i → (∀ b ∈ ks, x < b) → img ks i x = x
  | [], _, _, _, _ => rfl
  | b :: ks, i, x, h, hk => by
    have hb := hk b List.mem_cons_self
    rw [img, sw_out (by omega) (by omega), img_low (by omega) (fun c hc => hk c (List.mem_cons_of_mem _ hc))]
theorem pre_at : ∀ {ks : List Nat} {i j b : Nat}, KOk i ks → ks[j]? = some b → pre ks i (i + j) = b
  | [], _, _, _, _, h => by simp at h
  | k :: ks, i, 0, b, hp, h => by
    simp only [List.getElem?_cons_zero, Option.some.injEq] at h
    subst h
    obtain ⟨h1, h2, h3⟩ := hp.cons
    show pre (k :: ks) i i = k
    rw [pre, pre_low (by omega) (fun c hc => by have := h3.all c hc; omega), sw_left]
  | k :: ks, i, j + 1, b, hp, h => by
    simp only [List.getElem?_cons_succ] at h
    obtain ⟨h1, h2, h3⟩ := hp.cons
    have hb := h3.all b (List.mem_of_getElem? h)
    have hbk : b ≠ k := fun e => h2 (e ▸ List.mem_of_getElem? h)
    have := pre_at (i := i + 1) h3 h
    rw [pre, show i + (j + 1) = i + 1 + j by omega, this, sw_out (by omega) hbk]
theorem img_at : ∀ {ks : List Nat} {i j b : Nat}, KOk i ks → ks[j]? = some b → img ks i b = i + j
  | [], _, _, _, _, h => by simp at h
  | k :: ks, i, 0, b, hp, h => by
    simp only [List.getElem?_cons_zero, Option.some.injEq] at h
    subst h
    obtain ⟨h1, h2, h3⟩ := hp.cons
    show img (k :: ks) i k = i
    rw [img, sw_right, img_low (by omega) (fun c hc => by have := h3.all c hc; omega)]
  | k :: ks, i, j + 1, b, hp, h => by
    simp only [List.getElem?_cons_succ] at h
    obtain ⟨h1, h2, h3⟩ := hp.cons
    have hb := h3.all b (List.mem_of_getElem? h)
    have hbk : b ≠ k := fun e => h2 (e ▸ List.mem_of_getElem? h)
    rw [img, sw_out (by omega) hbk, img_at (i := i + 1) h3 h]
    omega
theorem pre_inj : ∀ {ks : List Nat} {i x y : Nat}, pre ks i x = pre ks i y → x = y
  | [], _, _, _, h => h
  | b :: ks, i, x, y, h => by
    rw [pre, pre] at h
    have : sw i b (sw i b (pre ks (i + 1) x)) = sw i b (sw i b (pre ks (i + 1) y)) := by rw [h]
    rw [sw_sw, sw_sw] at this
    exact pre_inj this
theorem renAll_noname : ∀ {ks : List Nat} {i : Nat} {x : IV}, Noname x → renAll ks i x = x
  | [], _, _, _ => rfl
  | _ :: _, _, x, h => by rw [renAll, h.ren, renAll_noname h]
theorem renAll_ms : ∀ {ks : List Nat} {i b off len lb : Nat} {ex : Bool}, renAll ks i (.mslice b off len lb ex) = .mslice (img ks i b) off len lb ex
  | [], _, _, _, _, _, _ => rfl
  | k :: ks, i, b, off, len, lb, ex => by rw [renAll, img]; exact renAll_ms
theorem renAll_pt : ∀ {ks : List Nat} {i b j off : Nat}, renAll ks i (.ptr b j off) = .ptr (img ks i b) j off
  | [], _, _, _, _ => rfl
  | k :: ks, i, b, j, off => by rw [renAll, img]; exact renAll_pt
theorem renAll_yd : ∀ {ks : List Nat} {i b : Nat}, renAll ks i (.yield b) = .yield (img ks i b)
  | [], _, _ => rfl
  | k :: ks, i, b => by rw [renAll, img]; exact renAll_yd
theorem renAll_agg : ∀ {ks : List Nat} {i : Nat} {cs : List IV}, renAll ks i (.agg cs) = .agg (cs.map (renAll ks i))
  | [], _, cs => by simp [renAll]
  | k :: ks, i, cs => by rw [renAll, IV.ren, renAll_agg, renL_map, List.map_map]; rfl
theorem renAll_func : ∀ {ks : List Nat} {i : Nat} {fn : Fn} {fs cs : List IV}, renAll ks i (.func fn fs cs) = .func fn (fs.map (renAll ks i)) (cs.map (renAll ks i))
  | [], _, _, fs, cs => by simp [renAll]
  | k :: ks, i, fn, fs, cs => by rw [renAll, IV.ren, renAll_func, renL_map, renL_map, List.map_map, List.map_map]; rfl
def Slot.renAll : List Nat → Nat → Slot → Slot
  | [], _, s => s
  | b :: ks, i, s => Slot.renAll ks (i + 1) (s.ren (sw i b))
theorem Slot.renAll_free : ∀ {ks : List Nat} {i : Nat}, Slot.renAll ks i .free = .free
  | [], _ => rfl
  | _ :: ks, i => by rw [Slot.renAll]; exact Slot.renAll_free (ks := ks) (i := i + 1)
theorem Slot.renAll_noname : ∀ {ks : List Nat} {i : Nat} {s : Slot}, NonameS s → Slot.renAll ks i s = s
  | [], _, _, _ => rfl
  | _ :: _, _, s, h => by rw [Slot.renAll, h.ren, Slot.renAll_noname h]
theorem Slot.renAll_live : ∀ {ks : List Nat} {i sz : Nat} {es : Els}, Slot.renAll ks i (.live sz es) = .live sz (es.map fun e => e.map (Go.Ideal.renAll ks i))
  | [], _, _, es => by simp [Slot.renAll, Go.Ideal.renAll]
  | k :: ks, i, sz, es => by
    rw [Slot.renAll, Slot.ren, Slot.renAll_live, renE_map, List.map_map]
    congr 1
    apply List.map_congr_left
    intro e _
    simp only [Function.comp, List.map_map]
    rfl
theorem hrenAll_at : ∀ {ks : List Nat} {i : Nat} {H : Heap} (x : Nat), (hrenAll ks i H) x = (H (pre ks i x)).renAll ks i
  | [], _, _, _ => rfl
  | b :: ks, i, H, x => by
    rw [hrenAll, hrenAll_at, pre, Slot.renAll]; rfl
theorem choose_list {α : Type} {R : α → α → Prop} {Q : α → Prop} {f : α → α} : ∀ (cs cs' : List α), cs'.length = cs.length → (∀ (i : Nat) (h : i < cs.length) (h' : i < cs'.length), ∃ z, R cs[i] z ∧ Q z ∧ f z = cs'[i]) →
    ∃ zs : List α, zs.length = cs.length ∧ (∀ (i : Nat) (h : i < cs.length) (h' : i < zs.length), R cs[i] zs[i]) ∧ (∀ (i : Nat) (h' : i < zs.length), Q zs[i]) ∧ zs.map f = cs' := by
  intro cs
  induction cs with
  | nil =>
    intro cs' hn _
    obtain rfl : cs' = [] := List.length_eq_zero_iff.mp hn
    exact ⟨[], rfl, fun i h => by simp at h, fun i h => by simp at h, rfl⟩
  | cons c cs ih =>
    intro cs' hn hz
    cases cs' with
    | nil => simp at hn
    | cons c' cs' =>
      obtain ⟨z, a1, a2, a3⟩ := hz 0 (by simp) (by simp)
      obtain ⟨zs, b1, b2, b3, b4⟩ := ih cs' (by simpa using hn) (fun i h h' => hz (i + 1) (by simpa using h) (by simpa using h'))
      refine ⟨z :: zs, by simp [b1], fun i h h' => ?_, fun i h' => ?_, by simp [b4]; exact a3⟩
      · cases i with
        | zero => exact a1
        | succ i => exact b2 i (by simpa using h) (by simpa using h')
      · cases i with
        | zero => exact a2
        | succ i => exact b3 i (by simpa using h')
theorem Mv.to {kept : List Nat} {H1 H2 : Heap} (hp : KOk 0 kept) {x y : IV} (h : Mv kept H1 H2 x y) : ∃ z, Frz H1 H2 x z ∧ Inn (· ∈ kept) z ∧ renAll kept 0 z = y := by
  induction h with
  | @nn x y h k => exact ⟨y, k, h.inn _, renAll_noname h⟩
  | ms h => exact ⟨_, .refl _, .mslice _ _ _ _ _ (List.mem_of_getElem? h), by rw [renAll_ms, img_at hp h, Nat.zero_add]⟩
  | pt h => exact ⟨_, .refl _, .ptr _ _ _ (List.mem_of_getElem? h), by rw [renAll_pt, img_at hp h, Nat.zero_add]⟩
  | yd h => exact ⟨_, .refl _, .yield _ (List.mem_of_getElem? h), by rw [renAll_yd, img_at hp h, Nat.zero_add]⟩
  | @agg cs cs' hn hv ih =>
    have key : ∀ i, ∃ z, ∀ (h : i < cs.length) (h' : i < cs'.length), Frz H1 H2 cs[i] z ∧ Inn (· ∈ kept) z ∧ renAll kept 0 z = cs'[i] := by
      intro i
      by_cases h : i < cs.length
      · obtain ⟨z, hz⟩ := ih i h (by omega)
        exact ⟨z, fun _ _ => hz⟩
      · exact ⟨.undef, fun h' => absurd h' h⟩
    refine ⟨.agg ((List.range cs.length).map fun i => Classical.choose (key i)), .agg (by simp) (fun i h h' => ?_), .agg _ (fun i h => ?_), ?_⟩
    · have := Classical.choose_spec (key i) h (by omega)
      simpa using this.1
    · simp only [List.length_map, List.length_range] at h
      have := Classical.choose_spec (key i) h (by omega)
      simpa using this.2.1
    · rw [renAll_agg]
      congr 1
      apply List.ext_getElem (by simp; omega)
      intro i h h'
      have := Classical.choose_spec (key i) (by simpa using h) h'
      simpa using this.2.2
  | @func fn fs fs' cs cs' hn hv hm hw ih1 ih2 =>
    have key := @choose_list IV (Frz H1 H2) (Inn (· ∈ kept)) (renAll kept 0)
    obtain ⟨zs, a1, a2, a3, a4⟩ := key fs fs' hn ih1
    obtain ⟨us, b1, b2, b3, b4⟩ := key cs cs' hm ih2
    exact ⟨.func fn zs us, .func a1 a2 b1 b2, .func _ _ _ a3 b3, by rw [renAll_func, a4, b4]⟩
theorem Inn.ren_id {S : Nat → Prop} {π : Nat → Nat} (hS : ∀ b, S b → π b = b) {x : IV} (h : Inn S x) : x.ren π = x := by
  induction h with
  | undef => rfl
  | bool b => rfl
  | int k n => rfl
  | str s => rfl
  | nilptr => rfl
  | ptr b i off h => simp only [IV.ren, hS _ h]
  | cptr es i off h ih =>
    simp only [IV.ren, renE_map]
    rw [map_id_of (fun j hj => map_id_of (fun k hk => ih j k hj hk))]
  | nilslice => rfl
  | eslice => rfl
  | fslice es h ih =>
    simp only [IV.ren, renE_map]
    rw [map_id_of (fun j hj => map_id_of (fun k hk => ih j k hj hk))]
  | mslice b off len lb ex h => simp only [IV.ren, hS _ h]
  | func fn fs cs hf hc ih1 ih2 =>
    simp only [IV.ren, renL_map]
    rw [map_id_of ih1, map_id_of ih2]
  | yield l h => simp only [IV.ren, hS _ h]
  | nilfunc => rfl
  | agg cs h ih =>
    simp only [IV.ren, renL_map]
    rw [map_id_of ih]
  | tuple cs h ih =>
    simp only [IV.ren, renL_map]
    rw [map_id_of ih]
/-- Names that stay where they are. -/
theorem renAll_fix {S : Nat → Prop} {x : IV} (h : Inn S x) : ∀ {ks : List Nat} {i : Nat}, (∀ j k, ks[j]? = some k → ∀ b, S b → sw (i + j) k b = b) → renAll ks i x = x
  | [], _, _ => rfl
  | k :: ks, i, hs => by
    rw [renAll, h.ren_id (fun b hb => by have := hs 0 k rfl b hb; rwa [Nat.add_zero] at this)]
    exact renAll_fix h (fun j k' hj b hb => by
      have := hs (j + 1) k' (by simpa using hj) b hb
      rwa [show i + (j + 1) = i + 1 + j by omega] at this)
theorem Slot.renAll_loop : ∀ {ks : List Nat} {i : Nat} {E : Env} {ps : List Nat} {aa bd : IC} {st : LoopState} {pd : IEx}, Slot.renAll ks i (.loop E ps aa bd st pd) = .loop (fun t => Go.Ideal.renAll ks i (E t)) ps aa bd st pd
  | [], _, E, _, _, _, _, _ => by simp [Slot.renAll, Go.Ideal.renAll]
  | k :: ks, i, E, ps, aa, bd, st, pd => by
    rw [Slot.renAll, Slot.ren, Slot.renAll_loop]
    rfl
theorem stay_sw {kept : List Nat} (hp : KOk 0 kept) {b : Nat} (hb : kept[b]? = some b) : ∀ j k, kept[j]? = some k → sw (0 + j) k b = b := by
  intro j k hj
  rw [Nat.zero_add]
  by_cases q : j = b
  · subst q
    rw [hb] at hj
    cases hj
    unfold sw; split <;> simp_all
  · refine sw_out (fun e => q e.symm) (fun e => q ?_)
    subst e
    obtain ⟨h1, h2⟩ := List.getElem?_eq_some_iff.mp hj
    obtain ⟨h3, h4⟩ := List.getElem?_eq_some_iff.mp hb
    have := List.pairwise_iff_getElem.mp hp.nd
    rcases Nat.lt_trichotomy j b with c | c | c
    · exact absurd (h2.trans h4.symm) (this j b h1 h3 c)
    · exact c
    · exact absurd (h4.trans h2.symm) (this b j h3 h1 c)

/-- What becomes of a slot. -/
inductive MvS (kept : List Nat) (H1 H2 : Heap) : Slot → Slot → Prop
  | nn {s0 s : Slot} (h : NonameS s) (k : FrzS H1 H2 s0 s) : MvS kept H1 H2 s0 s
  | live {sz : Nat} {es es' : Els} (hn : es'.length = es.length) (hle : ∀ (j : Nat) (h : j < es.length) (h' : j < es'.length), es'[j].length = es[j].length)
      (hv : ∀ (j k : Nat) (h : j < es.length) (h' : j < es'.length) (hk : k < es[j].length) (hk' : k < es'[j].length), Mv kept H1 H2 es[j][k] es'[j][k]) : MvS kept H1 H2 (.live sz es) (.live sz es')
  | loop {E : Env} {ps : List Nat} {aa bd : IC} {st : LoopState} {pd : IEx} (h : ∀ t, Inn (fun b => kept[b]? = some b) (E t)) : MvS kept H1 H2 (.loop E ps aa bd st pd) (.loop E ps aa bd st pd)
def InnS (S : Nat → Prop) : Slot → Prop
  | .live _ es => ∀ (j k : Nat) (h : j < es.length) (h' : k < es[j].length), Inn S es[j][k]
  | .dead => True
  | .loop E _ _ _ _ _ => ∀ t, Inn S (E t)
  | .free => False
def Slot.isLive : Slot → Bool
  | .live .. => true
  | _ => false
theorem MvS.to {kept : List Nat} {H1 H2 : Heap} (hp : KOk 0 kept) {s0 s : Slot} (h : MvS kept H1 H2 s0 s) : ∃ z : Slot, FrzS H1 H2 s0 z ∧ InnS (· ∈ kept) z ∧ z.renAll kept 0 = s ∧ z.isLive = s.isLive := by
  cases h with
  | nn h k =>
    refine ⟨s, k, ?_, Slot.renAll_noname h, rfl⟩
    cases s with
    | live sz es => exact fun j k hj hk => (h _ (List.getElem_mem hj) _ (List.getElem_mem hk)).inn _
    | dead => trivial
    | _ => exact h.elim
  | loop h =>
    refine ⟨_, .refl _, fun t => (h t).mono (fun b hb => List.mem_of_getElem? hb), ?_, rfl⟩
    rw [Slot.renAll_loop]
    congr 1
    funext t
    exact renAll_fix (h t) (fun j k hj b hb => stay_sw hp hb j k hj)
  | @live sz es es' hn hle hv =>
    obtain ⟨zs, a1, a2, a3, a4⟩ := @choose_list (List IV) (fun r z => z.length = r.length ∧ ∀ (k : Nat) (h : k < r.length) (h' : k < z.length), Frz H1 H2 r[k] z[k]) (fun z => ∀ (k : Nat) (h' : k < z.length), Inn (· ∈ kept) z[k]) (fun e => e.map (renAll kept 0)) es es' hn (fun j h h' => by
      obtain ⟨z, b1, b2, b3, b4⟩ := @choose_list IV (Frz H1 H2) (Inn (· ∈ kept)) (renAll kept 0) es[j] es'[j] (hle j h h') (fun k hk hk' => (hv j k h h' hk hk').to hp)
      exact ⟨z, ⟨b1, b2⟩, b3, b4⟩)
    refine ⟨.live sz zs, .live a1 (fun j h h' => (a2 j h h').1) (fun j k h h' hk hk' => (a2 j h h').2 k hk hk'), fun j k h h' => a3 j h k h', ?_, rfl⟩
    rw [Slot.renAll_live, a4]
theorem InnS.free {S : Nat → Prop} {s : Slot} (h : InnS S s) : s ≠ .free := by rintro rfl; exact h
theorem Frz.mono {H1 H2 H4 : Heap} (h2 : ∀ b, (∀ sz e, H2 b ≠ .live sz e) → ∀ sz e, H4 b ≠ .live sz e) {x y : IV} (h : Frz H1 H2 x y) : Frz H1 H4 x y := by
  induction h with
  | refl x => exact .refl x
  | mslice hH hH' hl hn hle hv ih => exact .mslice hH (h2 _ hH') hl hn hle ih
  | agg hn hv ih => exact .agg hn ih
  | tuple hn hv ih => exact .tuple hn ih
  | func hn hv hm hw ih1 ih2 => exact .func hn ih1 hm ih2
  | nil => exact .nil
theorem FrzS.mono {H1 H2 H4 : Heap} (h2 : ∀ b, (∀ sz e, H2 b ≠ .live sz e) → ∀ sz e, H4 b ≠ .live sz e) {x y : Slot} (h : FrzS H1 H2 x y) : FrzS H1 H4 x y := by
  cases h with
  | refl => exact .refl _
  | live hn hle hv => exact .live hn hle (fun j k a b c d => (hv j k a b c d).mono h2)
/-- Some blocks are kept and become the first ones; others are given up. -/
theorem Ev.move {T : Sys} {k0 : Nat} {c : IC} {E : Env} {H : Heap} {e : IEx} {E1 E2 : Env} {H1 : Heap} (h : Ev T (.code (Sk k0) c E H) (.code e E1 H1)) (kept : List Nat) (Ls : List Slot) (hp : KOk 0 kept) (hk : ∀ i, i < k0 → kept[i]? = some i)
    (hl : Ls.length = kept.length) (hs : ∀ (i b : Nat) (s : Slot), kept[i]? = some b → Ls[i]? = some s → MvS kept H1 (pickH kept Ls) (H1 b) s) (hE : ∀ t, E2 t = .undef ∨ Mv kept H1 (pickH kept Ls) (E1 t) (E2 t)) :
    Ev T (.code (Sk k0) c E H) (.code e E2 (Heap.of Ls)) := by
  -- the slots ahead of the renaming
  have hz : ∀ i : Nat, ∃ z : Slot, ∀ (b : Nat) (s : Slot), kept[i]? = some b → Ls[i]? = some s → FrzS H1 (pickH kept Ls) (H1 b) z ∧ InnS (· ∈ kept) z ∧ z.renAll kept 0 = s ∧ z.isLive = s.isLive := by
    intro i
    by_cases q : i < kept.length
    · obtain ⟨z, hz⟩ := (hs i _ _ (List.getElem?_eq_getElem q) (List.getElem?_eq_getElem (by omega))).to hp
      refine ⟨z, fun b s h1 h2 => ?_⟩
      rw [List.getElem?_eq_getElem q] at h1
      rw [List.getElem?_eq_getElem (by omega)] at h2
      cases h1; cases h2
      exact hz
    · exact ⟨.free, fun b s h1 _ => by rw [List.getElem?_eq_none (by omega)] at h1; cases h1⟩
  obtain ⟨Zs, hZl, hZ⟩ : ∃ Zs : List Slot, Zs.length = kept.length ∧ ∀ (i : Nat) (z : Slot), Zs[i]? = some z → ∀ (b : Nat) (s : Slot), kept[i]? = some b → Ls[i]? = some s → FrzS H1 (pickH kept Ls) (H1 b) z ∧ InnS (· ∈ kept) z ∧ z.renAll kept 0 = s ∧ z.isLive = s.isLive := by
    refine ⟨(List.range kept.length).map fun i => Classical.choose (hz i), by simp, fun i z hi => ?_⟩
    simp only [List.getElem?_map, Option.map_eq_some_iff] at hi
    obtain ⟨j, hj, rfl⟩ := hi
    obtain ⟨hj1, hj2⟩ := List.getElem?_eq_some_iff.mp hj
    simp only [List.getElem_range] at hj2
    subst hj2
    exact Classical.choose_spec (hz i)
  have hin : ∀ b, b ∈ kept → ∃ (i : Nat) (s z : Slot), kept[i]? = some b ∧ Ls[i]? = some s ∧ Zs[i]? = some z ∧ (pickH kept Ls) b = s ∧ (pickH kept Zs) b = z := by
    intro b hb
    obtain ⟨i, hi, rfl⟩ := List.getElem_of_mem hb
    have h1 : kept[i]? = some kept[i] := List.getElem?_eq_getElem hi
    have h2 : Ls[i]? = some (Ls[i]'(by omega)) := List.getElem?_eq_getElem (by omega)
    have h3 : Zs[i]? = some (Zs[i]'(by omega)) := List.getElem?_eq_getElem (by omega)
    exact ⟨i, _, _, h1, h2, h3, pick_at hp.nd h1 h2, pick_at hp.nd h1 h3⟩
  have hlv : ∀ b, (∀ sz e, (pickH kept Ls) b ≠ .live sz e) → ∀ sz e, (pickH kept Zs) b ≠ .live sz e := by
    intro b hb sz e hq
    by_cases q : b ∈ kept
    · obtain ⟨i, s, z, h1, h2, h3, h4, h5⟩ := hin b q
      obtain ⟨_, _, _, g⟩ := hZ i z h3 b s h1 h2
      rw [h5] at hq
      rw [hq] at g
      cases s with
      | live sz' e' => exact hb _ _ h4
      | _ => cases g
    · rw [show (pickH kept Zs) b = .free from pick_free q] at hq; cases hq
  have hnm : ∀ b, b ∈ kept → (pickH kept Zs).named b := by
    intro b hb
    obtain ⟨i, s, z, h1, h2, h3, h4, h5⟩ := hin b hb
    unfold Heap.named
    rw [h5]
    exact (hZ i z h3 b s h1 h2).2.1.free
  have key : ∀ t, ∃ z, (z = .undef ∧ E2 t = .undef) ∨ (Frz H1 (pickH kept Zs) (E1 t) z ∧ Inn (· ∈ kept) z ∧ renAll kept 0 z = E2 t) := by
    intro t
    rcases hE t with q | q
    · exact ⟨.undef, .inl ⟨rfl, q⟩⟩
    · obtain ⟨z, h1, h2, h3⟩ := q.to hp
      exact ⟨z, .inr ⟨h1.mono hlv, h2, h3⟩⟩
  have step1 : Ev T (.code (Sk k0) c E H) (.code e (fun t => Classical.choose (key t)) (pickH kept Zs)) := by
    refine .forget h (fun t => ?_) (fun b => ?_) (fun t => ?_) ⟨fun b sz es hb j i hj hi => ?_, fun b E ps aa bd st pd hb t => ?_⟩
    · rcases Classical.choose_spec (key t) with ⟨q, _⟩ | ⟨q, _⟩
      · exact .inl q
      · exact .inr q
    · by_cases q : b ∈ kept
      · obtain ⟨i, s, z, h1, h2, h3, h4, h5⟩ := hin b q
        rw [h5]
        exact .inl ((hZ i z h3 b s h1 h2).1.mono hlv)
      · refine .inr ⟨pick_free q, fun hb => q (List.mem_of_getElem? (hk b hb))⟩
    · rcases Classical.choose_spec (key t) with ⟨q, _⟩ | ⟨_, q, _⟩
      · rw [q]; exact .undef
      · exact q.mono hnm
    · by_cases q : b ∈ kept
      · obtain ⟨i', s, z, h1, h2, h3, h4, h5⟩ := hin b q
        rw [h5] at hb
        have := (hZ i' z h3 b s h1 h2).2.1
        rw [hb] at this
        exact (this j i hj hi).mono hnm
      · rw [show (pickH kept Zs) b = .free from pick_free q] at hb; cases hb
    · by_cases q : b ∈ kept
      · obtain ⟨i', s, z, h1, h2, h3, h4, h5⟩ := hin b q
        rw [h5] at hb
        have := (hZ i' z h3 b s h1 h2).2.1
        rw [hb] at this
        exact (this t).mono hnm
      · rw [show (pickH kept Zs) b = .free from pick_free q] at hb; cases hb
  have seq : ∀ (ks : List Nat) (i : Nat) (E' : Env) (H' : Heap), (∀ j b, ks[j]? = some b → i + j = b ∨ (¬ Sk k0 (i + j) ∧ ¬ Sk k0 b)) → Ev T (.code (Sk k0) c E H) (.code e E' H') → Ev T (.code (Sk k0) c E H) (.code e (fun t => renAll ks i (E' t)) (hrenAll ks i H')) := by
    intro ks
    induction ks with
    | nil => intro i E' H' _ h; exact h
    | cons b ks ih =>
      intro i E' H' hj h
      have := ih (i + 1) _ _ (fun j b hb => by
        have := hj (j + 1) b (by simpa using hb)
        rwa [show i + (j + 1) = i + 1 + j by omega] at this) (.other i b (by simpa using hj 0 b rfl) h)
      exact this
  have step2 := seq kept 0 _ _ (fun j b hb => by
    by_cases q : j < k0
    · left
      have := hk j q
      rw [hb] at this
      cases this; omega
    · right
      have := hp.ge j b hb
      simp only [Sk]
      omega) step1
  have eE : (fun t => renAll kept 0 (Classical.choose (key t))) = E2 := by
    funext t
    rcases Classical.choose_spec (key t) with ⟨q, q'⟩ | ⟨_, _, q⟩
    · rw [q, q', renAll_noname .undef]
    · exact q
  have eH : hrenAll kept 0 (pickH kept Zs) = Heap.of Ls := by
    apply Heap.ext
    intro x
    rw [hrenAll_at]
    by_cases q : x < Ls.length
    · have h1 : kept[x]? = some (kept[x]'(by omega)) := List.getElem?_eq_getElem (by omega)
      have h2 : Ls[x]? = some Ls[x] := List.getElem?_eq_getElem q
      have h3 : Zs[x]? = some (Zs[x]'(by omega)) := List.getElem?_eq_getElem (by omega)
      have := pre_at (i := 0) hp h1
      rw [Nat.zero_add] at this
      rw [this, Heap.of_get h2, show (pickH kept Zs) kept[x] = Zs[x]'(by omega) from pick_at hp.nd h1 h3]
      exact (hZ x _ h3 _ _ h1 h2).2.2.1
    · rw [show (Heap.of Ls) x = .free by simp only [Heap.of]; rw [List.getElem?_eq_none (by omega)]]
      rw [show (pickH kept Zs) (pre kept 0 x) = .free from ?_, Slot.renAll_free]
      refine pick_free fun hm => ?_
      obtain ⟨i, hi, he⟩ := List.getElem_of_mem hm
      have h1 : kept[i]? = some kept[i] := List.getElem?_eq_getElem hi
      have := pre_at (i := 0) hp h1
      rw [Nat.zero_add, he] at this
      have := pre_inj this
      omega
  rw [eE, eH] at step2
  exact step2

def incrN : Nat → List Nat → Bool
  | _, [] => true
  | i, b :: l => Nat.ble i b && (l.all fun c => !Nat.beq c b) && incrN (i + 1) l
theorem incrN_ok : ∀ {l : List Nat} {i : Nat}, incrN i l = true → KOk i l
  | [], i, _ => ⟨.nil, fun j b h => by simp at h⟩
  | b :: l, i, h => by
    simp only [incrN, Bool.and_eq_true] at h
    obtain ⟨⟨h1, h2⟩, h3⟩ := h
    have ih := incrN_ok h3
    refine ⟨List.nodup_cons.mpr ⟨fun hm => ?_, ih.nd⟩, fun j c hj => ?_⟩
    · rw [List.all_eq_true] at h2
      have := h2 b hm
      rw [Nat.beq_refl] at this; cases this
    · cases j with
      | zero =>
        simp only [List.getElem?_cons_zero, Option.some.injEq] at hj
        subst hj
        exact Nat.le_of_ble_eq_true h1
      | succ j =>
        have := ih.ge j c (by simpa using hj)
        omega
def incr (l : List Nat) : Bool := incrN 0 l
theorem incr_pair {l : List Nat} (h : incr l = true) : KOk 0 l := incrN_ok h
def firsts : Nat → Nat → List Nat → Bool
  | 0, _, _ => true
  | n + 1, i, k :: ks => Nat.beq k i && firsts n (i + 1) ks
  | _ + 1, _, [] => false
theorem firsts_get : ∀ {n i : Nat} {l : List Nat}, firsts n i l = true → ∀ j, j < n → l[j]? = some (i + j)
  | 0, _, _, _, j, h => by omega
  | n + 1, i, [], h, _, _ => by simp [firsts] at h
  | n + 1, i, k :: ks, h, j, hj => by
    simp only [firsts, Bool.and_eq_true] at h
    cases j with
    | zero => simp only [List.getElem?_cons_zero]; rw [Nat.eq_of_beq_eq_true h.1, Nat.add_zero]
    | succ j =>
      simp only [List.getElem?_cons_succ]
      rw [firsts_get h.2 j (by omega)]
      congr 1; omega
def chkM (kept : List Nat) (H1 H2 : Heap) (E : Env) : List (Nat × IV) → Prop
  | [] => True
  | p :: l => Mv kept H1 H2 (E p.1) p.2 ∧ chkM kept H1 H2 E l
theorem chkM_le {kept : List Nat} {H1 H2 : Heap} {E : Env} : ∀ {l : List (Nat × IV)}, chkM kept H1 H2 E l → ∀ t, envL l t = .undef ∨ Mv kept H1 H2 (E t) (envL l t)
  | [], _, _ => .inl rfl
  | p :: l, h, t => by
    simp only [envL, ep]
    split
    · rename_i q
      have := Nat.eq_of_beq_eq_true q
      subst this
      exact .inr h.1
    · exact chkM_le h.2 t
def chkK (kept : List Nat) (H1 H2 : Heap) : List Nat → List Slot → Prop
  | [], [] => True
  | k :: ks, s :: ss => MvS kept H1 H2 (H1 k) s ∧ chkK kept H1 H2 ks ss
  | _, _ => False
theorem chkK_len {kept : List Nat} {H1 H2 : Heap} : ∀ {ks : List Nat} {ss : List Slot}, chkK kept H1 H2 ks ss → ss.length = ks.length
  | [], [], _ => rfl
  | [], _ :: _, h => h.elim
  | _ :: _, [], h => h.elim
  | _ :: ks, _ :: ss, h => by simp [chkK_len (ks := ks) (ss := ss) h.2]
theorem chkK_get {kept : List Nat} {H1 H2 : Heap} : ∀ {ks : List Nat} {ss : List Slot}, chkK kept H1 H2 ks ss → ∀ (i b : Nat) (s : Slot), ks[i]? = some b → ss[i]? = some s → MvS kept H1 H2 (H1 b) s
  | [], [], _, _, _, _, h, _ => by simp at h
  | [], _ :: _, h, _, _, _, _, _ => h.elim
  | _ :: _, [], h, _, _, _, _, _ => h.elim
  | k :: ks, s :: ss, h, i, b, t, h1, h2 => by
    cases i with
    | zero =>
      simp only [List.getElem?_cons_zero, Option.some.injEq] at h1 h2
      subst h1; subst h2
      exact h.1
    | succ i => exact chkK_get h.2 i b t (by simpa using h1) (by simpa using h2)

inductive GrowP {X : Type} (k0 : Nat) (st : X → List (Nat × IV)) (hp : X → List Slot) (μ : X → Nat) (I : X → Prop) (x : X) (Q : IEx → Env → List Slot → Prop) (e : IEx) (E1 : Env) (L1 : List Slot) : Prop
  | more (y : X) (kept : List Nat) (he : e = .normal) (hI : I y) (hμ : μ y < μ x) (hi : (incr kept && firsts k0 0 kept) = true) (hE : chkM kept (Heap.of L1) (pickH kept (hp y)) E1 (st y)) (hL : chkK kept (Heap.of L1) (pickH kept (hp y)) kept (hp y)) : GrowP k0 st hp μ I x Q e E1 L1
  | done (he : e ≠ .normal) (h : Q e E1 L1) : GrowP k0 st hp μ I x Q e E1 L1

theorem loop_grow {T : Sys} {k0 : Nat} {c : IC} {E : Env} {L : List Slot} {Q : IEx → Env → List Slot → Prop} {X : Type} (st : X → List (Nat × IV)) (hp : X → List Slot) (μ : X → Nat) (I : X → Prop) (x0 : X) (hI : I x0) (hE : chkE E (st x0)) (hL : L = hp x0)
    (body : ∀ x, I x → wpC T k0 c (envL (st x)) (hp x) (GrowP k0 st hp μ I x Q)) : LoopP T k0 (.loop c) E L Q := by
  have key : ∀ n x, μ x = n → I x → ∃ e E1 L1, Ev T (.code (Sk k0) (.loop c) (envL (st x)) (Heap.of (hp x))) (.code e E1 (Heap.of L1)) ∧ Q e E1 L1 := by
    intro n
    induction n using Nat.strongRecOn with
    | _ n ih =>
      intro x hn hI
      obtain ⟨e, E1, L1, h1, h2⟩ := wpC_sound (body x hI)
      cases h2 with
      | done he h => exact ⟨e, E1, L1, .loopX h1 he, h⟩
      | more y kept he hI hμ hi hE hL =>
        subst he
        obtain ⟨e, E2, L2, h3, h4⟩ := ih (μ y) (hn ▸ hμ) y rfl hI
        rw [Bool.and_eq_true] at hi
        exact ⟨e, E2, L2, .loopN (h1.move kept (hp y) (incr_pair hi.1) (fun i hk => by have := firsts_get hi.2 i hk; rwa [Nat.zero_add] at this) (chkK_len hL) (chkK_get hL) (chkM_le hE)) h3, h4⟩
  obtain ⟨e, E1, L1, h1, h2⟩ := key _ x0 rfl hI
  subst hL
  exact .intro e E1 L1 (.weak (chkE_le hE) h1) h2

end Go.Ideal

/- An ideal machine for Go code. Part 28: arguments that are read. -/
namespace Go.Ideal
open Go.RowKit Go.ChangeShapes Classical

/-- Kinds of cells. -/
inductive CT where
  | b
  | i (k : IntKind)
  | s
  | sl (ts : List CT)

def fieldTys (P : Program) (g : TypeId → Option (List CT)) : List Field → Nat → Option (List CT)
  | [], _ => some []
  | f :: fs, off => match g f.type with
    | some ts => if f.offset = off ∧ ts.length = P.cellsOf f.type then (match fieldTys P g fs (off + ts.length) with
      | some us => some (ts ++ us)
      | none => none) else none
    | none => none
def cellTys (P : Program) : Nat → TypeId → Option (List CT)
  | 0, _ => none
  | n + 1, t => match P.underlying t with
    | some .bool => some [.b]
    | some (.int k) => some [.i k]
    | some .string => some [.s]
    | some (.slice e) => match cellTys P n e with
      | some ts => if ts.length = P.cellsOf e ∧ 0 < ts.length then some [.sl ts] else none
      | none => none
    | some (.struct fs) => match fieldTys P (cellTys P n) fs.toList 0 with
      | some ts => if ts.length = P.cellsOf t then some ts else none
      | none => none
    | _ => none

/-- A cell of a kind. -/
inductive OkI : CT → IV → Prop
  | b (x : Bool) : OkI .b (.bool x)
  | i (k : IntKind) (n : Int) (h1 : k.min ≤ n) (h2 : n ≤ k.max) : OkI (.i k) (.int k n)
  | s (x : ByteArray) (h : x.size ≤ maxLen) : OkI .s (.str x)
  | sl (ts : List CT) (es : Els) (hl : es.length ≤ maxLen) (hs : ∀ e ∈ es, e.length = ts.length) (he : ∀ (j k : Nat) (hj : j < es.length) (hk : k < es[j].length) (hk' : k < ts.length), OkI ts[k] es[j][k]) : OkI (.sl ts) (.fslice es)

/-- All that there is. -/
def allOf (w : World) : Frozen := fun k i => w.cell? ⟨k, i, none⟩

structure RdL (w : World) (μ : Places) (ts : List CT) (cs : List Value) (xs : List IV) : Prop where
  len : cs.length = ts.length
  len' : xs.length = ts.length
  ok : ∀ (i : Nat) (h : i < ts.length) (h' : i < xs.length), OkI ts[i] xs[i]
  vr : ∀ (i : Nat) (h : i < xs.length) (h' : i < cs.length), VR (allOf w) μ xs[i] cs[i]

theorem RdL.one {w : World} {μ : Places} {t : CT} {c : Value} {x : IV} (h : OkI t x) (k : VR (allOf w) μ x c) : RdL w μ [t] [c] [x] := by
  refine ⟨rfl, rfl, fun i h1 h2 => ?_, fun i h1 h2 => ?_⟩
  · simp at h1; subst h1; exact h
  · simp at h1; subst h1; exact k
theorem RdL.append {w : World} {μ : Places} {ts us : List CT} {cs ds : List Value} {xs ys : List IV} (h : RdL w μ ts cs xs) (k : RdL w μ us ds ys) : RdL w μ (ts ++ us) (cs ++ ds) (xs ++ ys) := by
  have a1 := h.len; have a2 := h.len'; have b1 := k.len; have b2 := k.len'
  refine ⟨by simp [a1, b1], by simp [a2, b2], fun i h1 h2 => ?_, fun i h1 h2 => ?_⟩
  · simp only [List.length_append] at h1 h2
    by_cases q : i < ts.length
    · rw [List.getElem_append_left q, List.getElem_append_left (by omega)]; exact h.ok i q _
    · rw [List.getElem_append_right (by omega), List.getElem_append_right (by omega)]
      have := k.ok (i - ts.length) (by omega) (by omega)
      simpa only [a2] using this
  · simp only [List.length_append] at h1 h2
    by_cases q : i < xs.length
    · rw [List.getElem_append_left q, List.getElem_append_left (by omega)]; exact h.vr i q _
    · rw [List.getElem_append_right (by omega), List.getElem_append_right (by omega)]
      have := k.vr (i - xs.length) (by omega) (by omega)
      simpa only [a1, a2] using this

theorem addr_spot {a : Addr} (h : a.spot = none) (n : Nat) : a.add n = ⟨a.block, a.off + n, none⟩ := by
  obtain ⟨b, o, s⟩ := a
  simp only at h; subst h
  unfold Addr.add
  split
  · rename_i q; subst q; rfl
  · rfl
theorem spot_none {w : World} {a : Addr} {v : Value} (h : w.cell? a = some v) : a.spot = none := by
  unfold World.cell? at h
  split at h
  · split at h
    · cases h
    · rename_i q; simpa using q
  · cases h

variable {H : Type} {enc : TypeId × Value → H} {P : Program} {w : World} {held : Bool}

theorem readL {μ : Places} : ∀ (fuel : Nat) (t : TypeId) (cs : List Value) (x : DataW H × List MemPlace), DataW.trod enc P w 0 (fun _ => true) held fuel t cs = some x → ∀ (n : Nat) (ts : List CT), cellTys P n t = some ts → ∃ xs, RdL w μ ts cs xs := by
  intro fuel
  induction fuel with
  | zero => intro t cs x h; simp [DataW.trod] at h
  | succ fuel ih =>
    intro t cs x h n ts hts
    cases n with
    | zero => cases hts
    | succ n =>
      simp only [cellTys] at hts
      split at hts
      · rename_i hu
        cases hts
        obtain ⟨b, rfl, _⟩ := DataW.trod_bool hu h
        exact ⟨_, .one (.b b) (.bool b)⟩
      · rename_i k hu
        cases hts
        obtain ⟨m, rfl, _, hw⟩ := DataW.trod_int hu h
        simp only [Lit.wf, Bool.and_eq_true, decide_eq_true_eq] at hw
        exact ⟨_, .one (.i k m hw.1 hw.2) (.int k m)⟩
      · rename_i hu
        cases hts
        obtain ⟨s, rfl, _, hs⟩ := DataW.trod_string hu h
        exact ⟨_, .one (.s s hs) (.str s)⟩
      · rename_i e hu
        split at hts
        · rename_i us hus
          split at hts
          · rename_i hc
            cases hts
            rcases DataW.trod_slice hu h with ⟨rfl, _⟩ | ⟨a, len, cap, elems, rest, m, hm, rfl, _, _, hl, hcap, hlen, hel, hsp, _⟩
            · exact ⟨_, .one (.sl us [] (Nat.zero_le _) (fun e he => by cases he) (fun j k hj => by simp at hj)) (.fnil none)⟩
            · obtain rfl : fuel = m := by omega
              by_cases hcz : cap = 0
              · obtain rfl := hcz
                obtain rfl : len = 0 := by omega
                exact ⟨_, .one (.sl us [] (Nat.zero_le _) (fun e he => by cases he) (fun j k hj => by simp at hj)) (.fnil (some a))⟩
              · have e0 : ∃ y, (w.cells? 0 (a.add (0 * P.cellsOf e)) (P.cellsOf e)).bind (DataW.trod enc P w 0 (fun _ => true) held fuel e) = some y := by
                  by_cases hl0 : len = 0
                  · obtain rfl := hl0
                    obtain ⟨q1, q2⟩ := hsp rfl
                    have := q2 0 (by omega)
                    rw [List.getElem?_eq_getElem (by omega)] at this
                    exact ⟨_, by simpa using this⟩
                  · have := hel 0 (by omega)
                    rw [List.getElem?_eq_getElem (by omega)] at this
                    exact ⟨_, this⟩
                have sp : a.spot = none := by
                  obtain ⟨y, hy⟩ := e0
                  rw [Option.bind_eq_some_iff] at hy
                  obtain ⟨l, hl1, hl2⟩ := hy
                  obtain ⟨c1, c2, c3⟩ := World.cells?_some hl1
                  have h0 := c3 0 (by omega)
                  rw [List.getElem?_eq_getElem (by omega)] at h0
                  have := spot_none h0
                  simpa [Addr.add] using this
                have each : ∀ j, j < len → ∃ l xs, RdL w μ us l xs ∧ ∀ k, k < us.length → w.cell? ⟨a.block, a.off + j * us.length + k, none⟩ = l[k]? := by
                  intro j hj
                  have hy := hel j hj
                  rw [List.getElem?_eq_getElem (by omega), Option.bind_eq_some_iff] at hy
                  obtain ⟨l, hl1, hl2⟩ := hy
                  obtain ⟨c1, c2, c3⟩ := World.cells?_some hl1
                  obtain ⟨xs, hx⟩ := ih e l _ hl2 n us hus
                  refine ⟨l, xs, hx, fun k hk => ?_⟩
                  have := c3 k (by omega)
                  rw [addr_spot sp, addr_spot rfl, ← hc.1] at this
                  exact this
                let f : Nat → List IV := fun j => if h : j < len then (each j h).choose_spec.choose else []
                have hf : ∀ j, j < len → ∃ l, RdL w μ us l (f j) ∧ ∀ k, k < us.length → w.cell? ⟨a.block, a.off + j * us.length + k, none⟩ = l[k]? := by
                  intro j hj
                  have := (each j hj).choose_spec.choose_spec
                  simp only [f, dif_pos hj]
                  exact ⟨_, this⟩
                have hlen' : ((List.range len).map f).length = len := by simp
                have hget : ∀ j (hj : j < ((List.range len).map f).length), ((List.range len).map f)[j] = f j := by intro j hj; simp
                have ha : a = ⟨a.block, a.off, none⟩ := by
                  obtain ⟨b, o, z⟩ := a
                  simp only at sp; subst sp; rfl
                refine ⟨_, .one (.sl us ((List.range len).map f) (by rw [hlen']; omega) (fun e he => ?_) (fun j k hj hk hk' => ?_)) (?_ : VR (allOf w) μ (.fslice ((List.range len).map f)) _)⟩
                · obtain ⟨j, hj, rfl⟩ := List.mem_map.mp he
                  obtain ⟨l, hl, _⟩ := hf j (List.mem_range.mp hj)
                  exact hl.len'
                · have hjl : j < len := by rw [← hlen']; exact hj
                  obtain ⟨l, hl, _⟩ := hf j hjl
                  simp only [hget]
                  exact hl.ok k hk' _
                · have hvr := VR.fslice (Φ := allOf w) (μ := μ) ((List.range len).map f) us.length a.block a.off cap (fun j k => (w.cell? ⟨a.block, a.off + j * us.length + k, none⟩).getD undef) (fun e he => by
                    obtain ⟨j, hj, rfl⟩ := List.mem_map.mp he
                    obtain ⟨l, hl, _⟩ := hf j (List.mem_range.mp hj)
                    exact hl.len') (by rw [hlen']; exact hl) (fun j k hj hk => by
                    have hjl : j < len := by rw [← hlen']; exact hj
                    obtain ⟨l, hl, hc'⟩ := hf j hjl
                    have hk' : k < us.length := by rw [hget, hl.len'] at hk; exact hk
                    show w.cell? _ = _
                    rw [hc' k hk', List.getElem?_eq_getElem (by rw [hl.len]; exact hk')]; rfl) (fun j k hj hk => by
                    have hjl : j < len := by rw [← hlen']; exact hj
                    obtain ⟨l, hl, hc'⟩ := hf j hjl
                    have hk' : k < us.length := by rw [hget, hl.len'] at hk; exact hk
                    have hkl : k < l.length := by rw [hl.len]; exact hk'
                    simp only [hget]
                    rw [hc' k hk', List.getElem?_eq_getElem hkl]
                    exact hl.vr k _ hkl)
                  rw [hlen'] at hvr
                  rw [ha]
                  exact hvr
          · cases hts
        · cases hts
      · rename_i fs hu
        split at hts
        · rename_i us hus
          split at hts
          · rename_i hlen
            obtain rfl : us = ts := Option.some.inj hts
            obtain ⟨ys, m, hm, _, hcl, hyl, hfl⟩ := DataW.trod_struct hu h
            obtain rfl : fuel = m := by omega
            -- field by field
            have go : ∀ (gs : List Field) (off : Nat) (us : List CT), fieldTys P (cellTys P n) gs off = some us → (∀ f ∈ gs, ∃ y, DataW.trod enc P w 0 (fun _ => true) held fuel f.type ((cs.drop f.offset).take (P.cellsOf f.type)) = some y) →
                off + us.length ≤ cs.length → ∃ xs, RdL w μ us ((cs.drop off).take us.length) xs := by
              intro gs
              induction gs with
              | nil =>
                intro off us hus _ _
                cases hus
                exact ⟨[], by simp, rfl, fun i h => by simp at h, fun i h => by simp at h⟩
              | cons f gs ihg =>
                intro off us hus hall hle
                simp only [fieldTys] at hus
                split at hus
                · rename_i ts1 ht1
                  split at hus
                  · rename_i hc
                    split at hus
                    · rename_i us2 hu2
                      cases hus
                      obtain ⟨y, hy⟩ := hall f List.mem_cons_self
                      obtain ⟨xs1, hx1⟩ := ih f.type _ y hy n ts1 ht1
                      simp only [List.length_append] at hle
                      obtain ⟨xs2, hx2⟩ := ihg (off + ts1.length) us2 hu2 (fun g hg => hall g (List.mem_cons_of_mem _ hg)) (by omega)
                      rw [hc.1, ← hc.2] at hx1
                      have := hx1.append hx2
                      refine ⟨xs1 ++ xs2, ?_⟩
                      have e : (cs.drop off).take (ts1 ++ us2).length = (cs.drop off).take ts1.length ++ (cs.drop (off + ts1.length)).take us2.length := by
                        rw [List.length_append, ← List.drop_drop, List.take_add]
                      rw [e]
                      exact this
                    · cases hus
                  · cases hus
                · cases hus
            obtain ⟨xs, hx⟩ := go fs.toList 0 us hus (fun f hf => by
              obtain ⟨i, hi⟩ := List.getElem?_of_mem hf
              rw [Array.getElem?_toList] at hi
              have := hfl i f hi
              have hlt : i < ys.length := by rw [hyl]; exact (Array.getElem?_eq_some_iff.mp hi).1
              rw [List.getElem?_eq_getElem hlt] at this
              exact ⟨_, this⟩) (by omega)
            have e : (cs.drop 0).take us.length = cs := by rw [List.drop_zero, List.take_of_length_le (by omega)]
            rw [e] at hx
            exact ⟨xs, hx⟩
          · cases hts
        · cases hts
      · cases hts

end Go.Ideal

/- An ideal machine for Go code. Part 29: from a run to a call of the program. -/
namespace Go.Ideal
open Go.RowKit Go.ChangeShapes Go.WideShapes Classical

section
variable {H : Type} {enc : TypeId × Value → H} {P : Program} {w : World} {held : Bool}

/-- A value of a type. -/
structure OkV (P : Program) (n : Nat) (t : TypeId) (x : IV) : Prop where
  ok : ∃ ts xs, cellTys P n t = some ts ∧ xs.length = ts.length ∧ (∀ (i : Nat) (h : i < ts.length) (h' : i < xs.length), OkI ts[i] xs[i]) ∧ ((∃ fs, P.underlying t = some (.struct fs) ∧ x = .agg xs) ∨ xs = [x])

theorem readV {μ : Places} {t : TypeId} {v : Value} {d : DataW H} {p : List MemPlace} {r : Reach} {base n : Nat} (h : DataW.Trod enc P w 0 (fun _ => true) held t v d p) (hv : Value.okWide P w r base t v) (hc : (cellTys P n t).isSome = true) :
    ∃ x, VR (allOf w) μ x v ∧ OkV P n t x := by
  obtain ⟨fuel, hf⟩ := h
  obtain ⟨ts, hts⟩ := Option.isSome_iff_exists.mp hc
  obtain ⟨xs, hx⟩ := readL (μ := μ) fuel t _ _ hf n ts hts
  have scalar : v.cells = #[v] → ts.length = 1 → ∃ x, VR (allOf w) μ x v ∧ OkV P n t x := by
    intro hv1 h1
    have a1 := hx.len'
    obtain ⟨x, rfl⟩ : ∃ x, xs = [x] := List.length_eq_one_iff.mp (by omega)
    have := hx.vr 0 (by simp) (by rw [hv1]; simp)
    simp only [hv1] at this
    exact ⟨x, this, ⟨ts, [x], hts, a1, hx.ok, .inr rfl⟩⟩
  have hts' := hts
  cases n with
  | zero => cases hts
  | succ n =>
    simp only [cellTys] at hts
    split at hts
    · rename_i hu
      cases hts
      simp only [Value.okWide, hu, Cell.okWide] at hv
      cases v <;> first | exact scalar rfl rfl | (simp [Cell.ok, hu] at hv)
    · rename_i k hu
      cases hts
      simp only [Value.okWide, hu, Cell.okWide] at hv
      cases v <;> first | exact scalar rfl rfl | (simp [Cell.ok, hu] at hv)
    · rename_i hu
      cases hts
      simp only [Value.okWide, hu, Cell.okWide] at hv
      cases v <;> first | exact scalar rfl rfl | (simp [Cell.ok, hu] at hv)
    · rename_i e hu
      have h1 : ts.length = 1 := by
        split at hts
        · split at hts
          · cases hts; rfl
          · cases hts
        · cases hts
      simp only [Value.okWide, hu, Cell.okWide] at hv
      cases v <;> first | exact scalar rfl h1 | (simp [Cell.ok, hu] at hv)
    · rename_i fs hu
      simp only [Value.okWide, hu] at hv
      obtain ⟨cs, rfl, _, _⟩ := hv
      refine ⟨.agg xs, .agg xs cs ?_ (fun i h h' => ?_), ⟨ts, xs, hts', hx.len', hx.ok, .inl ⟨fs, hu, rfl⟩⟩⟩
      · have := hx.len; have := hx.len'; simp [Value.cells] at *; omega
      · exact hx.vr i h (by simpa [Value.cells] using h')
    · cases hts

theorem readAll {μ : Places} {r : Reach} {base n : Nat} : ∀ {ts : List TypeId} {vs : List Value} {ds : List (DataW H)} {p : List MemPlace}, DataW.TrodAll enc P w 0 (fun _ => true) held ts vs ds p →
    (∀ (j : Nat) t v, ts[j]? = some t → vs[j]? = some v → Value.okWide P w r base t v) → ts.all (fun t => (cellTys P n t).isSome) = true →
    ∃ xs : List IV, (xs.length = vs.length ∧ ∀ (i : Nat) (h : i < xs.length) (h' : i < vs.length), VR (allOf w) μ xs[i] vs[i]) ∧ xs.length = ts.length ∧ ∀ (i : Nat) (h : i < ts.length) (h' : i < xs.length), OkV P n ts[i] xs[i]
  | [], vs, ds, p, h, _, _ => by
    obtain ⟨rfl, rfl, rfl⟩ := trodAll_nil h
    exact ⟨[], ⟨rfl, fun i h => by simp at h⟩, rfl, fun i h => by simp at h⟩
  | t :: ts, vs, ds, p, h, hv, hc => by
    obtain ⟨v, vs', d, ds', p1, q1, rfl, rfl, rfl, h1, h2⟩ := trodAll_cons h
    simp only [List.all_cons, Bool.and_eq_true] at hc
    obtain ⟨x, hx, ho⟩ := readV (μ := μ) h1 (hv 0 t v rfl rfl) hc.1
    obtain ⟨xs, ⟨k1, k2⟩, k3, k4⟩ := readAll (μ := μ) h2 (fun j t v ht hv' => hv (j + 1) t v (by simpa using ht) (by simpa using hv')) hc.2
    refine ⟨x :: xs, ⟨by simp [k1], fun i h h' => ?_⟩, by simp [k3], fun i h h' => ?_⟩
    · cases i with
      | zero => exact hx
      | succ i => exact k2 i (by simpa using h) (by simpa using h')
    · cases i with
      | zero => exact ho
      | succ i => exact k4 i (by simpa using h) (by simpa using h')

/-- The arguments read as they did. -/
theorem trodAll_below {W W' : World} (hl : laidOutB P = true) : ∀ {ts : List TypeId} {vs : List Value} {ds : List (DataW H)} {p : List MemPlace}, DataW.TrodAll enc P W 0 (fun _ => true) true ts vs ds p → ts.all (fun t => P.readableRec t && decide (t < P.types.size)) = true →
    Below W.heap.size W W' → (∀ x ∈ p, x.block < W.heap.size) → DataW.TrodAll enc P W' 0 (fun b => decide (b < W.heap.size)) true ts vs ds p
  | [], vs, ds, p, h, _, _, _ => by
    obtain ⟨rfl, rfl, rfl⟩ := trodAll_nil h
    exact trodAll_mk0
  | t :: ts, vs, ds, p, h, hr, hb, hlt => by
    obtain ⟨v, vs', d, ds', p1, q1, rfl, rfl, rfl, h1, h2⟩ := trodAll_cons h
    simp only [List.all_cons, Bool.and_eq_true, decide_eq_true_eq] at hr
    exact ⟨p1, q1, Below.trod hl hr.1.1 hr.1.2 h1 hb (fun x hx => hlt x (List.mem_append_left _ hx)), trodAll_below hl h2 hr.2 hb (fun x hx => hlt x (List.mem_append_right _ hx)), rfl⟩
theorem trodAll_lt {W : World} : ∀ {ts : List TypeId} {vs : List Value} {ds : List (DataW H)} {p : List MemPlace}, DataW.TrodAll enc P W 0 (fun _ => true) held ts vs ds p → ∀ x ∈ p, x.block < W.heap.size
  | [], vs, ds, p, h => by
    obtain ⟨rfl, rfl, rfl⟩ := trodAll_nil h
    intro x hx; cases hx
  | t :: ts, vs, ds, p, h => by
    obtain ⟨v, vs', d, ds', p1, q1, rfl, rfl, rfl, h1, h2⟩ := trodAll_cons h
    intro x hx
    rcases List.mem_append.mp hx with hx | hx
    · obtain ⟨m, hm⟩ := h1
      exact DataW.trod_lt m _ _ _ hm x hx
    · exact trodAll_lt h2 x hx
end

theorem calls_of_ev {P : Program} {f : FuncId} {F : Func} {W : World} {xs : List IV} {args : Array Value} {v : IV} (hF : P.funcs[f]? = some F) (hb : F.body.isSome = true) (hn : (F.name == "runtime.NumGoroutine") = false)
    (h : Ev (sysOf P) (.call (.func (.func f) [] []) xs (Heap.of [])) (.call v (Heap.of []))) (ha : PW (allOf W) (fun _ => none) xs args) :
    Calls P f args W fun e W' => ∃ rv Φ μ, e = .returned rv ∧ VR Φ μ v rv ∧ Below W.heap.size W W' := by
  have hW : WR W.heap.size W (allOf W) (fun _ _ => none) (fun _ => none) (Heap.of []) W := by
    have hf : ∀ b, (Heap.of []) b = .free := fun b => rfl
    have no : ∀ (b sz : Nat) (es : Els), (Heap.of []) b ≠ .live sz es := fun b sz es h => by rw [hf] at h; cases h
    refine ⟨Nat.le_refl _, Base.refl _ _, fun k i v h => h, fun k i v h => (by cases h), fun k i v h => (by cases h), fun b => by simp [hf], fun k i hk => ?_, fun b sz es L h => absurd h (no b sz es), fun b sz es L h => absurd h (no b sz es),
      fun b sz es L h => absurd h (no b sz es), fun b b' sz sz' es es' L L' _ h => absurd h (no b sz es), fun b sz es L h => absurd h (no b sz es), fun b sz es L h => absurd h (no b sz es)⟩
    unfold World.frozen?
    rw [Array.getElem?_eq_none (by simpa using hk)]
  have hs : SemCall P (.func (.func f) [] []) xs (Heap.of []) v (Heap.of []) := h.sim
  have := hs W.heap.size W _ _ _ W (.func (.func f) #[] #[]) args ⟨hW, LW.none (fun b => rfl)⟩ (.func _ _ _ _ _ rfl rfl (fun i h => by simp at h) (fun i h => by simp at h)) ha
  obtain ⟨C, hC⟩ := Option.isSome_iff_exists.mp hb
  have hrun : (callSem (.func (.func f) #[] #[]) args).run P W = .ok (.enter f (#[] ++ args ++ #[])) W := by
    have hn' : ¬ F.name = "runtime.NumGoroutine" := by simpa using hn
    simp [callSem, Deferred.ofValue, invoke, callFunc, hF, hn', hC]
  rw [hrun] at this
  simp only [nextPost, Array.empty_append, Array.append_empty] at this
  refine (callsIn_wide.mp this).mono fun e W' he => ?_
  cases e with
  | returned rv =>
    obtain ⟨Φ', μ', g1, g2, _⟩ := he
    exact ⟨rv, Φ', μ', rfl, g2, g1.wr.base.below⟩
  | panicked _ => exact he.elim
  | outgrown => exact he.elim

end Go.Ideal

/- An ideal machine for Go code. Part 30: lists, dice, for the use of it. -/
namespace Go.Ideal
open Go.RowKit

theorem nn_bool (b : Bool) : Noname (.bool b) := .bool b
theorem nn_int (k : IntKind) (n : Int) : Noname (.int k n) := .int k n
theorem nn_nil {l : List IV} (h : l = []) : ∀ x ∈ l, Noname x := by subst h; intro x hx; cases hx
theorem nn_cons {x : IV} {l : List IV} (h : Noname x) (k : ∀ y ∈ l, Noname y) : ∀ y ∈ x :: l, Noname y := by
  intro y hy
  rcases List.mem_cons.mp hy with rfl | hy
  · exact h
  · exact k y hy
theorem nn_none : ∀ x ∈ ([] : List IV), Noname x := fun x hx => by cases hx
theorem nn_agg {l : List IV} (h : ∀ x ∈ l, Noname x) : Noname (.agg l) := .agg l (fun _ hi => h _ (List.getElem_mem hi))
theorem nn_tuple {l : List IV} (h : ∀ x ∈ l, Noname x) : Noname (.tuple l) := .tuple l (fun _ hi => h _ (List.getElem_mem hi))
theorem nn_fs {α : Type} {l : List α} {enc : α → List IV} (h : ∀ a ∈ l, ∀ x ∈ enc a, Noname x) : Noname (.fslice (l.map enc)) := by
  refine .fslice _ (fun j k hj hk => ?_)
  simp only [List.length_map] at hj
  simp only [List.getElem_map] at hk ⊢
  exact h _ (List.getElem_mem hj) _ (List.getElem_mem hk)

/-- Numbers. -/
def ei (n : Int) : List IV := [.int .i64 n]
def sl (l : List Int) : IV := .fslice (l.map ei)
theorem sl_no (l : List Int) : Noname (sl l) := nn_fs (fun _ _ => nn_cons (.int _ _) nn_none)
/-- Lists of numbers. -/
def el (l : List Int) : List IV := [sl l]
def sll (t : List (List Int)) : IV := .fslice (t.map el)
theorem sll_no (t : List (List Int)) : Noname (sll t) := nn_fs (fun _ _ => nn_cons (sl_no _) nn_none)

theorem idx_fs {H : Heap} {E : Env} {x i : Opd} {α : Type} {l : List α} {enc : α → List IV} {k : IntKind} {n : Int} {sz : Nat} (hx : x.ev E = .fslice (l.map enc)) (hi : i.ev E = .int k n) (h0 : 0 ≤ n) (h1 : n < l.length)
    (hs : ∀ a, (enc a).length = sz) : iop H E (.indexAddr sz x i) = some (.cptr (l.map enc) n.toNat 0) := by
  have h1' : n.toNat < l.length := by omega
  simp only [iop, hx, hi, List.getElem?_map, List.getElem?_eq_getElem h1', Option.map_some, hs]
  rw [if_pos ⟨h0, trivial⟩]
/-- The element at a place, as the program sees it. -/
def at' {α : Type} [Inhabited α] (l : List α) (n : Int) : α := l.getD n.toNat default
theorem load_fs {H : Heap} {E : Env} {x : Opd} {α : Type} [Inhabited α] {l : List α} {enc : α → List IV} {ag : Bool} {n off : Nat} {i : Int} {v : IV} (hx : x.ev E = .cptr (l.map enc) i.toNat off) (h0 : 0 ≤ i) (h1 : i < l.length) (hr : readCells ag (enc (at' l i)) off n = some v) :
    iop H E (.load ag n x) = some v := by
  have h1' : i.toNat < l.length := by omega
  have : at' l i = l[i.toNat] := by unfold at'; rw [List.getD_eq_getElem?_getD, List.getElem?_eq_getElem h1', Option.getD_some]
  simp only [iop, loadI, hx, List.getElem?_map, List.getElem?_eq_getElem h1', Option.map_some, ← this, hr]
theorem at'_get {α : Type} [Inhabited α] {l : List α} {j : Nat} (h : j < l.length) : at' l (j : Int) = l[j] := by
  unfold at'; simp [List.getD_eq_getElem?_getD, h]

theorem frz_eq {H H' : Heap} {x y : IV} (h : x = y) : Frz H H' x y := by rw [h]; exact .refl _
theorem frz_bool {H H' : Heap} {p q : Bool} (h : p = q) : Frz H H' (.bool p) (.bool q) := frz_eq (by rw [h])
theorem frz_int {H H' : Heap} {k : IntKind} {p q : Int} (h : p = q) : Frz H H' (.int k p) (.int k q) := frz_eq (by rw [h])

theorem idx_ms {L : List Slot} {E : Env} {x i : Opd} {b len lb sz : Nat} {ex : Bool} {es : Els} {k : IntKind} {n : Int} (hx : x.ev E = .mslice b 0 len lb ex) (hi : i.ev E = .int k n) (hL : L[b]? = some (.live sz es)) (h0 : 0 ≤ n) (h1 : n < len) :
    iop (Heap.of L) E (.indexAddr sz x i) = some (.ptr b n.toNat 0) := by
  simp only [iop, hx, hi, Heap.of_get hL]
  rw [if_pos ⟨h0, h1, trivial⟩, Nat.zero_add]
theorem load_ms {L : List Slot} {E : Env} {x : Opd} {α : Type} [Inhabited α] {l : List α} {enc : α → List IV} {b sz n off : Nat} {ag : Bool} {i : Int} {v : IV} (hx : x.ev E = .ptr b i.toNat off) (hL : L[b]? = some (.live sz (l.map enc))) (h0 : 0 ≤ i) (h1 : i < l.length)
    (hr : readCells ag (enc (at' l i)) off n = some v) : iop (Heap.of L) E (.load ag n x) = some v := by
  have h1' : i.toNat < l.length := by omega
  have : at' l i = l[i.toNat] := by unfold at'; rw [List.getD_eq_getElem?_getD, List.getElem?_eq_getElem h1', Option.getD_some]
  simp only [iop, loadI, hx, Heap.of_get hL, List.getElem?_map, List.getElem?_eq_getElem h1', Option.map_some, ← this, hr]

inductive FzL (H H' : Heap) : List IV → List IV → Prop
  | nil : FzL H H' [] []
  | cons {x y : IV} {xs ys : List IV} (h : Frz H H' x y) (k : FzL H H' xs ys) : FzL H H' (x :: xs) (y :: ys)
inductive FzE (H H' : Heap) : Els → Els → Prop
  | nil : FzE H H' [] []
  | cons {x y : List IV} {xs ys : Els} (h : FzL H H' x y) (k : FzE H H' xs ys) : FzE H H' (x :: xs) (y :: ys)
theorem FzL.refl {H H' : Heap} : ∀ l, FzL H H' l l
  | [] => .nil
  | x :: xs => .cons (.refl x) (FzL.refl xs)
theorem FzE.refl {H H' : Heap} : ∀ l, FzE H H' l l
  | [] => .nil
  | x :: xs => .cons (FzL.refl x) (FzE.refl xs)
theorem FzL.len {H H' : Heap} {l l' : List IV} (h : FzL H H' l l') : l'.length = l.length := by
  induction h with
  | nil => rfl
  | cons _ _ ih => simp [ih]
theorem FzL.get {H H' : Heap} {l l' : List IV} (h : FzL H H' l l') : ∀ (i : Nat) (h1 : i < l.length) (h2 : i < l'.length), Frz H H' l[i] l'[i] := by
  induction h with
  | nil => intro i h; simp at h
  | cons h _ ih =>
    intro i h1 h2
    cases i with
    | zero => exact h
    | succ i => exact ih i (by simpa using h1) (by simpa using h2)
theorem FzE.len {H H' : Heap} {l l' : Els} (h : FzE H H' l l') : l'.length = l.length := by
  induction h with
  | nil => rfl
  | cons _ _ ih => simp [ih]
theorem FzE.get {H H' : Heap} {l l' : Els} (h : FzE H H' l l') : ∀ (i : Nat) (h1 : i < l.length) (h2 : i < l'.length), FzL H H' l[i] l'[i] := by
  induction h with
  | nil => intro i h; simp at h
  | cons h _ ih =>
    intro i h1 h2
    cases i with
    | zero => exact h
    | succ i => exact ih i (by simpa using h1) (by simpa using h2)
theorem FzE.append {H H' : Heap} {a a' b b' : Els} (h : FzE H H' a a') (k : FzE H H' b b') : FzE H H' (a ++ b) (a' ++ b') := by
  induction h with
  | nil => exact k
  | cons h _ ih => exact .cons h ih
theorem Frz.aggL {H H' : Heap} {l l' : List IV} (h : FzL H H' l l') : Frz H H' (.agg l) (.agg l') := .agg h.len (fun i a b => h.get i a b)
theorem Frz.tupleL {H H' : Heap} {l l' : List IV} (h : FzL H H' l l') : Frz H H' (.tuple l) (.tuple l') := .tuple h.len (fun i a b => h.get i a b)
theorem FzE.slot {H H' : Heap} {sz : Nat} {es es' : Els} (h : FzE H H' es es') : FrzS H H' (.live sz es) (.live sz es') :=
  .live h.len (fun j a b => (h.get j a b).len) (fun j k a b c d => (h.get j a b).get k c d)
/-- A whole block. -/
theorem Frz.whole {H H' : Heap} {b len lb sz : Nat} {ex : Bool} {es es' : Els} (hH : H b = .live sz es) (hH' : ∀ sz e, H' b ≠ .live sz e) (hl : len = es.length) (h : FzE H H' es es') : Frz H H' (.mslice b 0 len lb ex) (.fslice es') := by
  have e := h.len
  refine .mslice hH hH' (by omega) (by omega) (fun j h1 h2 => ?_) (fun j k h1 h2 h3 h4 => ?_)
  · have := (h.get j (by omega) h1).len
    simpa using this
  · have h4' : k < es[j].length := by simpa using h4
    have := (h.get j (by omega) h1).get k h4' h3
    simpa using this
theorem Frz.ints {H H' : Heap} {b len lb sz : Nat} {ex : Bool} {l : List Int} (hH : H b = .live sz (l.map ei)) (hH' : ∀ sz e, H' b ≠ .live sz e) (hl : len = l.length) : Frz H H' (.mslice b 0 len lb ex) (sl l) :=
  .whole hH hH' (by simpa using hl) (.refl _)

inductive MvL (kept : List Nat) (H H' : Heap) : List IV → List IV → Prop
  | nil : MvL kept H H' [] []
  | cons {x y : IV} {xs ys : List IV} (h : Mv kept H H' x y) (k : MvL kept H H' xs ys) : MvL kept H H' (x :: xs) (y :: ys)
theorem MvL.len {kept : List Nat} {H H' : Heap} {l l' : List IV} (h : MvL kept H H' l l') : l'.length = l.length := by
  induction h with
  | nil => rfl
  | cons _ _ ih => simp [ih]
theorem MvL.get {kept : List Nat} {H H' : Heap} {l l' : List IV} (h : MvL kept H H' l l') : ∀ (i : Nat) (h1 : i < l.length) (h2 : i < l'.length), Mv kept H H' l[i] l'[i] := by
  induction h with
  | nil => intro i h; simp at h
  | cons h _ ih =>
    intro i h1 h2
    cases i with
    | zero => exact h
    | succ i => exact ih i (by simpa using h1) (by simpa using h2)
theorem Mv.same {kept : List Nat} {H H' : Heap} {x : IV} (h : Noname x) : Mv kept H H' x x := .nn h (.refl x)
theorem Mv.aggL {kept : List Nat} {H H' : Heap} {l l' : List IV} (h : MvL kept H H' l l') : Mv kept H H' (.agg l) (.agg l') := .agg h.len (fun i a b => h.get i a b)
/-- A block of one row. -/
theorem MvS.row {kept : List Nat} {H H' : Heap} {sz : Nat} {r r' : List IV} (h : MvL kept H H' r r') : MvS kept H H' (.live sz [r]) (.live sz [r']) := by
  refine .live rfl (fun j a b => ?_) (fun j k a b c d => ?_)
  · obtain rfl : j = 0 := by simpa using a
    exact h.len
  · obtain rfl : j = 0 := by simpa using a
    exact h.get k c d
theorem MvS.same {kept : List Nat} {H H' : Heap} {s : Slot} (h : NonameS s) : MvS kept H H' s s := .nn h (.refl s)
theorem noS_row {sz : Nat} {r : List IV} (h : ∀ x ∈ r, Noname x) : NonameS (.live sz [r]) := by
  intro e he
  obtain rfl : e = r := by simpa using he
  exact h
theorem noS_map {α : Type} {sz : Nat} {l : List α} {enc : α → List IV} (h : ∀ a, ∀ x ∈ enc a, Noname x) : NonameS (.live sz (l.map enc)) := by
  intro e he
  obtain ⟨a, _, rfl⟩ := List.mem_map.mp he
  exact h a
theorem noS_ints {sz : Nat} {l : List Int} : NonameS (.live sz (l.map ei)) := noS_map (fun a => nn_cons (.int _ _) nn_none)
theorem noS_rows {sz : Nat} {t : List (List Int)} : NonameS (.live sz (t.map el)) := noS_map (fun a => nn_cons (sl_no _) nn_none)

/-- A list that is being made: nothing at first. -/
def omsl {α : Type} (b : Nat) (l : List α) : IV := match l with
  | [] => .nilslice
  | _ :: _ => .mslice b 0 l.length l.length false
/-- Two of them, their blocks. -/
def own2 {α : Type} (enc : α → List IV) (l r : List α) : List Slot := match l with
  | [] => []
  | _ :: _ => [.live 1 (l.map enc), .live 1 (r.map enc)]
theorem omsl_ne {α : Type} {b : Nat} {l : List α} (h : l ≠ []) : omsl b l = .mslice b 0 l.length l.length false := by cases l with | nil => exact absurd rfl h | cons a l => rfl
theorem own2_ne {α : Type} {enc : α → List IV} {l r : List α} (h : l ≠ []) : own2 enc l r = [.live 1 (l.map enc), .live 1 (r.map enc)] := by cases l with | nil => exact absurd rfl h | cons a l => rfl
theorem Mv.grown {α : Type} {kept : List Nat} {H H' : Heap} {b i n : Nat} {l : List α} (hk : kept[i]? = some b) (hn : l.length = n) (h : l ≠ []) : Mv kept H H' (.mslice b 0 n n false) (omsl i l) := by
  rw [omsl_ne h, hn]
  exact .ms hk
theorem Mv.omsl {α : Type} {kept : List Nat} {H H' : Heap} {b i : Nat} {l : List α} (hk : kept[i]? = some b) : Mv kept H H' (omsl b l) (omsl i l) := by
  cases l with
  | nil => exact .same .nilslice
  | cons a l => exact .ms hk
/-- A list grows by one. -/
theorem MvS.snoc {kept : List Nat} {H H' : Heap} {sz : Nat} {l : List Int} {a : Int} : MvS kept H H' (.live sz (l.map ei ++ [[.int .i64 a]])) (.live sz ((l ++ [a]).map ei)) := by
  rw [List.map_append]
  refine .nn ?_ (.refl _)
  rw [show l.map ei ++ [a].map ei = (l ++ [a]).map ei by rw [List.map_append]]
  exact noS_ints

theorem OpP.none {E : Env} {L : List Slot} {zero : List Cst} {bytes : Nat} {s x : Opd} {K : IV → List Slot → Prop} {v : IV} (hv : s.ev E = v) (hs : v.isSlice = true) (hx : elsOf (Heap.of L) (x.ev E) = some []) (k : K v L) : OpP E L (.append zero bytes s x) K := by
  subst hv
  exact .intro _ L (.append0 hs hx) k
theorem OpP.nil {E : Env} {L : List Slot} {zero : List Cst} {bytes n' : Nat} {s x : Opd} {K : IV → List Slot → Prop} {es : Els} (hs : s.ev E = .nilslice ∨ s.ev E = .eslice) (hx : elsOf (Heap.of L) (x.ev E) = some es) (hne : es ≠ []) (hz : ∀ e ∈ es, e.length = zero.length)
    (hok : ∀ e ∈ es, ∀ c ∈ e, IV.cellOk c = true) (hn' : es.length = n') (hbig : n' * (bytes + 1) ≤ 2 ^ 40) (k : litK L.length fun n => snocK L (.live zero.length es) (K (.mslice n 0 n' n' false))) : OpP E L (.append zero bytes s x) K := by
  subst hn'
  rw [litK_eq, snocK_eq] at k
  exact .intro _ _ (by rw [Heap.of_snoc]; exact .appendNil (Heap.of_free L) hs hx hne hz hok hbig) k
theorem OpP.full {E : Env} {L : List Slot} {zero : List Cst} {bytes b n n' : Nat} {s x : Opd} {K : IV → List Slot → Prop} {es es' r : Els} (hs : s.ev E = .mslice b 0 n n true) (hH : L[b]? = some (.live zero.length es)) (hn : es.length = n) (hx : elsOf (Heap.of L) (x.ev E) = some es') (hne : es' ≠ [])
    (hz : ∀ e ∈ es', e.length = zero.length) (hok : ∀ e ∈ es', ∀ c ∈ e, IV.cellOk c = true) (hr : es ++ es' = r) (hn' : r.length = n') (hbig : n' * (bytes + 1) ≤ 2 ^ 40) (k : litK L.length fun n => snocK L (.live zero.length r) (K (.mslice n 0 n' n' false))) : OpP E L (.append zero bytes s x) K := by
  subst hn
  subst hr
  rw [litK_eq, snocK_eq] at k
  rw [List.length_append] at hn'
  subst hn'
  have := HOp.appendFull (Heap.of_free L) hs (Heap.of_get hH) (by omega) hx hne hz hok hbig
  simp only [List.drop_zero, List.take_length] at this
  exact .intro _ _ (by rw [Heap.of_snoc]; exact this) k
theorem OpP.grow {E : Env} {L : List Slot} {zero : List Cst} {bytes b n n' lb : Nat} {ex : Bool} {s x : Opd} {K : IV → List Slot → Prop} {es es' r : Els} (hs : s.ev E = .mslice b 0 n lb ex) (hH : L[b]? = some (.live zero.length es)) (hn : es.length = n) (hx : elsOf (Heap.of L) (x.ev E) = some es') (hne : es' ≠ [])
    (hz : ∀ e ∈ es', e.length = zero.length) (hok : ∀ e ∈ es', ∀ c ∈ e, IV.cellOk c = true) (hr : es ++ es' = r) (hn' : r.length = n') (hbig : n' * (bytes + 1) ≤ 2 ^ 40)
    (k : setK L b .dead fun L1 => litK L1.length fun n => snocK L1 (.live zero.length r) (K (.mslice n 0 n' n' false))) : OpP E L (.append zero bytes s x) K := by
  subst hn
  subst hr
  obtain ⟨h1, h2⟩ := setK_elim k
  rw [litK_eq, snocK_eq] at h2
  rw [List.length_append] at hn'
  subst hn'
  have hf : (Heap.of L) (L.set b .dead).length = .free := by rw [List.length_set]; exact Heap.of_free L
  have := HOp.append hf hs (Heap.of_get hH) (by omega) hx hne hz hok hbig
  simp only [List.drop_zero] at this
  exact .intro _ _ (by rw [Heap.of_snoc, Heap.of_set h1]; exact this) h2
/-- A store into a block of many rows. -/
def storeK (L : List Slot) (b sz i : Nat) (es : Els) (e' : List IV) (K : List Slot → Prop) : Prop := match es, i with
  | [_], 0 => forceL e' fun e' => setK L b (.live sz [e']) K
  | _, _ => setK L b (.live sz (es.set i e')) K
theorem store_sym {L : List Slot} {b sz i : Nat} {es : Els} {e' : List IV} {K : List Slot → Prop} (h : setK L b (.live sz (es.set i e')) K) : storeK L b sz i es e' K := by
  unfold storeK
  split
  · rw [forceL_eq]; exact h
  · exact h
theorem ei_ok {l : List Int} : ∀ e ∈ l.map ei, ∀ c ∈ e, IV.cellOk c = true := by
  intro e he c hc
  obtain ⟨a, _, rfl⟩ := List.mem_map.mp he
  simp only [ei, List.mem_singleton] at hc
  subst hc; rfl
theorem ei_len {l : List Int} : ∀ e ∈ l.map ei, e.length = 1 := by
  intro e he
  obtain ⟨a, _, rfl⟩ := List.mem_map.mp he
  rfl
theorem slice_to {H : Heap} {E : Env} {x i : Opd} {α : Type} {l : List α} {enc : α → List IV} {k : IntKind} {n : Int} {sz : Nat} (hx : x.ev E = .fslice (l.map enc)) (hi : i.ev E = .int k n) (h0 : 0 ≤ n) (h1 : n ≤ l.length) (hs : sz ≠ 0) :
    iop H E (.slice sz x none (some i) none) = some (.fslice ((l.take n.toNat).map enc)) := by
  have hb : (IV.isSlice (.fslice (l.map enc)) = true) = (sz != 0) := by simp [IV.isSlice, hs]
  simp only [iop, hx, IV.isSlice]
  rw [if_pos (by simp [hs])]
  simp only [sliceI, bound?, hi, List.length_map, Option.isSome_none, Bool.false_eq_true, if_false, if_pos (show 0 ≤ n ∧ n ≤ (l.length : Int) from ⟨h0, h1⟩)]
  simp [List.map_take]
theorem slice_from {H : Heap} {E : Env} {x i : Opd} {α : Type} {l : List α} {enc : α → List IV} {k : IntKind} {n : Int} {sz : Nat} (hx : x.ev E = .fslice (l.map enc)) (hi : i.ev E = .int k n) (h0 : 0 ≤ n) (h1 : n ≤ l.length) (hs : sz ≠ 0) (he : ∀ a, (enc a).length = sz) :
    iop H E (.slice sz x (some i) none none) = some (.fslice ((l.drop n.toNat).map enc)) := by
  simp only [iop, hx, IV.isSlice]
  rw [if_pos (by simp [hs])]
  simp only [sliceI, bound?, hi, List.length_map, Option.isSome_none, Bool.false_eq_true, if_false, if_pos (show 0 ≤ n ∧ n ≤ (l.length : Int) from ⟨h0, h1⟩)]
  rw [if_pos]
  · congr 2
    rw [← List.map_drop, List.take_of_length_le (by simp)]
  · rcases Nat.lt_or_ge n.toNat l.length with c | c
    · right; right
      simp [List.getElem?_map, List.getElem?_eq_getElem c, he]
    · right; left; omega

def S1 (s : Int) : Slot := .live 1 [[.int .u64 s]]
theorem S1_no (s : Int) : NonameS (S1 s) := by
  intro e he x hx
  simp only [List.mem_singleton] at he
  subst he
  simp only [List.mem_singleton] at hx
  subst hx
  exact .int _ _
theorem S1_cut {s s' : Int} {L1 : List Slot} {v : IV} (hL : L1.take 1 = [S1 s']) (hv : Noname v) : Cut [S1 s] L1 v := by
  refine ⟨?_, fun b hb t ht => ?_, hv.inn _⟩
  · cases L1 with
    | nil => simp at hL
    | cons x l => simp
  · have hb' : b = 0 := by simp at hb; omega
    subst hb'
    cases L1 with
    | nil => simp at hL
    | cons x l =>
      simp only [List.getElem?_cons_zero, Option.some.injEq] at ht
      subst ht
      simp only [List.take_succ_cons, List.take_zero, List.cons.injEq, and_true] at hL
      subst hL
      refine .inr ⟨1, _, rfl, fun j k h h' => ?_⟩
      exact (S1_no s' _ (List.getElem_mem h) _ (List.getElem_mem h')).inn _
/-- What a function with dice leaves. -/
theorem FinP.one {res : List IRes} {s s' : Int} {v u : IV} {e : IEx} {E1 : Env} {L1 : List Slot} (he : e = .ret ∨ e = .normal) (hr : resultsI (Heap.of L1) E1 res = some u) (hL : L1.take 1 = [S1 s']) (hz : Frz (Heap.of L1) (Heap.of [S1 s']) u v) (hv : Noname v) :
    FinP res [S1 s] v [S1 s'] e E1 L1 := .intro u he hr hL hz (S1_cut hL hv)
def xorW (a b : Int) : Int := IntKind.u64.wrap (BitVec.ofInt IntKind.u64.bits a ^^^ BitVec.ofInt IntKind.u64.bits b).toNat
def shrW (a n : Int) : Int := a.fdiv (2 ^ (min n.toNat IntKind.u64.bits))
def dnext (s : Int) : Int := IntKind.u64.wrap (s + 11400714819323198485)
def dmix1 (z : Int) : Int := IntKind.u64.wrap (xorW z (shrW z 30) * 13787848793156543929)
def dmix2 (z : Int) : Int := IntKind.u64.wrap (xorW z (shrW z 27) * 10723151780598845931)
def dmix3 (z : Int) : Int := xorW z (shrW z 31)
def dout (s : Int) : Int := dmix3 (dmix2 (dmix1 (dnext s)))
theorem dout_lt (s : Int) : 0 ≤ dout s ∧ dout s ≤ 18446744073709551615 := by
  unfold dout dmix3 xorW
  generalize ((BitVec.ofInt IntKind.u64.bits (dmix2 (dmix1 (dnext s))) ^^^ BitVec.ofInt IntKind.u64.bits (shrW (dmix2 (dmix1 (dnext s))) 31)).toNat : Int) = x
  unfold IntKind.wrap
  simp [IntKind.signed, IntKind.bits]
  omega
def dUpto (s n : Int) : Int := if n < 1 then 0 else dout s % n
theorem dUpto_lt {s n : Int} (h : 1 ≤ n) : 0 ≤ dUpto s n ∧ dUpto s n < n := by
  unfold dUpto
  rw [if_neg (by omega)]
  exact ⟨Int.emod_nonneg _ (by omega), Int.emod_lt_of_pos _ (by omega)⟩
theorem dUpto_zero {s n : Int} (h : n < 1) : dUpto s n = 0 := by unfold dUpto; rw [if_pos h]
theorem dUpto_range (s n : Int) : 0 ≤ dUpto s n ∧ (dUpto s n < n ∨ dUpto s n = 0) := by
  by_cases h : n < 1
  · rw [dUpto_zero h]; exact ⟨Int.le_refl _, .inr rfl⟩
  · exact ⟨(dUpto_lt (by omega)).1, .inl (dUpto_lt (by omega)).2⟩
def dBetween (s low high : Int) : Int := low + dUpto s (high - low + 1)

end Go.Ideal

/- An ideal machine for Go code. Part 31: arguments, as lists. -/
namespace Go.Ideal
open Go.RowKit Go.ChangeShapes Go.WideShapes

def isStructT (P : Program) (t : TypeId) : Bool := match P.underlying t with
  | some (.struct _) => true
  | _ => false
theorem OkV.one {P : Program} {n : Nat} {t : TypeId} {x : IV} {c : CT} (h : OkV P n t x) (hc : cellTys P n t = some [c]) (hu : isStructT P t = false) : OkI c x := by
  obtain ⟨ts, xs, h1, h2, h3, h4⟩ := h.ok
  rw [hc] at h1
  cases h1
  rcases h4 with ⟨fs, h5, _⟩ | rfl
  · simp [isStructT, h5] at hu
  · exact h3 0 (by simp) (by simp)
theorem OkV.struct {P : Program} {n : Nat} {t : TypeId} {x : IV} {ts : List CT} (h : OkV P n t x) (hc : cellTys P n t = some ts) (hl : ts.length ≠ 1) : ∃ xs, x = .agg xs ∧ xs.length = ts.length ∧ ∀ (i : Nat) (h : i < ts.length) (h' : i < xs.length), OkI ts[i] xs[i] := by
  obtain ⟨ts', xs, h1, h2, h3, h4⟩ := h.ok
  rw [hc] at h1
  cases h1
  rcases h4 with ⟨fs, h5, rfl⟩ | rfl
  · exact ⟨xs, rfl, h2, h3⟩
  · exact absurd h2.symm hl
theorem OkI.int {k : IntKind} {x : IV} (h : OkI (.i k) x) : ∃ n, x = .int k n ∧ k.min ≤ n ∧ n ≤ k.max := by
  cases h with
  | i _ n h1 h2 => exact ⟨n, rfl, h1, h2⟩
theorem OkI.bool {x : IV} (h : OkI .b x) : ∃ b, x = .bool b := by
  cases h with
  | b b => exact ⟨b, rfl⟩
/-- A slice of things that are laid out so. -/
theorem OkI.slice {α : Type} {ts : List CT} {enc : α → List IV} {Q : α → Prop} {x : IV} (h : OkI (.sl ts) x) (he : ∀ e : List IV, e.length = ts.length → (∀ (k : Nat) (hk : k < e.length) (hk' : k < ts.length), OkI ts[k] e[k]) → ∃ a, e = enc a ∧ Q a) :
    ∃ l : List α, x = .fslice (l.map enc) ∧ l.length ≤ maxLen ∧ ∀ a ∈ l, Q a := by
  cases h with
  | sl _ es hl hs hv =>
    have key : ∀ es : Els, (∀ e ∈ es, ∃ a, e = enc a ∧ Q a) → ∃ l : List α, es = l.map enc ∧ ∀ a ∈ l, Q a := by
      intro es
      induction es with
      | nil => intro _; exact ⟨[], rfl, fun a ha => by cases ha⟩
      | cons e es ih =>
        intro h
        obtain ⟨a, rfl, ha⟩ := h e List.mem_cons_self
        obtain ⟨l, rfl, hl⟩ := ih (fun e' h' => h e' (List.mem_cons_of_mem _ h'))
        refine ⟨a :: l, rfl, fun b hb => ?_⟩
        rcases List.mem_cons.mp hb with rfl | hb
        · exact ha
        · exact hl b hb
    obtain ⟨l, rfl, hq⟩ := key es (fun e hm => by
      obtain ⟨j, hj, rfl⟩ := List.getElem_of_mem hm
      exact he _ (hs _ hm) (fun k hk hk' => hv j k hj hk hk'))
    exact ⟨l, rfl, by simpa using hl, hq⟩
theorem OkI.ints {x : IV} (h : OkI (.sl [.i .i64]) x) : ∃ l : List Int, x = Go.Ideal.sl l ∧ l.length ≤ maxLen := by
  obtain ⟨l, h1, h2, _⟩ := h.slice (enc := ei) (Q := fun _ => True) (fun e hl hk => by
    obtain ⟨y, rfl⟩ : ∃ y, e = [y] := List.length_eq_one_iff.mp hl
    obtain ⟨n, hn, _⟩ := (hk 0 (by simp) (by simp)).int
    exact ⟨n, by rw [ei, ← hn]; rfl, trivial⟩)
  exact ⟨l, h1, h2⟩
theorem OkI.rows {x : IV} (h : OkI (.sl [.sl [.i .i64]]) x) : ∃ t : List (List Int), x = sll t ∧ t.length ≤ maxLen ∧ ∀ r ∈ t, r.length ≤ maxLen := by
  obtain ⟨l, h1, h2, h3⟩ := h.slice (enc := el) (Q := fun r => r.length ≤ maxLen) (fun e hl hk => by
    obtain ⟨y, rfl⟩ : ∃ y, e = [y] := List.length_eq_one_iff.mp hl
    obtain ⟨r, hr, hl⟩ := (hk 0 (by simp) (by simp)).ints
    exact ⟨r, by rw [el, ← hr]; rfl, hl⟩)
  exact ⟨l, h1, h2, h3⟩
theorem trodAll_ds {H : Type} {enc : TypeId × Value → H} {P : Program} {w : World} {held : Bool} : ∀ {ts : List TypeId} {vs : List Value} {ds : List (DataW H)} {p : List MemPlace}, DataW.TrodAll enc P w 0 (fun _ => true) held ts vs ds p → ds.length = ts.length
  | [], vs, ds, p, h => by
    obtain ⟨rfl, rfl, rfl⟩ := trodAll_nil h
    rfl
  | t :: ts, vs, ds, p, h => by
    obtain ⟨v, vs', d, ds', p1, q1, rfl, rfl, rfl, h1, h2⟩ := trodAll_cons h
    simp [trodAll_ds h2]
end Go.Ideal

/- An ideal machine for Go code. Part 32: ranges over functions, run by computing. -/
namespace Go.Ideal

/-- How a range over a function ends. -/
inductive RangeEnd (ls : LoopState → IEx → Slot) (E : Env) (n : Nat) (Q : IEx → Env → List Slot → Prop) (L2 : List Slot) : Prop
  | intro (s : LoopState) (e : IEx) (hL : L2[n]? = some (ls s e)) (hs : s ≠ .busy) (k : setK L2 n .dead (Q e E)) : RangeEnd ls E n Q L2

/-- The statement: a slot for the loop, then the call, with yield. -/
theorem range_rule {T : Sys} {k0 : Nat} {g : Opd} {ps : List Nat} {aa bd : IC} {E : Env} {L : List Slot} {Q : IEx → Env → List Slot → Prop} (st : List (Nat × IV)) (hE : chkE E st) {f : FuncId} {fs cs : List IV} {fn : IFunc} (hg : g.ev E = .func (.func f) fs cs) (hT : T.fn f = some fn)
    (h : ∀ ls : LoopState → IEx → Slot, (∀ s e, ls s e = .loop (envL st) ps aa bd s e) → litK L.length fun n => snocK L (ls .ready .normal) fun L1 => CallP T (.func (.func f) fs cs) [.yield n] L1 fun _ L2 => RangeEnd ls E n Q L2) : LoopP T k0 (.rangeFunc g ps aa bd) E L Q := by
  have h1 := h _ (fun _ _ => rfl)
  rw [litK_eq, snocK_eq] at h1
  cases h1 with
  | intro v L2 hc k =>
  cases k with
  | intro s e hL hs k =>
  obtain ⟨k1, k2⟩ := setK_elim k
  rw [Heap.of_snoc] at hc
  have := Ev.rangeFunc (S := Sk k0) (Heap.of_free L) (chkE_le hE) hg hT hc (Heap.of_get hL) hs
  rw [← Heap.of_set k1] at this
  exact .intro e E _ this k2

/-- A call of yield: a round. -/
theorem CallP.yield {T : Sys} {l : Nat} {args : List IV} {L : List Slot} {K : IV → List Slot → Prop} {ls : LoopState → IEx → Slot} {st : List (Nat × IV)} {ps : List Nat} {aa bd : IC} (hls : ∀ s e, ls s e = .loop (envL st) ps aa bd s e) (hy : T.rounds = true)
    (hL : L[l]? = some (ls .ready .normal)) (hu : L.all Slot.used = true) (hn : args.length = ps.length)
    (h : wpC T L.length aa ((envL st).puts ps args) L (fun e E1 L1 => match e with
      | .normal => L1[l]? = some (ls .ready .normal) ∧ setK L1 l (ls .busy .normal) fun L2 => wpC T L.length bd E1 L2 fun e E2 L3 => match e with
        | .normal => L3[l]? = some (ls .busy .normal) ∧ setK L3 l (ls .ready .normal) (K (.bool true))
        | .ret => L3[l]? = some (ls .busy .normal) ∧ setK L3 l (ls .done .ret) (K (.bool false))
        | .exit id => L3[l]? = some (ls .busy .normal) ∧ setK L3 l (ls .done (.exit id)) (K (.bool false))
      | _ => False)) : CallP T (.yield l) args L K := by
  have hS : ∀ b, (Heap.of L) b ≠ .free → Sk L.length b := fun b hb => Classical.byContradiction fun q => hb (by simp only [Heap.of]; rw [List.getElem?_eq_none (by simp only [Sk] at q; omega)])
  have hS' : ∀ b, Sk L.length b → (Heap.of L) b ≠ .free := by
    intro b hb
    have hb' : b < L.length := hb
    rw [List.all_eq_true] at hu
    have := hu _ (List.getElem_mem hb')
    simp only [Heap.of, List.getElem?_eq_getElem hb']
    intro q
    rw [q] at this
    cases this
  obtain ⟨e, E1, L1, h1, h2⟩ := wpC_sound h
  cases e with
  | exit id => exact h2.elim
  | ret => exact h2.elim
  | normal =>
    obtain ⟨h3, h4⟩ := h2
    obtain ⟨h5, h6⟩ := setK_elim h4
    obtain ⟨e, E2, L3, h7, h8⟩ := wpC_sound h6
    rw [Heap.of_set h5] at h7
    have fin : ∀ (b : Bool) (s : LoopState), b = decide (e = .normal) → s = (if e = .normal then .ready else .done) → L3[l]? = some (ls .busy .normal) ∧ setK L3 l (ls s e) (K (.bool b)) → CallP T (.yield l) args L K := by
      rintro b s rfl rfl ⟨g1, g2⟩
      obtain ⟨g3, g4⟩ := setK_elim g2
      have a1 := Heap.of_get hL
      have a2 := Heap.of_get h3
      have a3 := Heap.of_get g1
      rw [hls] at a1 a2 a3 h7
      refine .intro _ _ ?_ g4
      rw [Heap.of_set g3, hls]
      exact Ev.yield hy hS hS' a1 hn h1 a2 h7 a3
    cases e with
    | normal => exact fin true .ready rfl rfl h8
    | ret => exact fin false .done rfl rfl h8
    | exit id => exact fin false .done rfl rfl h8

def killL : List Nat → List Slot → List Slot
  | [], L => L
  | b :: bs, L => killL bs (L.set b .dead)
theorem killL_get : ∀ {bs : List Nat} {L : List Slot} (c : Nat), (killL bs L)[c]? = L[c]? ∨ ((killL bs L)[c]? = some .dead ∧ L[c]? ≠ none)
  | [], L, c => .inl rfl
  | b :: bs, L, c => by
    have ih := killL_get (bs := bs) (L := L.set b .dead) c
    rw [killL]
    by_cases e : b = c
    · subst e
      by_cases q : b < L.length
      · rw [List.getElem?_set_self q] at ih
        right
        refine ⟨?_, by rw [List.getElem?_eq_getElem q]; simp⟩
        rcases ih with ih | ⟨ih, _⟩
        · exact ih
        · exact ih
      · rw [show (L.set b .dead)[b]? = L[b]? by rw [List.getElem?_eq_none (by simp; omega), List.getElem?_eq_none (by omega)]] at ih
        exact ih
    · rw [List.getElem?_set_ne e] at ih
      exact ih
def forceS (L : List Slot) : (List Slot → Prop) → Prop :=
  List.rec (motive := fun _ => (List Slot → Prop) → Prop) (fun K => K []) (fun x _ ih K => ih fun xs => K (x :: xs)) L
theorem forceS_eq : ∀ (L : List Slot) (K : List Slot → Prop), forceS L K = K L
  | [], _ => rfl
  | x :: xs, K => by
    show forceS xs (fun xs => K (x :: xs)) = _
    rw [forceS_eq xs]
/-- bs: the blocks that are given up; args': the arguments, frozen. -/
theorem CallP.frz {T : Sys} {f : IV} {args : List IV} {L : List Slot} {K : IV → List Slot → Prop} (bs : List Nat) (hL : L.all Slot.used = true) (args' : List IV) (hz : FzL (Heap.of L) (Heap.of (killL bs L)) args args')
    (h : forceS (killL bs L) fun L2 => CallP T f args' L2 K) : CallP T f args L K := by
  rw [forceS_eq] at h
  cases h with
  | intro v L1 h k =>
  refine .intro v L1 (.frz (fun b => ?_) hz.len (fun i a b => hz.get i a b) h) k
  rcases killL_get (bs := bs) (L := L) b with e | ⟨e, e'⟩
  · exact .inl (by simp only [Heap.of, e])
  · refine .inr ⟨by simp only [Heap.of, e], fun q => ?_⟩
    cases hb : L[b]? with
    | none => exact e' hb
    | some s =>
      simp only [Heap.of, hb] at q
      rw [List.all_eq_true] at hL
      have := hL s (List.mem_of_getElem? hb)
      rw [q] at this
      cases this

theorem MvS.ls {kept : List Nat} {H1 H2 : Heap} {ls : LoopState → IEx → Slot} {st : List (Nat × IV)} {ps : List Nat} {aa bd : IC} {s : LoopState} {e : IEx} (hls : ∀ s e, ls s e = .loop (envL st) ps aa bd s e) (h : chkI (fun b => kept[b]? = some b) st) : MvS kept H1 H2 (ls s e) (ls s e) := by
  rw [hls]; exact .loop (chkI_inn h)
theorem inn_row {S : Nat → Prop} {r : List IV} (h : ∀ x ∈ r, Inn S x) : ∀ (j k : Nat) (hj : j < [r].length) (hk : k < ([r][j]).length), Inn S ([r][j][k]) := by
  intro j k hj hk
  obtain rfl : j = 0 := by simpa using hj
  exact h _ (List.getElem_mem hk)
theorem in_one {S : Nat → Prop} {x : IV} (h : Inn S x) : ∀ y ∈ [x], Inn S y := fun y hy => by
  obtain rfl := List.mem_singleton.mp hy; exact h
theorem in_cons {S : Nat → Prop} {x : IV} {l : List IV} (h : Inn S x) (k : ∀ y ∈ l, Inn S y) : ∀ y ∈ x :: l, Inn S y := fun y hy => by
  rcases List.mem_cons.mp hy with rfl | hy
  · exact h
  · exact k y hy
theorem inn_func {S : Nat → Prop} {fn : Fn} {cs : List IV} (h : ∀ x ∈ cs, Inn S x) : Inn S (.func fn [] cs) := .func _ _ _ (fun i q => by simp at q) (fun i q => h _ (List.getElem_mem q))

end Go.Ideal

/- An ideal machine for Go code. Part 33: lists that grow in loops, blocks that are lent, functions that hand back new blocks. -/
namespace Go.Ideal

theorem LoopP.pad {T : Sys} {k0 : Nat} {c : IC} {E : Env} {L : List Slot} {Q : IEx → Env → List Slot → Prop} (n : Nat) (h : LoopP T k0 c E (L ++ List.replicate n .dead) Q) : LoopP T k0 c E L Q := by
  cases h with
  | intro e E1 L1 h k =>
    refine .intro e E1 L1 (.pad (fun b => ?_) h) k
    by_cases q : b < L.length
    · left; simp only [Heap.of]; rw [List.getElem?_append_left q]
    · have e0 : (Heap.of L) b = .free := by simp only [Heap.of]; rw [List.getElem?_eq_none (by omega)]
      by_cases r : b < L.length + n
      · right
        refine ⟨e0, ?_⟩
        simp only [Heap.of]
        rw [List.getElem?_append_right (by omega), List.getElem?_replicate, if_pos (by omega)]
      · left; rw [e0]; simp only [Heap.of]; rw [List.getElem?_eq_none (by simp; omega)]

/-- The block of a list that is being made: none at first. -/
def lsS {α : Type} (sz : Nat) (enc : α → List IV) (l : List α) : Slot := match l with
  | [] => .dead
  | a :: l => .live sz ((a :: l).map enc)
theorem lsS_ne {α : Type} {sz : Nat} {enc : α → List IV} {l : List α} (h : l ≠ []) : lsS sz enc l = .live sz (l.map enc) := by cases l with | nil => exact absurd rfl h | cons a l => rfl
theorem lsS_no {α : Type} {sz : Nat} {enc : α → List IV} {l : List α} (h : ∀ a, ∀ x ∈ enc a, Noname x) : NonameS (lsS sz enc l) := by
  cases l with
  | nil => trivial
  | cons a l => exact noS_map h
theorem lsS_inn {α : Type} {S : Nat → Prop} {sz : Nat} {enc : α → List IV} {l : List α} {r : List Slot} (h : ∀ a, ∀ x ∈ enc a, Noname x) (k : chkS S r) : chkS S (lsS sz enc l :: r) := by
  cases l with
  | nil => exact k
  | cons a l => exact ⟨fun j i hj hi => (noS_map (sz := sz) h _ (List.getElem_mem hj) _ (List.getElem_mem hi)).inn _, k⟩
theorem force_om {α : Type} {b : Nat} {l : List α} {K : IV → Prop} (h : K (omsl b l)) : force (omsl b l) K := by rw [force_eq]; exact h
theorem forceC_om {α : Type} {b : Nat} {l : List α} {K : IV → Prop} (h : K (omsl b l)) : forceC (omsl b l) K := by rw [forceC_eq]; exact h
theorem OpP.snoc {E : Env} {L : List Slot} {zero : List Cst} {bytes : Nat} {s x : Opd} {K : IV → List Slot → Prop} {α : Type} {enc : α → List IV} {l : List α} {r : List IV} {b : Nat} (hs : s.ev E = omsl b l) (hH : L[b]? = some (lsS zero.length enc l)) (hx : elsOf (Heap.of L) (x.ev E) = some [r])
    (hz : r.length = zero.length) (hok : ∀ c ∈ r, IV.cellOk c = true) (hbig : (l.length + 1) * (bytes + 1) ≤ 2 ^ 40)
    (k : setK L b .dead fun L1 => litK L1.length fun n => snocK L1 (.live zero.length (l.map enc ++ [r])) (K (.mslice n 0 (l.length + 1) (l.length + 1) false))) : OpP E L (.append zero bytes s x) K := by
  have hz1 : ∀ e ∈ [r], e.length = zero.length := fun e he => by rw [List.mem_singleton] at he; subst he; exact hz
  have hok1 : ∀ e ∈ [r], ∀ c ∈ e, IV.cellOk c = true := fun e he => by rw [List.mem_singleton] at he; subst he; exact hok
  cases l with
  | nil =>
    obtain ⟨h1, h2⟩ := setK_elim k
    have e : L.set b .dead = L := by
      apply List.ext_getElem? ; intro i
      by_cases q : i = b
      · subst q; rw [List.getElem?_set_self h1]; exact hH.symm
      · rw [List.getElem?_set_ne (fun z => q z.symm)]
    rw [e] at h2
    exact .nil (.inl hs) hx (by simp) hz1 hok1 rfl (by simpa using hbig) (by simpa using h2)
  | cons a l =>
    refine .grow (n' := (a :: l).length + 1) hs hH (by simp) hx (by simp) hz1 hok1 rfl (by simp) hbig k
theorem MvS.snocL {kept : List Nat} {H H' : Heap} {sz : Nat} {α : Type} {enc : α → List IV} {l : List α} {a : α} {r : List IV} (h : ∀ a, ∀ x ∈ enc a, Noname x) (hr : MvL kept H H' r (enc a)) : MvS kept H H' (.live sz (l.map enc ++ [r])) (lsS sz enc (l ++ [a])) := by
  rw [lsS_ne (by simp)]
  refine .live (by simp) (fun j h1 h2 => ?_) (fun j k h1 h2 h3 h4 => ?_)
  · simp only [List.length_append, List.length_map, List.length_singleton] at h1
    by_cases q : j < l.length
    · simp [List.getElem_append, q]
    · obtain rfl : j = l.length := by omega
      simp [List.getElem_append, hr.len]
  · simp only [List.length_append, List.length_map, List.length_singleton] at h1
    by_cases q : j < l.length
    · have e1 : (l.map enc ++ [r])[j] = enc l[j] := by simp [List.getElem_append, q]
      have e2 : ((l ++ [a]).map enc)[j] = enc l[j] := by simp [List.getElem_append, q]
      have : (l.map enc ++ [r])[j][k] = ((l ++ [a]).map enc)[j][k] := by simp only [e1, e2]
      rw [this]
      refine .same ?_
      simp only [e2]
      exact h _ _ (List.getElem_mem _)
    · obtain rfl : j = l.length := by omega
      have e1 : (l.map enc ++ [r])[l.length]'(by simp) = r := by simp
      have e2 : ((l ++ [a]).map enc)[l.length]'h2 = enc a := by simp
      simp only [e1, e2] at h3 h4 ⊢
      exact hr.get k h3 h4
theorem Frz.oml {H H' : Heap} {α : Type} {enc : α → List IV} {l : List α} {b sz : Nat} (hH : H b = lsS sz enc l) (hH' : ∀ sz e, H' b ≠ .live sz e) : Frz H H' (omsl b l) (.fslice (l.map enc)) := by
  cases l with
  | nil => exact .nil
  | cons a l => exact .whole hH hH' (by simp) (.refl _)
theorem get_enc {α : Type} {enc : α → List IV} {l : List α} {i : Nat} (h : i < l.length) : (l.map enc)[i]? = some (enc l[i]) := by rw [List.getElem?_map, List.getElem?_eq_getElem h]; rfl
theorem store_enc {L : List Slot} {b sz i : Nat} {α : Type} {enc : α → List IV} {l l' : List α} {a : α} {e' : List IV} {K : List Slot → Prop} (he : e' = enc a) (hl : l.set i a = l') (h : setK L b (.live sz (l'.map enc)) K) : storeK L b sz i (l.map enc) e' K := by
  subst he
  subst hl
  refine store_sym ?_
  rw [List.map_set] at h
  exact h
theorem kill_case {bs : List Nat} {L : List Slot} (hL : L.all Slot.used = true) (b : Nat) : (Heap.of (killL bs L)) b = (Heap.of L) b ∨ ((Heap.of (killL bs L)) b = .dead ∧ (Heap.of L) b ≠ .free) := by
  rcases killL_get (bs := bs) (L := L) b with e | ⟨e, e'⟩
  · exact .inl (by simp only [Heap.of, e])
  · refine .inr ⟨by simp only [Heap.of, e], fun q => ?_⟩
    cases hb : L[b]? with
    | none => exact e' hb
    | some s =>
      simp only [Heap.of, hb] at q
      rw [List.all_eq_true] at hL
      have := hL s (List.mem_of_getElem? hb)
      rw [q] at this
      cases this
theorem CallP.borrow {T : Sys} {f : FuncId} {args : List IV} {L : List Slot} {K : IV → List Slot → Prop} {v : IV} (bs : List Nat) (hL : L.all Slot.used = true) {args' : List IV} (hz : FzL (Heap.of L) (Heap.of (killL bs L)) args args') (ha : ∀ x ∈ args', Noname x)
    (h : ∀ H, Ev T (.call (.func (.func f) [] []) args' H) (.call v H)) (hv : Bare v) (k : K v L) : CallP T (.func (.func f) [] []) args L K := by
  have e0 : ∀ b, (Heap.of []) b = .free := fun b => rfl
  refine .intro v L (.borrow (H2 := Heap.of (killL bs L)) (H := Heap.of []) (H1 := Heap.of []) (kill_case hL) hz.len (fun i a b => hz.get i a b) (.func _ _ _ (fun i h => by simp at h) (fun i h => by simp at h)) (fun x hx => (ha x hx).inn _)
    ⟨fun b sz es hb => (by rw [e0] at hb; cases hb), fun b E ps aa bd st pd hb => (by rw [e0] at hb; cases hb)⟩ (h _) (fun b => .inr ⟨rfl, rfl, rfl⟩) (fun b => rfl) (fun b => rfl) hv (fun b sz es hb => by rw [e0] at hb; cases hb)) k
inductive BareL : List IV → Prop
  | nil : BareL []
  | cons {x : IV} {xs : List IV} (h : Bare x) (k : BareL xs) : BareL (x :: xs)
theorem BareL.get {l : List IV} (h : BareL l) : ∀ (i : Nat) (hi : i < l.length), Bare l[i] := by
  induction h with
  | nil => intro i hi; simp at hi
  | cons h _ ih =>
    intro i hi
    cases i with
    | zero => exact h
    | succ i => exact ih i (by simpa using hi)
theorem Bare.aggL {l : List IV} (h : BareL l) : Bare (.agg l) := .agg l h.get
theorem Bare.tupleL {l : List IV} (h : BareL l) : Bare (.tuple l) := .tuple l h.get
section
variable {T : Sys} {f : FuncId} {args : List IV} {v : IV} {L0 L2 : List Slot}
def hset : Heap → List Nat → List Slot → Heap
  | H, n :: ns, s :: ss => hset (H.set n s) ns ss
  | H, _, _ => H
end

end Go.Ideal

/- An ideal machine for Go code. Part 34: behind a loop some blocks are kept, others are given up, and what lies in them is frozen. -/
namespace Go.Ideal

inductive KeptP (k0 : Nat) (Q : IEx → Env → List Slot → Prop) (e : IEx) (E1 : Env) (L1 : List Slot) : Prop
  | intro (kept : List Nat) (st : List (Nat × IV)) (Ls : List Slot) (hi : (incr kept && firsts k0 0 kept) = true) (hE : chkM kept (Heap.of L1) (pickH kept Ls) E1 st) (hL : chkK kept (Heap.of L1) (pickH kept Ls) kept Ls) (k : Q e (envL st) Ls) : KeptP k0 Q e E1 L1
theorem LoopP.keep {T : Sys} {k0 : Nat} {c : IC} {E : Env} {L : List Slot} {Q : IEx → Env → List Slot → Prop} (h : LoopP T k0 c E L (KeptP k0 Q)) : LoopP T k0 c E L Q := by
  cases h with
  | intro e E1 L1 h k =>
  cases k with
  | intro kept st Ls hi hE hL k =>
  rw [Bool.and_eq_true] at hi
  exact .intro e _ _ (h.move kept Ls (incr_pair hi.1) (fun i hk => by have := firsts_get hi.2 i hk; rwa [Nat.zero_add] at this) (chkK_len hL) (chkK_get hL) (chkM_le hE)) k

/-- What is given up ahead of a loop is frozen. bs: the blocks; st: what is wanted still. -/
theorem LoopP.start {T : Sys} {k0 : Nat} {c : IC} {E : Env} {L : List Slot} {Q : IEx → Env → List Slot → Prop} (bs : List Nat) (st : List (Nat × IV)) (hL : L.all Slot.used = true) (hE : chkF (Heap.of L) (Heap.of (killL bs L)) E st) (h : forceS (killL bs L) fun L2 => LoopP T k0 c (envL st) L2 Q) : LoopP T k0 c E L Q := by
  rw [forceS_eq] at h
  cases h with
  | intro e E1 L1 h k => exact .intro e E1 L1 (.start (kill_case hL) (chkF_le hE) h) k
/-- One appended, told as a longer list. -/
theorem OpP.snocM {E : Env} {L : List Slot} {zero : List Cst} {bytes : Nat} {s x : Opd} {K : IV → List Slot → Prop} {α : Type} {enc : α → List IV} {l : List α} (a : α) {b : Nat} (hs : s.ev E = omsl b l) (hH : L[b]? = some (lsS zero.length enc l)) (hx : elsOf (Heap.of L) (x.ev E) = some [enc a])
    (hz : (enc a).length = zero.length) (hok : ∀ c ∈ enc a, IV.cellOk c = true) (hbig : (l.length + 1) * (bytes + 1) ≤ 2 ^ 40)
    (k : setK L b .dead fun L1 => litK L1.length fun n => snocK L1 (.live zero.length ((l ++ [a]).map enc)) (K (.mslice n 0 (l.length + 1) (l.length + 1) false))) : OpP E L (.append zero bytes s x) K := by
  rw [List.map_append] at k
  exact .snoc hs hH hx hz hok hbig k
theorem MvS.lsM {kept : List Nat} {H1 H2 : Heap} {sz : Nat} {α : Type} {enc : α → List IV} {l : List α} (h : l ≠ []) (hn : ∀ a, ∀ x ∈ enc a, Noname x) : MvS kept H1 H2 (.live sz (l.map enc)) (lsS sz enc l) := by
  rw [lsS_ne h]
  exact .same (noS_map hn)

end Go.Ideal
