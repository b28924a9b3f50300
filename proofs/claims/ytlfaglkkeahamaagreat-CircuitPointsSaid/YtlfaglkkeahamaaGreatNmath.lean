/- Nets, plain: what narrows, and what follows. -/
import Derived.Test.YtlfaglkkeahamaaGreatNnet
set_option linter.unusedVariables false
set_option linter.unusedSimpArgs false
namespace Go.Proofs.YtlfaglkkeahamaaGreat.I
open Go.Ideal

theorem spot_any {l : List Int} (ha : Asc l) (h0 : 0 < l.length) (v : Int) : ∃ a u o, Spot l v a u o := by
  by_cases h1 : v ≤ nth l 0
  · exact ⟨_, _, _, .low h1⟩
  by_cases h2 : nth l (l.length - 1) ≤ v
  · exact ⟨_, _, _, .high h2⟩
  have key : ∀ d i, i + d = l.length - 1 → nth l i < v → ∃ a u o, Spot l v a u o := by
    intro d
    induction d with
    | zero =>
      intro i hi hv
      obtain rfl : i = l.length - 1 := by omega
      omega
    | succ d ih =>
      intro i hi hv
      rcases Int.lt_trichotomy v (nth l (i + 1)) with q | q | q
      · exact ⟨_, _, _, .mid i (by omega) hv q⟩
      · exact ⟨_, _, _, .on (i + 1) (by omega) q.symm⟩
      · exact ih (i + 1) (by omega) q
  exact key (l.length - 1) 0 (by omega) (by omega)
theorem at_any {g p : List Int} {lo hi : List (List Int)} (F : FamOk g p lo hi) (v w : Int) : ∃ xa xu xo ya yu yo, Spot g v xa xu xo ∧ Spot p w ya yu yo ∧ Plc g.length xa xu xo ∧ Plc p.length ya yu yo := by
  obtain ⟨xa, xu, xo, sx⟩ := spot_any F.g.asc F.g0 v
  obtain ⟨ya, yu, yo, sy⟩ := spot_any F.p.asc F.p0 w
  exact ⟨xa, xu, xo, ya, yu, yo, sx, sy, (sx.plc F.g F.g0 (by omega)).1, (sy.plc F.p F.p0 (by omega)).1⟩
theorem Fam.Ok.rl {F : Fam} (h : F.Ok) : Rises F.g.length F.p.length F.lo := ⟨fun i k a b => (h.upG i k a b).1, fun i k a b => (h.upP i k a b).1⟩
theorem Fam.Ok.rh {F : Fam} (h : F.Ok) : Rises F.g.length F.p.length F.hi := ⟨fun i k a b => (h.upG i k a b).2, fun i k a b => (h.upP i k a b).2⟩
theorem Fam.Ok.byGrid {F : Fam} (h : F.Ok) {v v' : Int} (hv : v ≤ v') (w : Int) : F.cLo v w ≤ F.cLo v' w ∧ F.cHi v w ≤ F.cHi v' w := by
  obtain ⟨xa, xu, xo, ya, yu, yo, sx, sy, x, y⟩ := at_any h v w
  obtain ⟨xa', xu', xo', sx'⟩ := spot_any h.g.asc h.g0 v'
  have x' := (sx'.plc h.g h.g0 (by omega)).1
  have hl := Spot.le h.g.asc h.g0 hv sx sx'
  have o0 := Int.mul_pos x.pos y.pos
  have o1 := Int.mul_pos x'.pos y.pos
  unfold Fam.cLo Fam.cHi
  rw [(at_spots h sx sy F.lo).1, (at_spots h sx sy F.hi).2, (at_spots h sx' sy F.lo).1, (at_spots h sx' sy F.hi).2]
  exact ⟨down_frac o0 o1 (vat_grid h.rl x x' y hl), up_frac o0 o1 (vat_grid h.rh x x' y hl)⟩
theorem Fam.Ok.byPlate {F : Fam} (h : F.Ok) (v : Int) {w w' : Int} (hw : w ≤ w') : F.cLo v w ≤ F.cLo v w' ∧ F.cHi v w ≤ F.cHi v w' := by
  obtain ⟨xa, xu, xo, ya, yu, yo, sx, sy, x, y⟩ := at_any h v w
  obtain ⟨ya', yu', yo', sy'⟩ := spot_any h.p.asc h.p0 w'
  have y' := (sy'.plc h.p h.p0 (by omega)).1
  have hl := Spot.le h.p.asc h.p0 hw sy sy'
  have o0 := Int.mul_pos x.pos y.pos
  have o1 := Int.mul_pos x.pos y'.pos
  unfold Fam.cLo Fam.cHi
  rw [(at_spots h sx sy F.lo).1, (at_spots h sx sy F.hi).2, (at_spots h sx sy' F.lo).1, (at_spots h sx sy' F.hi).2]
  exact ⟨down_frac o0 o1 (vat_plate h.rl x y y' hl), up_frac o0 o1 (vat_plate h.rh x y y' hl)⟩
/-- A family within another one. -/
structure Fam.In (F' F : Fam) : Prop where
  g : F'.g = F.g
  p : F'.p = F.p
  cell : ∀ i k, i < F.g.length → k < F.p.length → vc F.lo i k ≤ vc F'.lo i k ∧ vc F'.hi i k ≤ vc F.hi i k
theorem Fam.In.rfl (F : Fam) : F.In F := ⟨Eq.refl _, Eq.refl _, fun i k _ _ => ⟨Int.le_refl _, Int.le_refl _⟩⟩
theorem Fam.In.cur {F' F : Fam} (h : F'.In F) (hF : F.Ok) (hF' : F'.Ok) (v w : Int) : F.cLo v w ≤ F'.cLo v w ∧ F'.cHi v w ≤ F.cHi v w := by
  obtain ⟨g, p, lo, hi⟩ := F
  obtain ⟨g', p', lo', hi'⟩ := F'
  obtain ⟨rfl, rfl, hc⟩ := h
  dsimp only at hc
  obtain ⟨xa, xu, xo, ya, yu, yo, sx, sy, x, y⟩ := at_any hF v w
  have o0 := Int.mul_pos x.pos y.pos
  unfold Fam.cLo Fam.cHi
  dsimp only at sx sy x y ⊢
  rw [(at_spots hF sx sy lo).1, (at_spots hF sx sy hi).2, (at_spots hF' sx sy lo').1, (at_spots hF' sx sy hi').2]
  exact ⟨down_mono o0 (vat_le (fun i k a b => (hc i k a b).1) x y), up_mono o0 (vat_le (fun i k a b => (hc i k a b).2) x y)⟩
theorem Fam.Ok.cur {F : Fam} (h : F.Ok) (v w : Int) : 0 ≤ F.cLo v w ∧ F.cLo v w ≤ F.cHi v w ∧ F.cHi v w ≤ 1000000 := by
  obtain ⟨xa, xu, xo, ya, yu, yo, sx, sy, x, y⟩ := at_any h v w
  have o0 := Int.mul_pos x.pos y.pos
  have b1 := vat_bounds h.cl x y
  have b2 := vat_bounds h.ch x y
  have b3 := vat_le (t := F.lo) (t' := F.hi) (fun i k a b => (h.cell i k a b).2.1) x y
  unfold Fam.cLo Fam.cHi
  rw [(at_spots h sx sy F.lo).1, (at_spots h sx sy F.hi).2]
  rw [← Int.mul_assoc] at b1 b2
  generalize vat F.lo xa xu xo ya yu yo = V at *
  generalize vat F.hi xa xu xo ya yu yo = W at *
  generalize xo * yo = o at *
  have c1 := Int.ediv_mul_le V (Int.ne_of_gt o0)
  have c2 := up_ge W o0
  have c3 := up_lt W o0
  refine ⟨Int.ediv_nonneg b1.1 (by omega), ?_, ?_⟩
  · exact Int.le_of_mul_le_mul_right (show V / o * o ≤ up W o * o by omega) o0
  · have : up W o - 1 < 1000000 := Int.lt_of_mul_lt_mul_right (a := o) (show (up W o - 1) * o < 1000000 * o by rw [Int.mul_comm 1000000 o]; omega) (by omega)
    omega

structure RIn (a b : Rg) : Prop where
  lo : b.lo ≤ a.lo
  hi : a.hi ≤ b.hi
theorem RIn.rfl (a : Rg) : RIn a a := ⟨Int.le_refl _, Int.le_refl _⟩
theorem RIn.trans {a b c : Rg} (h : RIn a b) (k : RIn b c) : RIn a c := ⟨by have := h.lo; have := k.lo; omega, by have := h.hi; have := k.hi; omega⟩
structure WIn (x y : List Rg) : Prop where
  len : x.length = y.length
  at_ : ∀ k : Nat, RIn (at' x (k : Int)) (at' y (k : Int))
theorem WIn.rfl (x : List Rg) : WIn x x := ⟨Eq.refl _, fun k => .rfl _⟩
theorem WIn.trans {a b c : List Rg} (h : WIn a b) (k : WIn b c) : WIn a c := ⟨h.len.trans k.len, fun i => (h.at_ i).trans (k.at_ i)⟩
theorem at'_nat {α : Type} [Inhabited α] (l : List α) {n : Int} (h : 0 ≤ n) : at' l n = at' l ((n.toNat : Nat) : Int) := by rw [Int.toNat_of_nonneg h]
theorem WIn.get {x y : List Rg} (h : WIn x y) {n : Int} (h0 : 0 ≤ n) : RIn (at' x n) (at' y n) := by rw [at'_nat x h0, at'_nat y h0]; exact h.at_ _
/-- No range is empty. -/
def Full (x : List Rg) : Prop := ∀ k : Nat, (at' x (k : Int)).lo ≤ (at' x (k : Int)).hi
theorem Full.get {x : List Rg} (h : Full x) {n : Int} (h0 : 0 ≤ n) : (at' x n).lo ≤ (at' x n).hi := by rw [at'_nat x h0]; exact h _
theorem at'_set {α : Type} [Inhabited α] (l : List α) (j k : Nat) (a : α) : at' (l.set j a) (k : Int) = if k = j ∧ j < l.length then a else at' l (k : Int) := by
  unfold at'
  rw [Int.toNat_natCast, List.getD_eq_getElem?_getD, List.getD_eq_getElem?_getD, List.getElem?_set]
  by_cases h : j = k
  · subst h
    rw [if_pos rfl]
    by_cases h2 : j < l.length
    · rw [if_pos h2, if_pos ⟨rfl, h2⟩]; rfl
    · rw [if_neg h2, if_neg (by omega), List.getElem?_eq_none (by omega)]
  · rw [if_neg h, if_neg (by omega)]
theorem set_same {α : Type} [Inhabited α] (l : List α) (j : Nat) : l.set j (at' l (j : Int)) = l := by
  apply List.ext_getElem?
  intro k
  rw [List.getElem?_set]
  split
  · rename_i h
    subst h
    split
    · rename_i h; rw [at'_get h, List.getElem?_eq_getElem h]
    · rename_i h; rw [List.getElem?_eq_none (by omega)]
  · rfl

theorem mul_div_le {u d a b : Int} (hu : 0 ≤ u) (hd : 0 < d) (h : a ≤ b) : u * a / d ≤ u * b / d := Int.ediv_le_ediv hd (Int.mul_le_mul_of_nonneg_left h hu)
theorem mul_up_le {u d a b : Int} (hu : 0 ≤ u) (hd : 0 < d) (h : a ≤ b) : up (u * a) d ≤ up (u * b) d := up_mono hd (Int.mul_le_mul_of_nonneg_left h hu)
theorem div_le_up (n : Int) {d : Int} (hd : 0 < d) : n / d ≤ up n d := by
  have c1 := Int.ediv_mul_le n (Int.ne_of_gt hd)
  have c2 := up_ge n hd
  exact Int.le_of_mul_le_mul_right (show n / d * d ≤ up n d * d by omega) hd
theorem gLo_in {x y : List Rg} {m : Int} {l : List Tap} (hl : TapsOk m l) (h : WIn x y) {b c : Int} (hb : c ≤ b) : ∀ k, k ≤ l.length → gLo y l c k ≤ gLo x l b k
  | 0, _ => hb
  | k + 1, hk => by
    have ih := gLo_in hl h hb k (by omega)
    have ht := hl.ok k (by omega)
    have := (h.get ht.n0).lo
    have := mul_div_le (u := (at' l (k : Int)).num) (d := (at' l (k : Int)).den) ht.u0 (by have := ht.d0; omega) this
    rw [gLo, gLo]; omega
theorem gHi_in {x y : List Rg} {m : Int} {l : List Tap} (hl : TapsOk m l) (h : WIn x y) {b c : Int} (hb : b ≤ c) : ∀ k, k ≤ l.length → gHi x l b k ≤ gHi y l c k
  | 0, _ => hb
  | k + 1, hk => by
    have ih := gHi_in hl h hb k (by omega)
    have ht := hl.ok k (by omega)
    have := (h.get ht.n0).hi
    have := mul_up_le (u := (at' l (k : Int)).num) (d := (at' l (k : Int)).den) ht.u0 (by have := ht.d0; omega) this
    rw [gHi, gHi]; omega
theorem gLo_hi {x : List Rg} {m : Int} {l : List Tap} (hl : TapsOk m l) (h : Full x) {b c : Int} (hb : b ≤ c) : ∀ k, k ≤ l.length → gLo x l b k ≤ gHi x l c k
  | 0, _ => hb
  | k + 1, hk => by
    have ih := gLo_hi hl h hb k (by omega)
    have ht := hl.ok k (by omega)
    have h1 := h.get ht.n0
    have := mul_div_le (u := (at' l (k : Int)).num) (d := (at' l (k : Int)).den) ht.u0 (by have := ht.d0; omega) h1
    have := div_le_up ((at' l (k : Int)).num * (at' x (at' l (k : Int)).node).hi) (d := (at' l (k : Int)).den) (by have := ht.d0; omega)
    rw [gLo, gHi]; omega
theorem cutV_mono {a b : Int} (h : a ≤ b) : cutV a ≤ cutV b := by unfold cutV; omega
theorem cutV_in (a : Int) : -1000000 ≤ cutV a ∧ cutV a ≤ 1000000 := by unfold cutV; omega
/-- A stage within another one. -/
structure Stg.In (s' s : Stg) : Prop where
  tube : s'.tube = s.tube
  su : RIn s'.su s.su
  ld : RIn s'.ld s.ld
  bi : RIn s'.bi s.bi
  taps : s'.taps = s.taps
theorem Stg.In.rfl (s : Stg) : s.In s := ⟨Eq.refl _, .rfl _, .rfl _, .rfl _, Eq.refl _⟩
theorem Stg.In.grid {s' s : Stg} (h : s'.In s) {nt m : Int} (hs : s.Ok nt m) {x' x : List Rg} (hx : WIn x' x) : RIn (s'.grid x') (s.grid x) := by
  unfold Stg.grid
  rw [h.taps]
  exact ⟨cutV_mono (gLo_in hs.taps hx h.bi.lo _ (Nat.le_refl _)), cutV_mono (gHi_in hs.taps hx h.bi.hi _ (Nat.le_refl _))⟩
theorem Stg.Ok.grid {s : Stg} {nt m : Int} (hs : s.Ok nt m) {x : List Rg} (hx : Full x) : (s.grid x).Ok (-1000000) 1000000 := by
  unfold Stg.grid
  exact ⟨(cutV_in _).1, cutV_mono (gLo_hi hs.taps hx hs.bi.b _ (Nat.le_refl _)), (cutV_in _).2⟩

theorem over_le {F F' : Fam} {s s' : Stg} {g g' : Int} (hF' : F'.Ok) (h1 : s.su.lo ≤ s'.su.lo) (h2 : s'.ld.hi ≤ s.ld.hi) (h0 : 0 ≤ s.ld.hi) (h3 : ∀ v : Nat, F'.cHi g' v ≤ F.cHi g v) : overN F s g ≤ overN F' s' g' := by
  unfold overN
  refine least_mono (fun j hj hP => ?_) (by omega)
  unfold overP at *
  have c0 := (hF'.cur g' j)
  have := Int.mul_le_mul h2 (h3 j) (by omega) h0
  omega
theorem en_le {F F' : Fam} {s s' : Stg} {g g' : Int} (hF : F.Ok) (h1 : s'.su.hi ≤ s.su.hi) (h2 : s.ld.lo ≤ s'.ld.lo) (h0 : 0 ≤ s'.ld.lo) (h3 : ∀ v : Nat, F.cLo g v ≤ F'.cLo g' v) : enN F' s' g' ≤ enN F s g := by
  unfold enN
  refine least_mono (fun j hj hP => ?_) (by omega)
  unfold enP at *
  have c0 := (hF.cur g j)
  have := Int.mul_le_mul h2 (h3 j) (by omega) h0
  omega
theorem plate_in {F' F : Fam} {s' s : Stg} {g' g : Rg} (hF : F.Ok) (hF' : F'.Ok) (h : F'.In F) (hs : RIn s'.su s.su) (hl : RIn s'.ld s.ld) (h0 : 0 ≤ s'.ld.lo) (h1 : 0 ≤ s.ld.hi) (hg : RIn g' g) : RIn (s'.plate F' g') (s.plate F g) := by
  have a := over_le (F := F) (F' := F') (s := s) (s' := s') (g := g.hi) (g' := g'.hi) hF' hs.lo hl.hi h1 (fun v => Int.le_trans (hF'.byGrid hg.hi v).2 (h.cur hF hF' _ _).2)
  have b := en_le (F := F) (F' := F') (s := s) (s' := s') (g := g.lo) (g' := g'.lo) hF hs.hi hl.lo h0 (fun v => Int.le_trans (h.cur hF hF' _ _).1 (hF'.byGrid hg.lo v).1)
  unfold Stg.plate
  exact ⟨by dsimp only; omega, by dsimp only; omega⟩
theorem plate_ok {F : Fam} {s : Stg} {nt m : Int} {g : Rg} (hF : F.Ok) (hs : s.Ok nt m) (hg : g.lo ≤ g.hi) : 0 ≤ (s.plate F g).lo ∧ (s.plate F g).lo ≤ (s.plate F g).hi ∧ (s.plate F g).hi ≤ s.su.hi ∧ (s.plate F g).lo ≤ s.su.lo := by
  have a := least_spec (overP F s g.hi) (s.su.lo + 1).toNat
  have b := least_spec (enP F s g.lo) s.su.hi.toNat
  have a0 := hs.su.a
  have a1 := hs.su.b
  unfold Stg.plate
  change _ ∧ max 0 ((least (overP F s g.hi) (s.su.lo + 1).toNat : Int) - 1) ≤ (least (enP F s g.lo) s.su.hi.toNat : Int) ∧ (least (enP F s g.lo) s.su.hi.toNat : Int) ≤ _ ∧ max 0 ((least (overP F s g.hi) (s.su.lo + 1).toNat : Int) - 1) ≤ _
  generalize least (overP F s g.hi) (s.su.lo + 1).toNat = o at *
  generalize least (enP F s g.lo) s.su.hi.toNat = e at *
  refine ⟨by dsimp only; omega, ?_, by omega, by omega⟩
  rcases Nat.lt_or_ge (e + 1) o with q | q
  · exfalso
    have c1 := a.2.1 (o - 1) (by omega)
    have c2 := b.2.2 (by omega)
    unfold overP at c1
    unfold enP at c2
    have l0 := hs.ld.a
    have l1 := hs.ld.b
    have k1 := (hF.byPlate g.lo (show (e : Int) ≤ ((o - 1 : Nat) : Int) by omega)).1
    have k2 := (hF.cur g.lo ((o - 1 : Nat) : Int)).2.1
    have k3 := (hF.byGrid hg ((o - 1 : Nat) : Int)).2
    have k4 := (hF.cur g.lo e).1
    have := Int.mul_le_mul (show s.ld.lo ≤ s.ld.hi from l1) (show F.cLo g.lo e ≤ F.cHi g.hi ((o - 1 : Nat) : Int) by omega) k4 (by omega)
    omega
  · omega

structure Net.In (n' n : Net) : Prop where
  tn : n'.tubes.length = n.tubes.length
  fam : ∀ i : Nat, i < n.tubes.length → (at' n'.tubes (i : Int)).In (at' n.tubes (i : Int))
  ins : n'.ins = n.ins
  sn : n'.stages.length = n.stages.length
  st : ∀ i : Nat, i < n.stages.length → (at' n'.stages (i : Int)).In (at' n.stages (i : Int))
theorem Net.In.rfl (n : Net) : n.In n := ⟨Eq.refl _, fun i _ => .rfl _, Eq.refl _, Eq.refl _, fun i _ => .rfl _⟩
theorem Net.Ok.tube {n : Net} (h : n.Ok) {i : Nat} (hi : i < n.stages.length) : (at' n.tubes (at' n.stages (i : Int)).tube).Ok := by
  have hs := h.st i hi
  rw [at'_nat _ hs.t0]
  exact h.fam _ (by have := hs.t0; have := hs.t1; omega)
theorem Net.In.F {n' n : Net} (h : n'.In n) (hn : n.Ok) (hn' : n'.Ok) {i : Nat} (hi : i < n.stages.length) {x' x : List Rg} (hx : WIn x' x) : RIn (n'.F i x') (n.F i x) := by
  have hs := hn.st i hi
  have hs' := hn'.st i (by rw [h.sn]; exact hi)
  have hi' := h.st i hi
  have hF := hn.tube hi
  have hF' := hn'.tube (i := i) (by rw [h.sn]; exact hi)
  unfold Net.F
  refine plate_in hF hF' ?_ hi'.su hi'.ld (by have := hs'.ld.a; omega) (by have := hs.ld.a; have := hs.ld.b; omega) (hi'.grid hs hx)
  rw [hi'.tube, at'_nat _ hs.t0, at'_nat n.tubes hs.t0]
  exact h.fam _ (by have := hs.t0; have := hs.t1; omega)
theorem Net.Ok.F {n : Net} (h : n.Ok) {i : Nat} (hi : i < n.stages.length) {x : List Rg} (hx : Full x) : (n.F i x).lo ≤ (n.F i x).hi ∧ 0 ≤ (n.F i x).lo ∧ (n.F i x).hi ≤ (at' n.stages (i : Int)).su.hi := by
  have hs := h.st i hi
  have := plate_ok (h.tube hi) hs (hs.grid hx).b
  unfold Net.F
  exact ⟨this.2.1, this.1, this.2.2.1⟩
theorem nextR_in (a p : Rg) : RIn (nextR a p) a := ⟨by unfold nextR; dsimp only; omega, by unfold nextR; dsimp only; omega⟩
theorem nextR_mono {a p a' p' : Rg} (h : RIn a' a) (k : RIn p' p) : RIn (nextR a' p') (nextR a p) := by
  obtain ⟨h1, h2⟩ := h
  obtain ⟨k1, k2⟩ := k
  exact ⟨by unfold nextR; dsimp only; omega, by unfold nextR; dsimp only; omega⟩
theorem nextR_of {a p : Rg} (h : RIn p a) : nextR a p = p := by
  obtain ⟨h1, h2⟩ := h
  unfold nextR
  obtain ⟨u, v⟩ := p
  simp only [Rg.mk.injEq] at *
  omega
theorem nextR_idem (a p : Rg) : nextR (nextR a p) p = nextR a p := by
  unfold nextR
  simp only [Rg.mk.injEq]
  omega
theorem Net.part_len (n : Net) (x : List Rg) : ∀ k, (n.part x k).length = x.length
  | 0 => rfl
  | k + 1 => by rw [Net.part, List.length_set, Net.part_len n x k]
theorem Net.Ok.insN {n : Net} (h : n.Ok) (k : Nat) : n.ins + (k : Int) = ((n.ins.toNat + k : Nat) : Int) := by have := h.i0; omega
theorem set_in {x y : List Rg} {j : Nat} {a : Rg} (h : WIn x y) (ha : j < x.length → RIn a (at' y (j : Int))) : WIn (x.set j a) y := by
  refine ⟨by rw [List.length_set, h.len], fun k => ?_⟩
  rw [at'_set]
  split
  · rename_i q
    obtain ⟨rfl, q⟩ := q
    exact ha q
  · exact h.at_ k
theorem set_both {x y : List Rg} {j : Nat} {a b : Rg} (h : WIn x y) (ha : RIn a b) : WIn (x.set j a) (y.set j b) := by
  refine ⟨by rw [List.length_set, List.length_set, h.len], fun k => ?_⟩
  rw [at'_set, at'_set, h.len]
  split
  · exact ha
  · exact h.at_ k
theorem Net.Ok.part_step {n : Net} (h : n.Ok) (x : List Rg) (k : Nat) : n.part x (k + 1) = (n.part x k).set (n.ins.toNat + k) (nextR (at' (n.part x k) ((n.ins.toNat + k : Nat) : Int)) (n.F k (n.part x k))) := by
  rw [Net.part, h.insN k]
theorem Net.Ok.part_in {n : Net} (h : n.Ok) (x : List Rg) : ∀ k, WIn (n.part x k) x
  | 0 => .rfl _
  | k + 1 => by
    have ih := h.part_in x k
    rw [h.part_step]
    exact set_in ih fun _ => (nextR_in _ _).trans (ih.at_ _)
theorem Net.In.part {n' n : Net} (h : n'.In n) (hn : n.Ok) (hn' : n'.Ok) {x' x : List Rg} (hx : WIn x' x) : ∀ k, k ≤ n.stages.length → WIn (n'.part x' k) (n.part x k)
  | 0, _ => hx
  | k + 1, hk => by
    have ih := h.part hn hn' hx k (by omega)
    rw [hn.part_step, hn'.part_step, h.ins]
    exact set_both ih (nextR_mono (ih.at_ _) (h.F hn hn' (by omega) ih))
/-- What a stage comes to lies within what it is. -/
structure Net.Post (n : Net) (x : List Rg) : Prop where
  len : (x.length : Int) = n.ins + n.stages.length
  full : Full x
  post : ∀ i, i < n.stages.length → RIn (n.F i x) (at' x ((n.ins.toNat + i : Nat) : Int))
theorem Net.Post.step {n : Net} (h : n.Ok) {x : List Rg} (hx : n.Post x) {k : Nat} (hk : k < n.stages.length) : n.Post (x.set (n.ins.toNat + k) (nextR (at' x ((n.ins.toNat + k : Nat) : Int)) (n.F k x))) := by
  rw [nextR_of (hx.post k hk)]
  have hin : WIn (x.set (n.ins.toNat + k) (n.F k x)) x := set_in (.rfl _) fun _ => hx.post k hk
  have hfull : Full (x.set (n.ins.toNat + k) (n.F k x)) := fun j => by
    rw [at'_set]
    split
    · exact (h.F hk hx.full).1
    · exact hx.full j
  refine ⟨by rw [List.length_set]; exact hx.len, hfull, fun i hi => ?_⟩
  have hm := (Net.In.rfl n).F h h hi hin
  rw [at'_set]
  split
  · rename_i q
    obtain rfl : i = k := by omega
    exact hm
  · exact hm.trans (hx.post i hi)
theorem Net.Post.part {n : Net} (h : n.Ok) {x : List Rg} (hx : n.Post x) : ∀ k, k ≤ n.stages.length → n.Post (n.part x k)
  | 0, _ => hx
  | k + 1, hk => by
    have ih := Net.Post.part h hx k (by omega)
    rw [h.part_step]
    exact ih.step h (by omega)

theorem Net.Ok.same_id {n : Net} (h : n.Ok) {x : List Rg} : ∀ {k}, n.same x k = true → n.part x k = x
  | 0, _ => rfl
  | k + 1, hs => by
    rw [Net.same, Bool.and_eq_true, decide_eq_true_eq] at hs
    have ih := h.same_id hs.1
    have e := hs.2
    rw [h.insN] at e
    rw [h.part_step, e, set_same, ih]
noncomputable def Net.iter (n : Net) (x : List Rg) : Nat → List Rg
  | 0 => x
  | k + 1 => n.sweep (n.iter x k)
theorem Net.Ok.rest_iter {n : Net} (h : n.Ok) (x : List Rg) (k : Nat) : (n.rest x k).1 = n.iter x k ∧ ((n.rest x k).2.2 = true → n.sweep (n.rest x k).1 = (n.rest x k).1) := by
  induction k with
  | zero => exact ⟨rfl, fun h => by cases h⟩
  | succ k ih =>
    rw [Net.rest, Net.iter]
    split
    · rename_i q
      exact ⟨by rw [← ih.1]; exact (ih.2 q).symm, ih.2⟩
    · dsimp only
      refine ⟨by rw [ih.1], fun hs => ?_⟩
      have := h.same_id hs
      have e : n.sweep (n.rest x k).1 = (n.rest x k).1 := this
      rw [e, e]
theorem Net.rest_still {n : Net} {x : List Rg} {k : Nat} (h : (n.rest x k).2.2 = true) : ∀ m, n.rest x (k + m) = n.rest x k
  | 0 => rfl
  | m + 1 => by
    have ih := Net.rest_still h m
    rw [← Nat.add_assoc, Net.rest, ih, if_pos h]
theorem Net.rest_count (n : Net) (x : List Rg) (k : Nat) : (n.rest x k).2.1 ≤ k ∧ ((n.rest x k).2.2 = false → (n.rest x k).2.1 = k) := by
  induction k with
  | zero => exact ⟨Nat.le_refl _, fun _ => rfl⟩
  | succ k ih =>
    rw [Net.rest]
    split
    · rename_i q
      exact ⟨by omega, fun h => by rw [q] at h; cases h⟩
    · rename_i q
      have := ih.2 (by simpa using q)
      dsimp only
      exact ⟨by omega, fun _ => by omega⟩
theorem Net.iter_len (n : Net) (x : List Rg) : ∀ k, (n.iter x k).length = x.length
  | 0 => rfl
  | k + 1 => by rw [Net.iter, Net.sweep, Net.part_len, Net.iter_len n x k]
theorem Net.Ok.iter_in {n : Net} (h : n.Ok) (x : List Rg) (k : Nat) : ∀ m, WIn (n.iter x (k + m)) (n.iter x k)
  | 0 => .rfl _
  | m + 1 => by
    rw [← Nat.add_assoc, Net.iter]
    exact (h.part_in _ _).trans (h.iter_in x k m)
theorem Net.In.iter {n' n : Net} (h : n'.In n) (hn : n.Ok) (hn' : n'.Ok) {x' x : List Rg} (hx : WIn x' x) : ∀ k, WIn (n'.iter x' k) (n.iter x k)
  | 0 => hx
  | k + 1 => by
    rw [Net.iter, Net.iter, Net.sweep, Net.sweep, h.sn]
    exact h.part hn hn' (h.iter hn hn' hx k) _ (Nat.le_refl _)
theorem Net.Post.iter {n : Net} (h : n.Ok) {x : List Rg} (hx : n.Post x) : ∀ k, n.Post (n.iter x k)
  | 0 => hx
  | k + 1 => Net.Post.part h (Net.Post.iter h hx k) _ (Nat.le_refl _)
theorem Net.Ok.part_low {n : Net} (h : n.Ok) (x : List Rg) {i : Nat} (hi : i < n.ins.toNat) : ∀ k, at' (n.part x k) (i : Int) = at' x (i : Int)
  | 0 => rfl
  | k + 1 => by rw [h.part_step, at'_set, if_neg (by omega), h.part_low x hi k]
theorem Net.Ok.iter_low {n : Net} (h : n.Ok) (x : List Rg) {i : Nat} (hi : i < n.ins.toNat) : ∀ k, at' (n.iter x k) (i : Int) = at' x (i : Int)
  | 0 => rfl
  | k + 1 => by rw [Net.iter, Net.sweep, h.part_low _ hi, h.iter_low x hi k]

theorem at'_left {α : Type} [Inhabited α] {a b : List α} {i : Nat} (h : i < a.length) : at' (a ++ b) (i : Int) = at' a (i : Int) := by
  rw [at'_get (by rw [List.length_append]; omega), at'_get h, List.getElem_append_left h]
theorem at'_right {α : Type} [Inhabited α] {a b : List α} {i : Nat} : at' (a ++ b) ((a.length + i : Nat) : Int) = at' b (i : Int) := by
  unfold at'
  rw [Int.toNat_natCast, Int.toNat_natCast, List.getD_eq_getElem?_getD, List.getD_eq_getElem?_getD, List.getElem?_append_right (by omega), Nat.add_sub_cancel_left]
theorem at'_map {α β : Type} [Inhabited α] [Inhabited β] {l : List α} {f : α → β} {i : Nat} (h : i < l.length) : at' (l.map f) (i : Int) = f (at' l (i : Int)) := by
  rw [at'_get (by rw [List.length_map]; exact h), at'_get h, List.getElem_map]
theorem at'_out {α : Type} [Inhabited α] {l : List α} {i : Nat} (h : l.length ≤ i) : at' l (i : Int) = default := by
  unfold at'
  rw [Int.toNat_natCast, List.getD_eq_getElem?_getD, List.getElem?_eq_none h]; rfl
theorem full_of {l : List Rg} (h : ∀ i : Nat, i < l.length → (at' l (i : Int)).lo ≤ (at' l (i : Int)).hi) : Full l := fun k => by
  rcases Nat.lt_or_ge k l.length with q | q
  · exact h k q
  · rw [at'_out q]; exact Int.le_refl _
theorem win_of {x y : List Rg} (hl : x.length = y.length) (h : ∀ i : Nat, i < x.length → RIn (at' x (i : Int)) (at' y (i : Int))) : WIn x y := ⟨hl, fun k => by
  rcases Nat.lt_or_ge k x.length with q | q
  · exact h k q
  · rw [at'_out q, at'_out (by omega)]; exact .rfl _⟩
theorem Net.Ok.start {n : Net} (h : n.Ok) {l : List Rg} (hl : RgsOk l n.ins (-1000000) 1000000) : n.Post (n.start l) := by
  have hlen := hl.len
  have h0 := h.i0
  have hfull : Full (n.start l) := full_of fun i hi => by
    unfold Net.start at hi ⊢
    rw [List.length_append, List.length_map] at hi
    rcases Nat.lt_or_ge i l.length with q | q
    · rw [at'_left q]; exact (hl.ok i q).b
    · rw [show i = l.length + (i - l.length) by omega, at'_right, at'_map (by omega)]
      have q1 := (h.st (i - l.length) (by omega)).su
      have := q1.a
      have := q1.b
      dsimp only
      omega
  refine ⟨by unfold Net.start; rw [List.length_append, List.length_map]; omega, hfull, fun i hi => ?_⟩
  have hF := h.F hi hfull
  have e : n.ins.toNat + i = l.length + i := by omega
  rw [e]
  show RIn _ (at' (l ++ _) _)
  rw [at'_right, at'_map hi]
  exact ⟨hF.2.1, hF.2.2⟩
theorem Net.In.start {n' n : Net} (h : n'.In n) (hn : n.Ok) {l' l : List Rg} (hl : WIn l' l) : WIn (n'.start l') (n.start l) := by
  unfold Net.start
  refine win_of (by rw [List.length_append, List.length_append, List.length_map, List.length_map, hl.len, h.sn]) fun i hi => ?_
  rw [List.length_append, List.length_map] at hi
  rcases Nat.lt_or_ge i l'.length with q | q
  · rw [at'_left q, at'_left (by rw [← hl.len]; exact q)]; exact hl.at_ i
  · have e1 : i = l'.length + (i - l'.length) := by omega
    have e2 : i = l.length + (i - l'.length) := by have := hl.len; omega
    have hk : i - l'.length < n'.stages.length := by omega
    generalize i - l'.length = k at *
    have r1 : at' (l' ++ n'.stages.map fun s => (⟨0, s.su.hi⟩ : Rg)) (i : Int) = ⟨0, (at' n'.stages (k : Int)).su.hi⟩ := by rw [e1, at'_right, at'_map hk]
    have r2 : at' (l ++ n.stages.map fun s => (⟨0, s.su.hi⟩ : Rg)) (i : Int) = ⟨0, (at' n.stages (k : Int)).su.hi⟩ := by rw [e2, at'_right, at'_map (by rw [← h.sn]; exact hk)]
    rw [r1, r2]
    exact ⟨Int.le_refl _, (h.st k (by rw [← h.sn]; exact hk)).su.hi⟩

def Net.Fwd (n : Net) : Prop := ∀ i : Nat, i < n.stages.length → ∀ k : Nat, k < (at' n.stages (i : Int)).taps.length → (at' (at' n.stages (i : Int)).taps (k : Int)).node < n.ins + i
theorem gLo_eq {x y : List Rg} {l : List Tap} {b : Int} (h : ∀ k : Nat, k < l.length → at' x (at' l (k : Int)).node = at' y (at' l (k : Int)).node) : ∀ k, k ≤ l.length → gLo x l b k = gLo y l b k
  | 0, _ => rfl
  | k + 1, hk => by rw [gLo, gLo, gLo_eq h k (by omega), h k (by omega)]
theorem gHi_eq {x y : List Rg} {l : List Tap} {b : Int} (h : ∀ k : Nat, k < l.length → at' x (at' l (k : Int)).node = at' y (at' l (k : Int)).node) : ∀ k, k ≤ l.length → gHi x l b k = gHi y l b k
  | 0, _ => rfl
  | k + 1, hk => by rw [gHi, gHi, gHi_eq h k (by omega), h k (by omega)]
theorem Net.Fwd.F {n : Net} (h : n.Fwd) (hn : n.Ok) {i : Nat} (hi : i < n.stages.length) {x y : List Rg} (he : ∀ k : Nat, k < n.ins.toNat + i → at' x (k : Int) = at' y (k : Int)) : n.F i x = n.F i y := by
  have hs := hn.st i hi
  have key : ∀ k : Nat, k < (at' n.stages (i : Int)).taps.length → at' x (at' (at' n.stages (i : Int)).taps (k : Int)).node = at' y (at' (at' n.stages (i : Int)).taps (k : Int)).node := fun k hk => by
    have h1 := h i hi k hk
    have h2 := (hs.taps.ok k hk).n0
    rw [at'_nat x h2, at'_nat y h2]
    exact he _ (by have := hn.i0; omega)
  unfold Net.F Stg.grid
  rw [gLo_eq key _ (Nat.le_refl _), gHi_eq key _ (Nat.le_refl _)]
theorem Net.Ok.part_done {n : Net} (h : n.Ok) (x : List Rg) {k j : Nat} (hj : j < n.ins.toNat + k) : ∀ m, at' (n.part x (k + m)) (j : Int) = at' (n.part x k) (j : Int)
  | 0 => rfl
  | m + 1 => by rw [← Nat.add_assoc, h.part_step, at'_set, if_neg (by omega), h.part_done x hj m]
theorem Net.Fwd.still {n : Net} (h : n.Fwd) (hn : n.Ok) {x : List Rg} (hx : (x.length : Int) = n.ins + n.stages.length) : n.same (n.sweep x) n.stages.length = true := by
  have fixed : ∀ k, k < n.stages.length → nextR (at' (n.sweep x) ((n.ins.toNat + k : Nat) : Int)) (n.F k (n.sweep x)) = at' (n.sweep x) ((n.ins.toNat + k : Nat) : Int) := by
    intro k hk
    have e1 : at' (n.sweep x) ((n.ins.toNat + k : Nat) : Int) = at' (n.part x (k + 1)) ((n.ins.toNat + k : Nat) : Int) := by
      have := hn.part_done x (k := k + 1) (j := n.ins.toNat + k) (by omega) (n.stages.length - (k + 1))
      rw [show k + 1 + (n.stages.length - (k + 1)) = n.stages.length by omega] at this
      exact this
    have e2 : n.F k (n.sweep x) = n.F k (n.part x k) := h.F hn hk fun j hj => by
      have := hn.part_done x (k := k) (j := j) hj (n.stages.length - k)
      rw [show k + (n.stages.length - k) = n.stages.length by omega] at this
      exact this
    rw [e1, e2, hn.part_step, at'_set, if_pos ⟨rfl, by rw [n.part_len]; have := hn.i0; omega⟩, nextR_idem]
  have key : ∀ k, k ≤ n.stages.length → n.same (n.sweep x) k = true := by
    intro k
    induction k with
    | zero => intro _; rfl
    | succ k ih =>
      intro hk
      have ih := ih (by omega)
      rw [Net.same, ih, hn.same_id ih, hn.insN, fixed k (by omega)]
      simp
  exact key _ (Nat.le_refl _)
theorem Net.Fwd.rest {n : Net} (h : n.Fwd) (hn : n.Ok) {x : List Rg} (hx : (x.length : Int) = n.ins + n.stages.length) : (n.rest x 3).2.2 = true ∧ (n.rest x 3).2.1 ≤ 2 := by
  have e2 : (n.rest x 2).2.2 = true := by
    rw [Net.rest]
    split
    · assumption
    · dsimp only
      have e1 : n.rest x 1 = (n.sweep x, 1, n.same x n.stages.length) := rfl
      rw [e1]
      exact h.still hn hx
  have e3 : n.rest x 3 = n.rest x 2 := Net.rest_still e2 1
  rw [e3]
  exact ⟨e2, (n.rest_count x 2).1⟩

end Go.Proofs.YtlfaglkkeahamaaGreat.I
