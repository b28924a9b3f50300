/- An ideal machine for Go code: values that are read only stand as pure values, memory of one's own as named blocks. Part 1: values, what they stand for. -/
import Derived.RangeFuncLeaves
import Derived.Orders
import Derived.KernelRfl
import Derived.Below
import Derived.Laws.IdiomCopy
import Derived.Laws.Cells
import Derived.Laws.StructEq
import Derived.Laws.Small
import Derived.Laws.Pointers
import Derived.Handy
import Derived.Laws.Slices
import Derived.Deep.AppendSrc
import Derived.Deep.Upon
set_option linter.unusedSimpArgs false
set_option linter.unusedVariables false
namespace Go.Ideal

/-- Ideal values. -/
inductive IV where
  | undef
  | bool (b : Bool)
  | int (k : IntKind) (n : Int)
  | str (s : ByteArray)
  | nilptr
  | ptr (b i off : Nat)
  | cptr (es : List (List IV)) (i off : Nat)
  | nilslice
  | eslice
  | fslice (es : List (List IV))
  | mslice (b off len lb : Nat) (ex : Bool)
  | func (fn : Fn) (first captured : List IV)
  | yield (l : Nat)
  | nilfunc
  | agg (cs : List IV)
  | tuple (vs : List IV)
  deriving Inhabited

abbrev Els := List (List IV)

/-- The cells of a value. -/
def IV.cells : IV → List IV
  | .agg cs => cs
  | v => [v]

/-- Where an ideal block lies. -/
structure Loc where
  rb : Nat
  ro : Nat
  sz : Nat
  ext : Nat

/-- Memory that is not written any more. -/
abbrev Frozen := Nat → Nat → Option Value
abbrev Places := Nat → Option Loc

/-- What stands for what. -/
inductive VR (Φ : Frozen) (μ : Places) : IV → Value → Prop
  | undef (v : Value) : VR Φ μ .undef v
  | bool (b : Bool) : VR Φ μ (.bool b) (.bool b)
  | int (k : IntKind) (n : Int) : VR Φ μ (.int k n) (.int k n)
  | str (s : ByteArray) : VR Φ μ (.str s) (.string s)
  | nilptr : VR Φ μ .nilptr (.pointer none)
  | ptr (b i off : Nat) (L : Loc) (h : μ b = some L) : VR Φ μ (.ptr b i off) (.pointer (some ⟨L.rb, L.ro + i * L.sz + off, none⟩))
  | cptr (es : Els) (i off sz rb ro : Nat) (vs : Nat → Nat → Value) (hs : ∀ e, e ∈ es → e.length = sz)
      (hf : ∀ (j k : Nat) (hj : j < es.length) (_ : k < es[j].length), Φ rb (ro + j * sz + k) = some (vs j k))
      (hv : ∀ (j k : Nat) (hj : j < es.length) (hk : k < es[j].length), VR Φ μ (es[j][k]) (vs j k)) :
      VR Φ μ (.cptr es i off) (.pointer (some ⟨rb, ro + i * sz + off, none⟩))
  | nilslice : VR Φ μ .nilslice (.slice none 0 0)
  | eslice (a : Option Addr) : VR Φ μ .eslice (.slice a 0 0)
  | fnil (a : Option Addr) : VR Φ μ (.fslice []) (.slice a 0 0)
  | fslice (es : Els) (sz rb ro cap : Nat) (vs : Nat → Nat → Value) (hs : ∀ e, e ∈ es → e.length = sz) (hc : es.length ≤ cap)
      (hf : ∀ (j k : Nat) (hj : j < es.length) (_ : k < es[j].length), Φ rb (ro + j * sz + k) = some (vs j k))
      (hv : ∀ (j k : Nat) (hj : j < es.length) (hk : k < es[j].length), VR Φ μ (es[j][k]) (vs j k)) :
      VR Φ μ (.fslice es) (.slice (some ⟨rb, ro, none⟩) es.length cap)
  | mslice (b off len lb : Nat) (ex : Bool) (L : Loc) (cap : Nat) (h : μ b = some L) (hl : len ≤ cap) (hlb : lb ≤ cap) (hex : ex = true → lb = cap)
      (he : (off + cap) * L.sz ≤ L.ext) : VR Φ μ (.mslice b off len lb ex) (.slice (some ⟨L.rb, L.ro + off * L.sz, none⟩) len cap)
  | func (fn : Fn) (fs cs : List IV) (fs' cs' : Array Value) (hf : fs.length = fs'.size) (hc : cs.length = cs'.size)
      (hfv : ∀ (i : Nat) (h : i < fs.length) (h' : i < fs'.size), VR Φ μ fs[i] fs'[i]) (hcv : ∀ (i : Nat) (h : i < cs.length) (h' : i < cs'.size), VR Φ μ cs[i] cs'[i]) :
      VR Φ μ (.func fn fs cs) (.func fn fs' cs')
  | yield (l : Nat) (L : Loc) (h : μ l = some L) : VR Φ μ (.yield l) (.func (.yield L.rb) #[] #[])
  | nilfunc : VR Φ μ .nilfunc .nilFunc
  | agg (cs : List IV) (cs' : Array Value) (hc : cs.length = cs'.size) (hv : ∀ (i : Nat) (h : i < cs.length) (h' : i < cs'.size), VR Φ μ cs[i] cs'[i]) :
      VR Φ μ (.agg cs) (.agg cs')
  | tuple (cs : List IV) (cs' : Array Value) (hc : cs.length = cs'.size) (hv : ∀ (i : Nat) (h : i < cs.length) (h' : i < cs'.size), VR Φ μ cs[i] cs'[i]) :
      VR Φ μ (.tuple cs) (.tuple cs')

/-- More is frozen, more is named. -/
theorem VR.mono {Φ Φ' : Frozen} {μ μ' : Places} (hΦ : ∀ k i v, Φ k i = some v → Φ' k i = some v) (hμ : ∀ b L, μ b = some L → μ' b = some L) {x : IV} {v : Value} (h : VR Φ μ x v) : VR Φ' μ' x v := by
  induction h with
  | undef v => exact .undef v
  | bool b => exact .bool b
  | int k n => exact .int k n
  | str s => exact .str s
  | nilptr => exact .nilptr
  | ptr b i off L h => exact .ptr b i off L (hμ _ _ h)
  | cptr es i off sz rb ro vs hs hf hv ih => exact .cptr es i off sz rb ro vs hs (fun j k hj hk => hΦ _ _ _ (hf j k hj hk)) ih
  | nilslice => exact .nilslice
  | eslice a => exact .eslice a
  | fnil a => exact .fnil a
  | fslice es sz rb ro cap vs hs hc hf hv ih => exact .fslice es sz rb ro cap vs hs hc (fun j k hj hk => hΦ _ _ _ (hf j k hj hk)) ih
  | mslice b off len lb ex L cap h hl hlb hex he => exact .mslice b off len lb ex L cap (hμ _ _ h) hl hlb hex he
  | func fn fs cs fs' cs' hf hc hfv hcv ih1 ih2 => exact .func fn fs cs fs' cs' hf hc ih1 ih2
  | yield l L h => exact .yield l L (hμ _ _ h)
  | nilfunc => exact .nilfunc
  | agg cs cs' hc hv ih => exact .agg cs cs' hc ih
  | tuple cs cs' hc hv ih => exact .tuple cs cs' hc ih

/-- The names in a value all lie in a set. -/
inductive Inn (S : Nat → Prop) : IV → Prop
  | undef : Inn S .undef
  | bool (b : Bool) : Inn S (.bool b)
  | int (k : IntKind) (n : Int) : Inn S (.int k n)
  | str (s : ByteArray) : Inn S (.str s)
  | nilptr : Inn S .nilptr
  | ptr (b i off : Nat) (h : S b) : Inn S (.ptr b i off)
  | cptr (es : Els) (i off : Nat) (h : ∀ (j k : Nat) (hj : j < es.length) (hk : k < es[j].length), Inn S (es[j][k])) : Inn S (.cptr es i off)
  | nilslice : Inn S .nilslice
  | eslice : Inn S .eslice
  | fslice (es : Els) (h : ∀ (j k : Nat) (hj : j < es.length) (hk : k < es[j].length), Inn S (es[j][k])) : Inn S (.fslice es)
  | mslice (b off len lb : Nat) (ex : Bool) (h : S b) : Inn S (.mslice b off len lb ex)
  | func (fn : Fn) (fs cs : List IV) (hf : ∀ (i : Nat) (h : i < fs.length), Inn S fs[i]) (hc : ∀ (i : Nat) (h : i < cs.length), Inn S cs[i]) : Inn S (.func fn fs cs)
  | yield (l : Nat) (h : S l) : Inn S (.yield l)
  | nilfunc : Inn S .nilfunc
  | agg (cs : List IV) (h : ∀ (i : Nat) (h : i < cs.length), Inn S cs[i]) : Inn S (.agg cs)
  | tuple (cs : List IV) (h : ∀ (i : Nat) (h : i < cs.length), Inn S cs[i]) : Inn S (.tuple cs)

theorem Inn.mono {S S' : Nat → Prop} (hS : ∀ b, S b → S' b) {x : IV} (h : Inn S x) : Inn S' x := by
  induction h with
  | undef => exact .undef
  | bool b => exact .bool b
  | int k n => exact .int k n
  | str s => exact .str s
  | nilptr => exact .nilptr
  | ptr b i off h => exact .ptr b i off (hS _ h)
  | cptr es i off h ih => exact .cptr es i off ih
  | nilslice => exact .nilslice
  | eslice => exact .eslice
  | fslice es h ih => exact .fslice es ih
  | mslice b off len lb ex h => exact .mslice b off len lb ex (hS _ h)
  | func fn fs cs hf hc ih1 ih2 => exact .func fn fs cs ih1 ih2
  | yield l h => exact .yield l (hS _ h)
  | nilfunc => exact .nilfunc
  | agg cs h ih => exact .agg cs ih
  | tuple cs h ih => exact .tuple cs ih

/-- Fewer names suffice for a value that has only them. -/
theorem VR.narrow {Φ : Frozen} {μ μ' : Places} {S : Nat → Prop} (hμ : ∀ b L, S b → μ b = some L → μ' b = some L) {x : IV} {v : Value} (h : VR Φ μ x v) (hn : Inn S x) : VR Φ μ' x v := by
  induction h with
  | undef v => exact .undef v
  | bool b => exact .bool b
  | int k n => exact .int k n
  | str s => exact .str s
  | nilptr => exact .nilptr
  | ptr b i off L h => cases hn with | ptr _ _ _ hb => exact .ptr b i off L (hμ _ _ hb h)
  | cptr es i off sz rb ro vs hs hf hv ih => cases hn with | cptr _ _ _ hh => exact .cptr es i off sz rb ro vs hs hf (fun j k hj hk => ih j k hj hk (hh j k hj hk))
  | nilslice => exact .nilslice
  | eslice a => exact .eslice a
  | fnil a => exact .fnil a
  | fslice es sz rb ro cap vs hs hc hf hv ih => cases hn with | fslice _ hh => exact .fslice es sz rb ro cap vs hs hc hf (fun j k hj hk => ih j k hj hk (hh j k hj hk))
  | mslice b off len lb ex L cap h hl hlb hex he => cases hn with | mslice _ _ _ _ _ hb => exact .mslice b off len lb ex L cap (hμ _ _ hb h) hl hlb hex he
  | func fn fs cs fs' cs' hf hc hfv hcv ih1 ih2 => cases hn with | func _ _ _ h1 h2 => exact .func fn fs cs fs' cs' hf hc (fun i h h' => ih1 i h h' (h1 i h)) (fun i h h' => ih2 i h h' (h2 i h))
  | yield l L h => cases hn with | yield _ hb => exact .yield l L (hμ _ _ hb h)
  | nilfunc => exact .nilfunc
  | agg cs cs' hc hv ih => cases hn with | agg _ hh => exact .agg cs cs' hc (fun i h h' => ih i h h' (hh i h))
  | tuple cs cs' hc hv ih => cases hn with | tuple _ hh => exact .tuple cs cs' hc (fun i h h' => ih i h h' (hh i h))

end Go.Ideal

/- An ideal machine for Go code. Part 2: its code, its state. -/
namespace Go.Ideal

/-- Constants. -/
inductive Cst where
  | bool (b : Bool)
  | int (k : IntKind) (n : Int)
  | str (s : ByteArray)
  | nilptr
  | nilslice
  | nilfunc
  | func (f : FuncId)
  deriving Inhabited
def Cst.iv : Cst → IV
  | .bool b => .bool b
  | .int k n => .int k n
  | .str s => .str s
  | .nilptr => .nilptr
  | .nilslice => .nilslice
  | .nilfunc => .nilfunc
  | .func f => .func (.func f) [] []

inductive Opd where
  | tmp (t : Nat)
  | const (v : Cst)
  | agg (cs : List Cst)
  deriving Inhabited

/-- Kinds of cells, and of '=='. -/
inductive CK where
  | b | i | s
  deriving DecidableEq
inductive EqK where
  | bool | agg (ks : List CK) | slice | ptr | func

inductive IOp where
  | mv (x : Opd)
  | pick (c a b : Opd)
  | box (n : Nat) (x : Opd)
  | build (zero : List Cst) (parts : List (Nat × Nat × Opd))
  | buildSlice (zero : List Cst) (len : Nat) (parts : List (Nat × Opd))
  | load (ag : Bool) (n : Nat) (x : Opd)
  | store (n : Nat) (x v : Opd)
  | nilCheck (x : Opd)
  | bin (op : BinOp) (x y : Opd)
  | eq (neg : Bool) (k : EqK) (x y : Opd)
  | un (op : UnOp) (x : Opd)
  | conv (k : IntKind) (x : Opd)
  | mkFunc (fn : Fn) (first captured : List Opd)
  | makeSlice (zero : List Cst) (bytes : Nat) (l c : Opd)
  | slice (sz : Nat) (x : Opd) (lo hi mx : Option Opd)
  | fieldAddr (x : Opd) (off : Nat)
  | field (ag : Bool) (x : Opd) (off n : Nat)
  | indexAddr (sz : Nat) (x i : Opd)
  | indexAddrA (len sz : Nat) (x i : Opd)
  | indexA (ag : Bool) (len sz : Nat) (x i : Opd)
  | indexStr (x i : Opd)
  | extract (x : Opd) (i : Nat)
  | len (x : Opd)
  | lenS (x : Opd)
  | cap (x : Opd)
  | mn (xs : List Opd)
  | mx (xs : List Opd)
  | append (zero : List Cst) (bytes : Nat) (s x : Opd)
  | appendZ (zero : List Cst) (bytes : Nat) (s x : Opd)
  | call (f : Opd) (args : List Opd)
  | bad
  /-- a slice that is built and not written any more; its elements -/
  | buildF (zero : List Cst) (len : Nat) (parts : List (Nat × Opd))
  | indexF (sz : Nat) (x i : Opd)
  | loadF (ag : Bool) (n : Nat) (x : Opd)
  deriving Inhabited
def IOp.toF : IOp → IOp
  | .buildSlice z n ps => .buildF z n ps
  | .indexAddr sz x i => .indexF sz x i
  | .load ag n x => .loadF ag n x
  | op => op

structure IOper where
  dst : Option Nat
  guard : Option (Nat × Bool)
  op : IOp
  deriving Inhabited

inductive IC where
  | skip
  | region (ops : List IOper)
  | draw (ops : List IOper) (anc ord : List Nat)
  | seq (a b : IC)
  | cond (c : Opd) (a b : IC)
  | block (id : Nat) (c : IC)
  | loop (c : IC)
  | exit (id : Nat)
  | ret
  | rangeFunc (f : Opd) (params : List Nat) (assign body : IC)
  | scope (c : IC)
  deriving Inhabited

abbrev Env := Nat → IV
def Env.put (E : Env) (t : Nat) (v : IV) : Env := fun s => if s = t then v else E s
def Env.putO (E : Env) (t : Option Nat) (v : IV) : Env := match t with | some t => E.put t v | none => E
def Opd.ev (E : Env) : Opd → IV
  | .tmp t => E t
  | .const v => v.iv
  | .agg cs => .agg (cs.map Cst.iv)

/-- How code ends. -/
inductive IEx where
  | normal
  | exit (id : Nat)
  | ret
  deriving DecidableEq
def IEx.leave (id : Nat) : IEx → IEx
  | .exit i => if i = id then .normal else .exit i
  | e => e

/-- What a name stands for. -/
inductive Slot where
  | free
  | dead
  | live (sz : Nat) (es : Els)
  | loop (E : Env) (params : List Nat) (assign body : IC) (st : LoopState) (pend : IEx)
  deriving Inhabited

def Slot.isLoop : Slot → Bool
  | .loop .. => true
  | _ => false
def Env.puts (E : Env) : List Nat → List IV → Env
  | p :: ps, v :: vs => (E.put p v).puts ps vs
  | _, _ => E

structure Heap where
  at_ : Nat → Slot
  fin : ∃ n, ∀ m, n ≤ m → at_ m = .free

instance : CoeFun Heap (fun _ => Nat → Slot) := ⟨Heap.at_⟩
theorem Heap.ext {H H' : Heap} (h : ∀ b, H b = H' b) : H = H' := by
  cases H; cases H'; congr; exact funext h

def Heap.set (H : Heap) (b : Nat) (s : Slot) : Heap where
  at_ := fun c => if c = b then s else H c
  fin := by
    obtain ⟨n, hn⟩ := H.fin
    refine ⟨max n (b + 1), fun m hm => ?_⟩
    rw [if_neg (by omega)]
    exact hn m (by omega)

theorem Heap.set_same (H : Heap) (b : Nat) (s : Slot) : (H.set b s) b = s := by simp [Heap.set]
theorem Heap.set_ne (H : Heap) {b c : Nat} (s : Slot) (h : c ≠ b) : (H.set b s) c = H c := by simp [Heap.set, h]
theorem Heap.set_set (H : Heap) (b : Nat) (s s' : Slot) : (H.set b s).set b s' = H.set b s' := by
  apply Heap.ext; intro c; simp only [Heap.set]; split <;> rfl
theorem Heap.set_comm (H : Heap) {b c : Nat} (s s' : Slot) (h : b ≠ c) : (H.set b s).set c s' = (H.set c s').set b s := by
  apply Heap.ext; intro d; simp only [Heap.set]
  split
  · rename_i e; subst e; rw [if_neg (fun e => h e.symm)]
  · rfl
theorem Heap.fresh (H : Heap) : ∃ n, ∀ m, n ≤ m → H m = .free := H.fin

end Go.Ideal

/- An ideal machine for Go code. Part 3: what its operations do, how it runs. -/
namespace Go.Ideal

/-- Some cells of a row, as one value. -/
def readCells (ag : Bool) (e : List IV) (off n : Nat) : Option IV :=
  if ag then (if off + n ≤ e.length then some (.agg ((e.drop off).take n)) else none) else e[off]?

/-- May it stand in a cell? -/
def IV.cellOk : IV → Bool
  | .undef | .agg _ | .tuple _ => false
  | _ => true
def IV.isSlice : IV → Bool
  | .fslice _ | .nilslice | .eslice | .mslice .. => true
  | _ => false
def IV.isUndef : IV → Bool
  | .undef => true
  | _ => false

/-- Parts laid into cells. -/
def fillI : List IV → List (Nat × Nat × IV) → Option (List IV)
  | cs, [] => some cs
  | cs, (off, n, v) :: rest =>
    if v.isUndef then none else if v.cells.length = n ∧ off + n ≤ cs.length then fillI (cs.take off ++ v.cells ++ cs.drop (off + n)) rest else none
/-- Elements laid into a row. -/
def fillE (n : Nat) : Els → List (Nat × IV) → Option Els
  | es, [] => some es
  | es, (i, v) :: rest => if v.isUndef then none else if v.cells.length = n ∧ i < es.length then fillE n (es.set i v.cells) rest else none

/-- Two cells are equal. -/
def cellEq : CK → IV → IV → Option Bool
  | .i, .int k a, .int k' b => if k = k' then some (a == b) else none
  | .b, .bool a, .bool b => some (a == b)
  | .s, .str a, .str b => some (a == b)
  | _, _, _ => none
def cellsEq : List CK → List IV → List IV → Option Bool
  | [], [], [] => some true
  | k :: ks, a :: x, b :: y => match cellEq k a b, cellsEq ks x y with
    | some p, some q => some (p && q)
    | _, _ => none
  | _, _, _ => none
/-- What '==' says, beside numbers and texts. -/
def eqI : EqK → IV → IV → Option Bool
  | .bool, .bool a, .bool b => some (a == b)
  | .agg ks, .agg x, .agg y => cellsEq ks x y
  | .slice, .nilslice, .nilslice => some true
  | .slice, .mslice .., .nilslice => some false
  | .slice, .fslice (_ :: _), .nilslice => some false
  | .ptr, .nilptr, .nilptr => some true
  | .ptr, .ptr .., .nilptr => some false
  | .ptr, .nilptr, .ptr .. => some false
  | .ptr, .ptr b i off, .ptr b' i' off' => if b = b' ∧ i = i' then some (off == off') else none
  | .func, .nilfunc, .nilfunc => some true
  | .func, .func .., .nilfunc => some false
  | .func, .nilfunc, .func .. => some false
  | _, _, _ => none

def binI (op : BinOp) : IV → IV → Option IV
  | .int k a, .int k' b =>
    match op with
    | .shl => if b < 0 then none else some (.int k (k.wrap (a * 2 ^ (min b.toNat k.bits))))
    | .shr => if b < 0 then none else some (.int k (a.fdiv (2 ^ (min b.toNat k.bits))))
    | _ =>
      if k ≠ k' then none else
      match op with
      | .add => some (.int k (k.wrap (a + b)))
      | .sub => some (.int k (k.wrap (a - b)))
      | .mul => some (.int k (k.wrap (a * b)))
      | .quo => if b = 0 then none else some (.int k (k.wrap (a.tdiv b)))
      | .rem => if b = 0 then none else some (.int k (a.tmod b))
      | .and => some (.int k (k.wrap (BitVec.ofInt k.bits a &&& BitVec.ofInt k.bits b).toNat))
      | .or => some (.int k (k.wrap (BitVec.ofInt k.bits a ||| BitVec.ofInt k.bits b).toNat))
      | .xor => some (.int k (k.wrap (BitVec.ofInt k.bits a ^^^ BitVec.ofInt k.bits b).toNat))
      | .andNot => some (.int k (k.wrap (BitVec.ofInt k.bits a &&& ~~~BitVec.ofInt k.bits b).toNat))
      | .eql => some (.bool (a == b))
      | .neq => some (.bool (a != b))
      | .lss => some (.bool (decide (a < b)))
      | .leq => some (.bool (decide (a ≤ b)))
      | .gtr => some (.bool (decide (a > b)))
      | .geq => some (.bool (decide (a ≥ b)))
      | _ => none
  | .str a, .str b =>
    match op with
    | .add => if ((a.size + b.size : Nat) : Int) > IntKind.i64.max then none else some (.str (a ++ b))
    | .eql => some (.bool (a.toList == b.toList))
    | .neq => some (.bool (!(a.toList == b.toList)))
    | _ => none
  | _, _ => none

def mnGo (k : IntKind) : Int → List IV → Option IV
  | a, [] => some (.int k a)
  | a, .int k' b :: r => if k = k' then mnGo k (if b < a then b else a) r else none
  | _, _ => none
def mxGo (k : IntKind) : Int → List IV → Option IV
  | a, [] => some (.int k a)
  | a, .int k' b :: r => if k = k' then mxGo k (if a < b then b else a) r else none
  | _, _ => none
def mnI : List IV → Option IV
  | .int k a :: r => mnGo k a r
  | _ => none
def mxI : List IV → Option IV
  | .int k a :: r => mxGo k a r
  | _ => none

def bound? (E : Env) (x : Option Opd) (d y : Nat) : Option Nat :=
  match x with
  | none => some d
  | some x => match x.ev E with
    | .int _ i => if 0 ≤ i ∧ i ≤ (y : Int) then some i.toNat else none
    | _ => none

/-- A slice, a text cut. -/
def sliceI (H : Heap) (sz : Nat) (x : IV) (E : Env) (lo hi mx : Option Opd) : Option IV :=
  match x with
  | .str s => if mx.isSome then none else
    match bound? E hi s.size s.size with
    | some h => match bound? E lo 0 h with
      | some l => some (.str (s.extract l h))
      | none => none
    | none => none
  | .fslice es =>
    if mx.isSome then
      (match bound? E mx 0 0, bound? E hi 0 0, bound? E lo 0 0 with
       | some _, some _, some _ => if hi.isSome then some .eslice else none
       | _, _, _ => none)
    else match bound? E hi es.length es.length with
    | some h => match bound? E lo 0 h with
      | some l => if l = 0 ∨ l = h ∨ ((es[l]?).map (·.length) = some sz) then some (.fslice ((es.drop l).take (h - l))) else none
      | none => none
    | none => none
  | .nilslice =>
    (match bound? E mx 0 0, bound? E hi 0 0, bound? E lo 0 0 with
     | some _, some _, some _ => if mx.isSome && !hi.isSome then none else some .nilslice
     | _, _, _ => none)
  | .eslice =>
    (match bound? E mx 0 0, bound? E hi 0 0, bound? E lo 0 0 with
     | some _, some _, some _ => if mx.isSome && !hi.isSome then none else some .eslice
     | _, _, _ => none)
  | .mslice b off len lb ex =>
    if mx.isSome then
      (match bound? E mx 0 0, bound? E hi 0 0, bound? E lo 0 0 with
       | some _, some _, some _ => if hi.isSome then some .eslice else none
       | _, _, _ => none)
    else match bound? E hi len lb with
    | some h => match bound? E lo 0 h with
      | some l => match H b with
        | .live sz' _ => if l = 0 ∨ (l < lb ∧ sz' = sz) then some (.mslice b (off + l) (h - l) (lb - l) ex) else none
        | _ => none
      | none => none
    | none => none
  | _ => none

def loadI (H : Heap) (ag : Bool) (n : Nat) : IV → Option IV
  | .ptr b i off => match H b with
    | .live _ es => match es[i]? with
      | some e => readCells ag e off n
      | none => none
    | _ => none
  | .cptr es i off => match es[i]? with
    | some e => readCells ag e off n
    | none => none
  | _ => none

/-- Operations that leave the memory as it is. -/
def iop (H : Heap) (E : Env) : IOp → Option IV
  | .mv x => some (x.ev E)
  | .pick c a b => match c.ev E with
    | .bool t => some (if t then a.ev E else b.ev E)
    | _ => none
  | .build zero parts => match fillI (zero.map Cst.iv) (parts.map fun p => (p.1, p.2.1, p.2.2.ev E)) with
    | some cs => some (.agg cs)
    | none => none
  | .load ag n x => loadI H ag n (x.ev E)
  | .nilCheck x => match x.ev E with
    | .ptr b i off => some (.ptr b i off)
    | .cptr es i off => some (.cptr es i off)
    | .yield l => some (.yield l)
    | .func (.func f) fs cs => some (.func (.func f) fs cs)
    | _ => none
  | .bin op x y => binI op (x.ev E) (y.ev E)
  | .eq neg k x y => match eqI k (x.ev E) (y.ev E) with
    | some t => some (.bool (if neg then !t else t))
    | none => none
  | .un .neg x => match x.ev E with
    | .int k n => some (.int k (k.wrap (0 - n)))
    | _ => none
  | .un .not x => match x.ev E with
    | .bool b => some (.bool !b)
    | _ => none
  | .un _ _ => none
  | .conv k x => match x.ev E with
    | .int _ n => some (.int k (k.wrap n))
    | _ => none
  | .mkFunc fn fs cs => some (.func fn (fs.map (Opd.ev E)) (cs.map (Opd.ev E)))
  | .slice sz x lo hi mx => if (x.ev E).isSlice = (sz != 0) then sliceI H sz (x.ev E) E lo hi mx else none
  | .fieldAddr x off => match x.ev E with
    | .ptr b i o => some (.ptr b i (o + off))
    | .cptr es i o => some (.cptr es i (o + off))
    | _ => none
  | .field ag x off n => match x.ev E with
    | .agg cs => readCells ag cs off n
    | _ => none
  | .indexAddr sz x i => match x.ev E, i.ev E with
    | .fslice es, .int _ n => if 0 ≤ n ∧ (es[n.toNat]?).map (·.length) = some sz then some (.cptr es n.toNat 0) else none
    | .mslice b off len _ _, .int _ n => match H b with
      | .live sz' _ => if 0 ≤ n ∧ n < (len : Int) ∧ sz' = sz then some (.ptr b (off + n.toNat) 0) else none
      | _ => none
    | _, _ => none
  | .indexAddrA len sz x i => match x.ev E, i.ev E with
    | .ptr b j off, .int _ n => if 0 ≤ n ∧ n < (len : Int) then some (.ptr b j (off + n.toNat * sz)) else none
    | .cptr es j off, .int _ n => if 0 ≤ n ∧ n < (len : Int) then some (.cptr es j (off + n.toNat * sz)) else none
    | _, _ => none
  | .indexA ag len sz x i => match x.ev E, i.ev E with
    | .agg cs, .int _ n => if 0 ≤ n ∧ n < (len : Int) then readCells ag cs (n.toNat * sz) sz else none
    | _, _ => none
  | .indexStr x i => match x.ev E, i.ev E with
    | .str s, .int _ n => if 0 ≤ n then (match s[n.toNat]? with | some b => some (.int .u8 b.toNat) | none => none) else none
    | _, _ => none
  | .extract x i => match x.ev E with
    | .tuple vs => vs[i]?
    | _ => none
  | .len x => match x.ev E with
    | .fslice es => some (.int .i64 es.length)
    | .mslice _ _ len _ _ => some (.int .i64 len)
    | .nilslice | .eslice => some (.int .i64 0)
    | _ => none
  | .lenS x => match x.ev E with
    | .str s => some (.int .i64 s.size)
    | _ => none
  | .cap x => match x.ev E with
    | .nilslice | .eslice => some (.int .i64 0)
    | .mslice _ _ _ lb true => some (.int .i64 lb)
    | _ => none
  | .mn xs => mnI (xs.map (Opd.ev E))
  | .mx xs => mxI (xs.map (Opd.ev E))
  | .buildF zero len parts => match fillE zero.length (List.replicate len (zero.map Cst.iv)) (parts.map fun p => (p.1, p.2.ev E)) with
    | some es => some (.fslice es)
    | none => none
  | .indexF sz x i => match x.ev E, i.ev E with
    | .fslice es, .int _ n => if 0 ≤ n ∧ (es[n.toNat]?).map (·.length) = some sz then some (.cptr es n.toNat 0) else none
    | _, _ => none
  | .loadF ag n x => match x.ev E with
    | .cptr es i off => match es[i]? with
      | some e => readCells ag e off n
      | none => none
    | _ => none
  | _ => none

/-- Cells laid over others. -/
def overlay (e : List IV) (off : Nat) (cs : List IV) : List IV := e.take off ++ cs ++ e.drop (off + cs.length)

/-- What is appended: elements of a slice. -/
def elsOf (H : Heap) : IV → Option Els
  | .fslice es => some es
  | .nilslice => some []
  | .eslice => some []
  | .mslice b off len _ _ => match H b with
    | .live _ es => if off + len ≤ es.length then some ((es.drop off).take len) else none
    | _ => none
  | .str s => some (s.data.toList.map fun b => [.int .u8 b.toNat])
  | _ => none

/-- Operations. -/
inductive HOp (H : Heap) (E : Env) : IOp → IV → Heap → Prop
  | pure {op : IOp} {v : IV} (h : iop H E op = some v) : HOp H E op v H
  | box {n : Nat} {x : Opd} {b : Nat} (hb : H b = .free) (hx : (x.ev E).isUndef = false) : HOp H E (.box n x) (.ptr b 0 0) (H.set b (.live (x.ev E).cells.length [(x.ev E).cells]))
  | buildSlice {zero : List Cst} {len : Nat} {parts : List (Nat × Opd)} {b : Nat} {es : Els} (hb : H b = .free)
      (hf : fillE zero.length (List.replicate len (zero.map Cst.iv)) (parts.map fun p => (p.1, p.2.ev E)) = some es) :
      HOp H E (.buildSlice zero len parts) (.mslice b 0 len len true) (H.set b (.live zero.length es))
  | makeSlice {zero : List Cst} {bytes : Nat} {l c : Opd} {b : Nat} {kl kc : IntKind} {nl nc : Nat} (hb : H b = .free) (hl : l.ev E = .int kl nl) (hc : c.ev E = .int kc nc)
      (hle : nl ≤ nc) (hn : nc < 2 ^ 40) (hbig : bytes * nc ≤ 2 ^ 46) : HOp H E (.makeSlice zero bytes l c) (.mslice b 0 nl nc true) (H.set b (.live zero.length (List.replicate nc (zero.map Cst.iv))))
  /-- so many zeros are appended to nothing -/
  | appendZ {zero : List Cst} {bytes : Nat} {s x : Opd} {b : Nat} {kn : IntKind} {n : Nat} (hb : H b = .free) (hs : s.ev E = .nilslice) (hx : x.ev E = .int kn n) (hn : 0 < n) (hbig : n * (bytes + 1) < 2 ^ 40) :
      HOp H E (.appendZ zero bytes s x) (.mslice b 0 n n false) (H.set b (.live zero.length (List.replicate n (zero.map Cst.iv))))
  | store {n : Nat} {x v : Opd} {b i off sz : Nat} {es : Els} {e : List IV} (hx : x.ev E = .ptr b i off) (hH : H b = .live sz es) (he : es[i]? = some e)
      (hu : ∀ c ∈ (v.ev E).cells, c.cellOk = true) (hn : (v.ev E).cells.length = n) (ho : off + n ≤ e.length) : HOp H E (.store n x v) .undef (H.set b (.live sz (es.set i (overlay e off (v.ev E).cells))))
  /-- nothing is appended -/
  | append0 {zero : List Cst} {bytes : Nat} {s x : Opd} (hs : (s.ev E).isSlice = true) (hx : elsOf H (x.ev E) = some []) : HOp H E (.append zero bytes s x) (s.ev E) H
  /-- onto nothing: anew -/
  | appendNil {zero : List Cst} {bytes : Nat} {s x : Opd} {b : Nat} {es : Els} (hb : H b = .free) (hs : s.ev E = .nilslice ∨ s.ev E = .eslice) (hx : elsOf H (x.ev E) = some es) (hne : es ≠ [])
      (hz : ∀ e ∈ es, e.length = zero.length) (hok : ∀ e ∈ es, ∀ c ∈ e, IV.cellOk c = true) (hbig : es.length * (bytes + 1) ≤ 2 ^ 40) : HOp H E (.append zero bytes s x) (.mslice b 0 es.length es.length false) (H.set b (.live zero.length es))
  /-- onto a slice that is full: anew -/
  | appendFull {zero : List Cst} {bytes : Nat} {s x : Opd} {b b' off len : Nat} {es es' : Els} (hb : H b' = .free) (hs : s.ev E = .mslice b off len len true) (hH : H b = .live zero.length es)
      (hl : off + len ≤ es.length) (hx : elsOf H (x.ev E) = some es') (hne : es' ≠ []) (hz : ∀ e ∈ es', e.length = zero.length) (hok : ∀ e ∈ es', ∀ c ∈ e, IV.cellOk c = true) (hbig : (len + es'.length) * (bytes + 1) ≤ 2 ^ 40) :
      HOp H E (.append zero bytes s x) (.mslice b' 0 (len + es'.length) (len + es'.length) false) (H.set b' (.live zero.length ((es.drop off).take len ++ es')))
  /-- onto a slice at its block's end: the block is given up -/
  | append {zero : List Cst} {bytes : Nat} {s x : Opd} {b b' off len lb : Nat} {ex : Bool} {es es' : Els} (hb : H b' = .free) (hs : s.ev E = .mslice b off len lb ex) (hH : H b = .live zero.length es)
      (hl : off + len = es.length) (hx : elsOf H (x.ev E) = some es') (hne : es' ≠ []) (hz : ∀ e ∈ es', e.length = zero.length) (hok : ∀ e ∈ es', ∀ c ∈ e, IV.cellOk c = true)
      (hbig : (len + es'.length) * (bytes + 1) ≤ 2 ^ 40) :
      HOp H E (.append zero bytes s x) (.mslice b' 0 (len + es'.length) (len + es'.length) false) ((H.set b .dead).set b' (.live zero.length (es.drop off ++ es')))
  /-- into room that is known: in place -/
  | appendIn {zero : List Cst} {bytes : Nat} {s x : Opd} {b off len lb : Nat} {ex : Bool} {es es' : Els} (hs : s.ev E = .mslice b off len lb ex) (hH : H b = .live zero.length es)
      (hl : off + len + es'.length ≤ es.length) (hlb : len + es'.length ≤ lb) (hx : elsOf H (x.ev E) = some es') (hz : ∀ e ∈ es', e.length = zero.length) (hok : ∀ e ∈ es', ∀ c ∈ e, IV.cellOk c = true) :
      HOp H E (.append zero bytes s x) (.mslice b off (len + es'.length) lb ex) (H.set b (.live zero.length (es.take (off + len) ++ es' ++ es.drop (off + len + es'.length))))

inductive IRes where
  | tmp (t : Nat)
  | cell (t : Nat) (ag : Bool) (n : Nat)
  deriving Inhabited
structure IFunc where
  nt : Nat
  res : List IRes
  body : IC
  deriving Inhabited

def IRes.val (H : Heap) (E : Env) : IRes → Option IV
  | .tmp t => some (E t)
  | .cell t ag n => loadI H ag n (E t)
def results1 (H : Heap) (E : Env) : List IRes → Option (List IV)
  | [] => some []
  | r :: rs => match r.val H E, results1 H E rs with
    | some v, some vs => some (v :: vs)
    | _, _ => none
def resultsI (H : Heap) (E : Env) (rs : List IRes) : Option IV :=
  match results1 H E rs with
  | some [v] => some v
  | some vs => some (.tuple vs)
  | none => none

/-- What is frozen, of memory that is given up. -/
inductive Frz (H H' : Heap) : IV → IV → Prop
  | refl (x : IV) : Frz H H' x x
  | mslice {b off len lb sz : Nat} {ex : Bool} {es : Els} {es' : Els} (hH : H b = .live sz es) (hH' : ∀ sz e, H' b ≠ .live sz e) (hl : off + len ≤ es.length) (hn : es'.length = len)
      (hle : ∀ (j : Nat) (h : j < es'.length) (h' : off + j < es.length), es'[j].length = es[off + j].length)
      (hv : ∀ (j k : Nat) (h : j < es'.length) (h' : off + j < es.length) (hk : k < es'[j].length) (hk' : k < es[off + j].length), Frz H H' (es[off + j][k]) (es'[j][k])) :
      Frz H H' (.mslice b off len lb ex) (.fslice es')
  | agg {cs cs' : List IV} (hn : cs'.length = cs.length) (hv : ∀ (i : Nat) (h : i < cs.length) (h' : i < cs'.length), Frz H H' cs[i] cs'[i]) : Frz H H' (.agg cs) (.agg cs')
  | tuple {cs cs' : List IV} (hn : cs'.length = cs.length) (hv : ∀ (i : Nat) (h : i < cs.length) (h' : i < cs'.length), Frz H H' cs[i] cs'[i]) : Frz H H' (.tuple cs) (.tuple cs')
  | func {fn : Fn} {fs fs' cs cs' : List IV} (hn : fs'.length = fs.length) (hv : ∀ (i : Nat) (h : i < fs.length) (h' : i < fs'.length), Frz H H' fs[i] fs'[i])
      (hm : cs'.length = cs.length) (hw : ∀ (i : Nat) (h : i < cs.length) (h' : i < cs'.length), Frz H H' cs[i] cs'[i]) : Frz H H' (.func fn fs cs) (.func fn fs' cs')
  | nil : Frz H H' .nilslice (.fslice [])

/-- .. in a slot. -/
inductive FrzS (H H' : Heap) : Slot → Slot → Prop
  | refl (s : Slot) : FrzS H H' s s
  | live {sz : Nat} {es es' : Els} (hn : es'.length = es.length) (hle : ∀ (j : Nat) (h : j < es.length) (h' : j < es'.length), es'[j].length = es[j].length)
      (hv : ∀ (j k : Nat) (h : j < es.length) (h' : j < es'.length) (hk : k < es[j].length) (hk' : k < es'[j].length), Frz H H' es[j][k] es'[j][k]) : FrzS H H' (.live sz es) (.live sz es')

def Heap.named (H : Heap) (b : Nat) : Prop := H b ≠ .free

/-- Memory of a call's own is forgotten behind the call. H: at its start; H1: at its end; H2: behind it. -/
structure Trim (H H1 H2 : Heap) (v : IV) : Prop where
  keep : ∀ b, H2 b = H1 b ∨ (H2 b = .free ∧ H b = .free) ∨ (H2 b = .dead ∧ H1 b ≠ .free)
  named : ∀ b, H b ≠ .free → H2 b ≠ .free
  inn : ∀ b sz es, H2 b = .live sz es → H b = .live sz es ∨ ∀ (j k : Nat) (h : j < es.length) (h' : k < es[j].length), Inn H2.named es[j][k]
  loop : ∀ b, (H2 b).isLoop = false
  val : Inn H2.named v

/-- How an operation stands to the memory: not at all; it reads; it makes a block; it may change what was there. -/
inductive Cls where
  | pure | read | alloc | chain
  deriving DecidableEq
def IOp.cls : IOp → Cls
  | .load .. | .indexAddr .. | .slice .. => .read
  | .box .. | .buildSlice .. | .makeSlice .. | .appendZ .. => .alloc
  | .store .. | .append .. | .call .. => .chain
  | _ => .pure

/-- A value without frozen memory. -/
inductive Bare : IV → Prop
  | undef : Bare .undef
  | bool (b : Bool) : Bare (.bool b)
  | int (k : IntKind) (n : Int) : Bare (.int k n)
  | str (s : ByteArray) : Bare (.str s)
  | nilptr : Bare .nilptr
  | ptr (b i off : Nat) : Bare (.ptr b i off)
  | nilslice : Bare .nilslice
  | eslice : Bare .eslice
  | mslice (b off len lb : Nat) (ex : Bool) : Bare (.mslice b off len lb ex)
  | nilfunc : Bare .nilfunc
  | agg (cs : List IV) (h : ∀ (i : Nat) (h : i < cs.length), Bare cs[i]) : Bare (.agg cs)
  | tuple (cs : List IV) (h : ∀ (i : Nat) (h : i < cs.length), Bare cs[i]) : Bare (.tuple cs)

inductive Task where
  | code (S : Nat → Prop) (c : IC) (E : Env) (H : Heap)
  | step (o : IOper) (E : Env) (H : Heap)
  | ops (l : List IOper) (E : Env) (H : Heap)
  | draw (ops : List IOper) (anc l : List Nat) (held : List (Nat × Env × IV)) (E : Env) (H : Heap)
  | call (f : IV) (args : List IV) (H : Heap)
inductive Out where
  | code (e : IEx) (E : Env) (H : Heap)
  | step (v : IV) (H : Heap)
  | ops (E : Env) (H : Heap)
  | call (v : IV) (H : Heap)

def argEnv (l : List IV) : Env := fun t => l.getD t .undef

/-- What was read is still so. -/
def heldOk (ops : List IOper) (H : Heap) (h : Nat × Env × IV) : Prop :=
  ∀ o, ops[h.1]? = some o → (∀ t w, o.guard = some (t, w) → h.2.1 t = .bool w) → iop H h.2.1 o.op = some h.2.2

/-- Every name in a memory stands for something. -/
structure Heap.closed (H : Heap) : Prop where
  live : ∀ b sz es, H b = .live sz es → ∀ (j k : Nat) (h : j < es.length) (h' : k < es[j].length), Inn H.named es[j][k]
  loop : ∀ b E ps aa bd st pd, H b = .loop E ps aa bd st pd → ∀ t, Inn H.named (E t)

mutual
def IV.ren (π : Nat → Nat) : IV → IV
  | .undef => .undef
  | .bool b => .bool b
  | .int k n => .int k n
  | .str s => .str s
  | .nilptr => .nilptr
  | .ptr b i off => .ptr (π b) i off
  | .cptr es i off => .cptr (renE π es) i off
  | .nilslice => .nilslice
  | .eslice => .eslice
  | .fslice es => .fslice (renE π es)
  | .mslice b off len lb ex => .mslice (π b) off len lb ex
  | .func fn fs cs => .func fn (renL π fs) (renL π cs)
  | .yield l => .yield (π l)
  | .nilfunc => .nilfunc
  | .agg cs => .agg (renL π cs)
  | .tuple vs => .tuple (renL π vs)
def renL (π : Nat → Nat) : List IV → List IV
  | [] => []
  | x :: xs => x.ren π :: renL π xs
def renE (π : Nat → Nat) : List (List IV) → List (List IV)
  | [] => []
  | x :: xs => renL π x :: renE π xs
end
def Slot.ren (π : Nat → Nat) : Slot → Slot
  | .free => .free
  | .dead => .dead
  | .live sz es => .live sz (renE π es)
  | .loop E ps aa bd st pd => .loop (fun t => (E t).ren π) ps aa bd st pd
def sw (a b : Nat) (x : Nat) : Nat := if x = a then b else if x = b then a else x
def Heap.ren (H : Heap) (a b : Nat) : Heap where
  at_ := fun x => (H (sw a b x)).ren (sw a b)
  fin := by
    obtain ⟨n, hn⟩ := H.fin
    refine ⟨max n (a + b + 1), fun m hm => ?_⟩
    have : sw a b m = m := by simp only [sw]; rw [if_neg (by omega), if_neg (by omega)]
    rw [this, hn m (by omega)]; rfl

/-- The functions; calls that are known otherwise. -/
structure Sys where
  fn : FuncId → Option IFunc
  base : IV → List IV → Heap → IV → Heap → Prop
  rounds : Bool

/-- A guard that bars: it says the other thing, or was itself barred. -/
def Skips (x : IV) (w : Bool) : Prop := (∃ b, x = .bool b ∧ b ≠ w) ∨ x = .tuple []

/-- How it runs. -/
inductive Ev (T : Sys) : Task → Out → Prop
  | skip {S E H} : Ev T (.code S .skip E H) (.code .normal E H)
  | seqN {S a b E H E1 H1 e E2 H2} (h1 : Ev T (.code S a E H) (.code .normal E1 H1)) (h2 : Ev T (.code S b E1 H1) (.code e E2 H2)) : Ev T (.code S (.seq a b) E H) (.code e E2 H2)
  | seqX {S a b E H e E1 H1} (h1 : Ev T (.code S a E H) (.code e E1 H1)) (he : e ≠ .normal) : Ev T (.code S (.seq a b) E H) (.code e E1 H1)
  | cond {S} {c : Opd} {a b E H e E1 H1} {t : Bool} (hc : c.ev E = .bool t) (h : Ev T (.code S (if t then a else b) E H) (.code e E1 H1)) : Ev T (.code S (.cond c a b) E H) (.code e E1 H1)
  | block {S id c E H e E1 H1} (h : Ev T (.code S c E H) (.code e E1 H1)) : Ev T (.code S (.block id c) E H) (.code (e.leave id) E1 H1)
  | scope {S c E H e E1 H1} (h : Ev T (.code S c E H) (.code e E1 H1)) : Ev T (.code S (.scope c) E H) (.code e E1 H1)
  | loopN {S c E H E1 H1 e E2 H2} (h1 : Ev T (.code S c E H) (.code .normal E1 H1)) (h2 : Ev T (.code S (.loop c) E1 H1) (.code e E2 H2)) : Ev T (.code S (.loop c) E H) (.code e E2 H2)
  | loopX {S c E H e E1 H1} (h1 : Ev T (.code S c E H) (.code e E1 H1)) (he : e ≠ .normal) : Ev T (.code S (.loop c) E H) (.code e E1 H1)
  | exit {S id E H} : Ev T (.code S (.exit id) E H) (.code (.exit id) E H)
  | ret {S E H} : Ev T (.code S .ret E H) (.code .ret E H)
  | region {S l E H E1 H1} (h : Ev T (.ops l E H) (.ops E1 H1)) : Ev T (.code S (.region l) E H) (.code .normal E1 H1)
  | draw {S l anc ord E H E1 H1} (h : Ev T (.draw l anc ord [] E H) (.ops E1 H1)) : Ev T (.code S (.draw l anc ord) E H) (.code .normal E1 H1)
  | weak {S} {c : IC} {E E' : Env} {H e E1 H1} (hE : ∀ t, E' t = .undef ∨ E' t = E t) (h : Ev T (.code S c E' H) (.code e E1 H1)) : Ev T (.code S c E H) (.code e E1 H1)
  /-- What is not wanted any more is forgotten; what is given up is frozen. -/
  | forget {S} {c : IC} {E : Env} {H e} {E1 E2 : Env} {H1 H2 : Heap} (h : Ev T (.code S c E H) (.code e E1 H1)) (hE : ∀ t, E2 t = .undef ∨ Frz H1 H2 (E1 t) (E2 t)) (hH : ∀ b, FrzS H1 H2 (H1 b) (H2 b) ∨ (H2 b = .free ∧ ¬ S b))
      (hi : ∀ t, Inn H2.named (E2 t)) (hc : H2.closed) : Ev T (.code S c E H) (.code e E2 H2)
  /-- Names that stand for nothing may be taken for dead ones. -/
  | pad {S} {c : IC} {E : Env} {H H' : Heap} {e} {E1 : Env} {H1 : Heap} (hH : ∀ b, H' b = H b ∨ (H b = .free ∧ H' b = .dead)) (h : Ev T (.code S c E H') (.code e E1 H1)) : Ev T (.code S c E H) (.code e E1 H1)
  /-- What is given up beforehand is frozen. -/
  | start {S} {c : IC} {E E' : Env} {H H2 : Heap} {e} {E1 : Env} {H1 : Heap} (hH : ∀ b, H2 b = H b ∨ (H2 b = .dead ∧ H b ≠ .free)) (hE : ∀ t, E' t = .undef ∨ Frz H H2 (E t) (E' t)) (h : Ev T (.code S c E' H2) (.code e E1 H1)) : Ev T (.code S c E H) (.code e E1 H1)
  /-- Names of one's own are changed. -/
  | other {S} {c : IC} {E : Env} {H e} {E1 : Env} {H1 : Heap} (a b : Nat) (hab : a = b ∨ (¬ S a ∧ ¬ S b)) (h : Ev T (.code S c E H) (.code e E1 H1)) : Ev T (.code S c E H) (.code e (fun t => (E1 t).ren (sw a b)) (H1.ren a b))
  | pass {o : IOper} {E H} {t : Nat} {w : Bool} {b : IV} (hg : o.guard = some (t, w)) (hb : E t = b) (hw : Skips b w) : Ev T (.step o E H) (.step (.tuple []) H)
  | op {o : IOper} {E H v H'} (hg : ∀ t w, o.guard = some (t, w) → E t = .bool w) (ho : HOp H E o.op v H') : Ev T (.step o E H) (.step v H')
  | callOp {o : IOper} {E H v H'} {f : Opd} {args : List Opd} (hg : ∀ t w, o.guard = some (t, w) → E t = .bool w) (ho : o.op = .call f args)
      (hc : Ev T (.call (f.ev E) (args.map (Opd.ev E)) H) (.call v H')) : Ev T (.step o E H) (.step v H')
  | nil {E H} : Ev T (.ops [] E H) (.ops E H)
  | cons {o : IOper} {rest E H v H' E1 H1} (hs : Ev T (.step o E H) (.step v H')) (h : Ev T (.ops rest (E.putO o.dst v) H') (.ops E1 H1)) : Ev T (.ops (o :: rest) E H) (.ops E1 H1)
  | drawNil {ops anc held E H} : Ev T (.draw ops anc [] held E H) (.ops E H)
  | drawCons {ops anc i l held E H v H' E1 H1} {o : IOper} (hi : ops[i]? = some o) (hs : Ev T (.step o E H) (.step v H'))
      (hh : o.op.cls = .chain → ∀ h ∈ held, (anc.getD i 0).testBit h.1 = false → heldOk ops H' h)
      (hr : Ev T (.draw ops anc l (if o.op.cls = .read then (i, E, v) :: held else held) (E.putO o.dst v) H') (.ops E1 H1)) : Ev T (.draw ops anc (i :: l) held E H) (.ops E1 H1)
  | func {f : FuncId} {fs cs args : List IV} {fn : IFunc} {H e E1 H1 v v' H2} {S : Nat → Prop} (hT : T.fn f = some fn) (hS : ∀ b, H b ≠ .free → S b) (hb : Ev T (.code S fn.body (argEnv (fs ++ args ++ cs)) H) (.code e E1 H1))
      (he : e = .ret ∨ e = .normal) (hr : resultsI H1 E1 fn.res = some v) (hz : Frz H1 H2 v v') (ht : Trim H H1 H2 v') : Ev T (.call (.func (.func f) fs cs) args H) (.call v' H2)
  /-- .. all its memory is kept. -/
  | funcA {f : FuncId} {fs cs args : List IV} {fn : IFunc} {H e E1 H1 v} {S : Nat → Prop} (hT : T.fn f = some fn) (hS : ∀ b, H b ≠ .free → S b) (hS' : ∀ b, S b → H b ≠ .free) (hb : Ev T (.code S fn.body (argEnv (fs ++ args ++ cs)) H) (.code e E1 H1))
      (he : e = .ret ∨ e = .normal) (hr : resultsI H1 E1 fn.res = some v) : Ev T (.call (.func (.func f) fs cs) args H) (.call v H1)
  | base {f : IV} {args : List IV} {H v H'} (hb : T.base f args H v H') (hg : Inn H.named f → (∀ x ∈ args, Inn H.named x) → H.closed → Inn H'.named v ∧ H'.closed ∧ ∀ c, H.named c → H'.named c) : Ev T (.call f args H) (.call v H')
  /-- A range over a function: the rounds are met where it calls yield. -/
  | rangeFunc {S : Nat → Prop} {g : Opd} {ps : List Nat} {aa bd : IC} {E E0 : Env} {H : Heap} {l : Nat} {f : FuncId} {fs cs : List IV} {fn : IFunc} {v : IV} {H1 : Heap} {st : LoopState} {e : IEx}
      (hl : H l = .free) (hE : ∀ t, E0 t = .undef ∨ E0 t = E t) (hg : g.ev E = .func (.func f) fs cs) (hT : T.fn f = some fn)
      (hc : Ev T (.call (.func (.func f) fs cs) [.yield l] (H.set l (.loop E0 ps aa bd .ready .normal))) (.call v H1)) (hL : H1 l = .loop E0 ps aa bd st e) (hst : st ≠ .busy) : Ev T (.code S (.rangeFunc g ps aa bd) E H) (.code e E (H1.set l .dead))
  /-- A round. -/
  | yield {l : Nat} {args : List IV} {E E1 E2 : Env} {ps : List Nat} {aa bd : IC} {H H1 H2 : Heap} {pd e : IEx} {S : Nat → Prop} (hy : T.rounds = true) (hS : ∀ b, H b ≠ .free → S b) (hS' : ∀ b, S b → H b ≠ .free) (hl : H l = .loop E ps aa bd .ready pd) (hn : args.length = ps.length)
      (ha : Ev T (.code S aa (E.puts ps args) H) (.code .normal E1 H1)) (hl1 : H1 l = .loop E ps aa bd .ready pd) (hb : Ev T (.code S bd E1 (H1.set l (.loop E ps aa bd .busy pd))) (.code e E2 H2)) (hl2 : H2 l = .loop E ps aa bd .busy pd) :
      Ev T (.call (.yield l) args H) (.call (.bool (decide (e = .normal))) (H2.set l (.loop E ps aa bd (if e = .normal then .ready else .done) e)))
  /-- What a call is handed is frozen, for good. -/
  | frz {f : IV} {args args' : List IV} {H H2 H1 : Heap} {v : IV} (hH : ∀ b, H2 b = H b ∨ (H2 b = .dead ∧ H b ≠ .free)) (hn : args'.length = args.length) (hz : ∀ (i : Nat) (h : i < args.length) (h' : i < args'.length), Frz H H2 args[i] args'[i])
      (hc : Ev T (.call f args' H2) (.call v H1)) : Ev T (.call f args H) (.call v H1)
  /-- A call is handed memory of its caller's to read; none of it comes back. -/
  | borrow {f : IV} {args args' : List IV} {Hb H2 H H1 Hb1 : Heap} {v : IV} (hH : ∀ b, H2 b = Hb b ∨ (H2 b = .dead ∧ Hb b ≠ .free)) (hn : args'.length = args.length) (hz : ∀ (i : Nat) (h : i < args.length) (h' : i < args'.length), Frz Hb H2 args[i] args'[i])
      (hf : Inn H.named f) (ha : ∀ x ∈ args', Inn H.named x) (hcl : H.closed) (hc : Ev T (.call f args' H) (.call v H1)) (hx : ∀ b, (H2 b = Hb b ∧ Hb b = H b ∧ Hb1 b = H1 b) ∨ (H b = .free ∧ H1 b = .free ∧ Hb1 b = Hb b))
      (hl : ∀ b, (H b).isLoop = false) (hl1 : ∀ b, (H1 b).isLoop = false) (hv : Bare v) (hb : ∀ b sz es, H1 b = .live sz es → ∀ (j k : Nat) (h : j < es.length) (h' : k < es[j].length), Bare es[j][k]) : Ev T (.call f args Hb) (.call v Hb1)
  /-- A call under other names. -/
  | ren {f : IV} {args : List IV} {H v H'} (a b : Nat) (hc : Ev T (.call f args H) (.call v H')) : Ev T (.call (f.ren (sw a b)) (args.map (IV.ren (sw a b))) (H.ren a b)) (.call (v.ren (sw a b)) (H'.ren a b))
  /-- A call in a greater memory. -/
  | frame {f : IV} {args : List IV} {H H1 Hb Hb1 v} (hf : Inn H.named f) (ha : ∀ x ∈ args, Inn H.named x) (hcl : H.closed) (hc : Ev T (.call f args H) (.call v H1))
      (hx : ∀ b, (Hb b = H b ∧ Hb1 b = H1 b) ∨ (H b = .free ∧ H1 b = .free ∧ Hb1 b = Hb b)) (hl : (∀ b, (Hb b).isLoop = true → H b = Hb b) ∨ ∀ b, (H b).isLoop = false) : Ev T (.call f args Hb) (.call v Hb1)

end Go.Ideal

/- An ideal machine for Go code. Part 4: what a state stands for; operations that leave the memory as it is. -/
namespace Go.Ideal
open Go.RowKit

/-- What is no memory of cells: a loop's record, a block of deferred calls. -/
inductive Special : Obj → Prop
  | loop (l : Loop) : Special (.loop l)
  | deferred (d : Option (List Deferred)) : Special (.deferred d)
/-- Below a block the world is as it was; what is special stays. -/
structure Base (n0 : Nat) (w0 w : World) : Prop where
  below : Below n0 w0 w
  spec : ∀ (k : Nat) (o : Obj), w0.heap[k]? = some o → Special o → w.heap[k]? = some o
theorem Base.size {n0 : Nat} {w0 w : World} (h : Base n0 w0 w) : w0.heap.size ≤ w.heap.size := h.below.size
theorem Base.refl (n0 : Nat) (w : World) : Base n0 w w := ⟨Below.refl _ _, fun _ _ h _ => h⟩
theorem Base.trans {n0 : Nat} {a b c : World} (h : Base n0 a b) (k : Base n0 b c) : Base n0 a c := ⟨h.below.trans k.below, fun i o q s => k.spec i o (h.spec i o q s) s⟩
theorem Base.drew {n0 : Nat} {a w : World} (h : Base n0 a w) : Base n0 a w.drew := ⟨h.below.drew, h.spec⟩
theorem Base.alloc {n0 : Nat} {a w : World} (h : Base n0 a w) (hB : n0 ≤ w.heap.size) (o : Obj) : Base n0 a (w.alloc o) :=
  ⟨h.below.alloc hB o, fun k p q s => by
    have := h.spec k p q s
    have hk : k < w.heap.size := (Array.getElem?_eq_some_iff.mp this).1
    rw [Below.heap_alloc _ _ _ hk]; exact this⟩
theorem spec_setCell {w : World} {a : Addr} {u : Value} {k : Nat} {o : Obj} (h : w.heap[k]? = some o) (s : Special o) : (w.setCell a u).heap[k]? = some o := by
  simp only [World.setCell, Array.getElem?_modify]
  split
  · rename_i e
    rw [h]
    cases s <;> rfl
  · exact h
theorem Base.setCell {n0 : Nat} {a w : World} (h : Base n0 a w) {p : Addr} (hp : n0 ≤ p.block) (u : Value) : Base n0 a (w.setCell p u) :=
  ⟨h.below.setCell hp u, fun k o q s => spec_setCell (h.spec k o q s) s⟩

/-- What the memory stands for. -/
structure WR (n0 : Nat) (w0 : World) (Φ X : Frozen) (μ : Places) (H : Heap) (w : World) : Prop where
  n0le : n0 ≤ w.heap.size
  base : Base n0 w0 w
  fz : ∀ k i v, Φ k i = some v → w.cell? ⟨k, i, none⟩ = some v
  xz : ∀ k i v, X k i = some v → w.cell? ⟨k, i, none⟩ = some v
  xf : ∀ k i v, X k i = some v → Φ k i = none
  dom : ∀ b, (μ b).isSome ↔ H b ≠ .free
  nofr : ∀ k i, n0 ≤ k → w.frozen? ⟨k, i, none⟩ = false
  sz : ∀ b sz es L, H b = .live sz es → μ b = some L → L.sz = sz ∧ n0 ≤ L.rb ∧ L.rb < w.heap.size ∧ (∀ e ∈ es, e.length = sz) ∧ es.length * sz ≤ L.ext
  cell : ∀ b sz es L, H b = .live sz es → μ b = some L → ∀ k, k < L.ext → ∃ v, w.cell? ⟨L.rb, L.ro + k, none⟩ = some v
  val : ∀ b sz es L, H b = .live sz es → μ b = some L → ∀ (i j : Nat) (hi : i < es.length) (hj : j < es[i].length), ∃ v, w.cell? ⟨L.rb, L.ro + i * sz + j, none⟩ = some v ∧ VR Φ μ es[i][j] v
  disj : ∀ b b' sz sz' es es' L L', b ≠ b' → H b = .live sz es → H b' = .live sz' es' → μ b = some L → μ b' = some L' → 0 < L.ext → 0 < L'.ext → L.rb ≠ L'.rb ∨ L.ro + L.ext ≤ L'.ro ∨ L'.ro + L'.ext ≤ L.ro
  fdisj : ∀ b sz es L, H b = .live sz es → μ b = some L → ∀ k, k < L.ext → Φ L.rb (L.ro + k) = none
  xdisj : ∀ b sz es L, H b = .live sz es → μ b = some L → ∀ k, k < L.ext → X L.rb (L.ro + k) = none

/-- What a frame stands for. -/
structure AR (Φ : Frozen) (μ : Places) (nt : Nat) (E : Env) (a : Act) : Prop where
  size : nt ≤ a.tmps.size
  val : ∀ t, VR Φ μ (E t) (a.tmps.getD t undef)

theorem AR.mono {Φ Φ' : Frozen} {μ μ' : Places} {nt : Nat} {E : Env} {a : Act} (hΦ : ∀ k i v, Φ k i = some v → Φ' k i = some v) (hμ : ∀ b L, μ b = some L → μ' b = some L)
    (h : AR Φ μ nt E a) : AR Φ' μ' nt E a := ⟨h.size, fun t => (h.val t).mono hΦ hμ⟩

theorem AR.put {Φ : Frozen} {μ : Places} {nt : Nat} {E : Env} {a : Act} (h : AR Φ μ nt E a) {d : Option Nat} (hd : ∀ t, d = some t → t < nt) {x : IV} {v : Value} (hv : VR Φ μ x v) :
    AR Φ μ nt (E.putO d x) (a.put d v) := by
  cases d with
  | none => exact h
  | some t =>
    have ht := hd t rfl
    refine ⟨by simpa [Act.put] using h.size, fun s => ?_⟩
    simp only [Env.putO, Env.put, Act.put]
    by_cases e : s = t
    · subst e
      have : s < a.tmps.size := Nat.lt_of_lt_of_le ht h.size
      simpa [this] using hv
    · rw [if_neg e]
      have := h.val s
      rw [show (a.tmps.setIfInBounds t v).getD s undef = a.tmps.getD s undef by simp [Array.getElem?_setIfInBounds, Ne.symm e]]
      exact this

/-- A constant. -/
def cellI : Value → Option Cst
  | .bool b => some (.bool b)
  | .int k n => some (.int k n)
  | .string s => some (.str s)
  | .pointer none => some .nilptr
  | .slice none 0 0 => some .nilslice
  | .nilFunc => some .nilfunc
  | .func (.func f) fs cs => if fs.size = 0 ∧ cs.size = 0 then some (.func f) else none
  | _ => none
def cellsI : List Value → Option (List Cst)
  | [] => some []
  | v :: vs => match cellI v, cellsI vs with
    | some x, some xs => some (x :: xs)
    | _, _ => none
/-- The cells of a constant. -/
def constI : Value → Option (List Cst)
  | .agg cs => cellsI cs.toList
  | v => (cellI v).map ([·])

theorem cellI_vr {Φ : Frozen} {μ : Places} {v : Value} {x : Cst} (h : cellI v = some x) : VR Φ μ x.iv v := by
  unfold cellI at h
  split at h <;> first
    | (obtain rfl := Option.some.inj h; first | exact .bool _ | exact .int _ _ | exact .str _ | exact .nilptr | exact .nilslice | exact .nilfunc)
    | skip
  · split at h
    · rename_i hs
      obtain rfl := Option.some.inj h
      exact .func _ _ _ _ _ hs.1.symm hs.2.symm (fun i h => by simp at h) (fun i h => by simp at h)
    · cases h
  · cases h
theorem cellI_cells {v : Value} {x : Cst} (h : cellI v = some x) : v.cells = #[v] := by
  cases v <;> first | rfl | simp [cellI] at h

theorem cellsI_vr {Φ : Frozen} {μ : Places} : ∀ {vs : List Value} {xs : List Cst}, cellsI vs = some xs → (xs.map Cst.iv).length = vs.length ∧ ∀ (i : Nat) (h : i < (xs.map Cst.iv).length) (h' : i < vs.length), VR Φ μ (xs.map Cst.iv)[i] vs[i]
  | [], xs, h => by
    obtain rfl := Option.some.inj h
    exact ⟨rfl, fun i h => by simp at h⟩
  | v :: vs, xs, h => by
    simp only [cellsI] at h
    split at h
    · rename_i x xs' hx hxs
      obtain rfl := Option.some.inj h
      obtain ⟨h1, h2⟩ := cellsI_vr (Φ := Φ) (μ := μ) hxs
      refine ⟨by simpa using h1, fun i h h' => ?_⟩
      cases i with
      | zero => exact cellI_vr hx
      | succ i => exact h2 i (by simpa using h) (by simpa using h')
    · cases h

/-- Rows that stand for each other. -/
def PW (Φ : Frozen) (μ : Places) (cs : List IV) (vs : Array Value) : Prop := cs.length = vs.size ∧ ∀ (i : Nat) (h : i < cs.length) (h' : i < vs.size), VR Φ μ cs[i] vs[i]

theorem constI_pw {Φ : Frozen} {μ : Places} {v : Value} {xs : List Cst} (h : constI v = some xs) : PW Φ μ (xs.map Cst.iv) v.cells := by
  unfold constI at h
  split at h
  · obtain ⟨h1, h2⟩ := cellsI_vr (Φ := Φ) (μ := μ) h
    exact ⟨by simpa [Value.cells] using h1, fun i h h' => by have := h2 i h (by simpa [Value.cells] using h'); rw [Array.getElem_toList] at this; exact this⟩
  · obtain ⟨x, hx, rfl⟩ := Option.map_eq_some_iff.mp h
    rw [cellI_cells hx]
    refine ⟨rfl, fun i h h' => ?_⟩
    obtain rfl : i = 0 := by simpa using h
    exact cellI_vr hx

def opdI : Operand → Option Opd
  | .tmp t => some (.tmp t)
  | .const (.agg cs) => (cellsI cs.toList).map .agg
  | .const v => (cellI v).map .const
  | .func f => some (.const (.func f))
  | .global _ => none

theorem opd_vr {Φ : Frozen} {μ : Places} {nt : Nat} {E : Env} {a : Act} (hA : AR Φ μ nt E a) {x : Operand} {y : Opd} (h : opdI x = some y) : VR Φ μ (y.ev E) (a.eval x) := by
  unfold opdI at h
  split at h
  · obtain rfl := Option.some.inj h; exact hA.val _
  · obtain ⟨z, hz, rfl⟩ := Option.map_eq_some_iff.mp h
    obtain ⟨h1, h2⟩ := cellsI_vr (Φ := Φ) (μ := μ) hz
    exact .agg _ _ (by simpa using h1) (fun i h h' => h2 i h (by simpa using h'))
  · obtain ⟨z, hz, rfl⟩ := Option.map_eq_some_iff.mp h
    exact cellI_vr hz
  · obtain rfl := Option.some.inj h; exact .func _ _ _ _ _ rfl rfl (fun i h => by simp at h) (fun i h => by simp at h)
  · cases h

/-- The cells of what a value stands for. -/
theorem VR.cells {Φ : Frozen} {μ : Places} {x : IV} {v : Value} (h : VR Φ μ x v) (hu : x.isUndef = false) :
    x.cells.length = v.cells.size ∧ ∀ (i : Nat) (h : i < x.cells.length) (h' : i < v.cells.size), VR Φ μ x.cells[i] v.cells[i] := by
  have one : ∀ {x : IV} {v : Value}, VR Φ μ x v → x.cells = [x] → v.cells = #[v] → x.cells.length = v.cells.size ∧ ∀ (i : Nat) (h : i < x.cells.length) (h' : i < v.cells.size), VR Φ μ x.cells[i] v.cells[i] := by
    intro x v h e1 e2
    refine ⟨by simp [e1, e2], fun i h1 h2 => ?_⟩
    obtain rfl : i = 0 := by simp [e1] at h1; exact h1
    simpa [e1, e2] using h
  cases h with
  | undef => simp [IV.isUndef] at hu
  | agg cs cs' hc hv => exact ⟨hc, hv⟩
  | bool b => exact one (.bool b) rfl rfl
  | int k n => exact one (.int k n) rfl rfl
  | str s => exact one (.str s) rfl rfl
  | nilptr => exact one .nilptr rfl rfl
  | ptr b i off L h => exact one (.ptr b i off L h) rfl rfl
  | cptr es i off sz rb ro vs hs hf hv => exact one (.cptr es i off sz rb ro vs hs hf hv) rfl rfl
  | nilslice => exact one .nilslice rfl rfl
  | eslice a => exact one (.eslice a) rfl rfl
  | fnil a => exact one (.fnil a) rfl rfl
  | fslice es sz rb ro cap vs hs hc hf hv => exact one (.fslice es sz rb ro cap vs hs hc hf hv) rfl rfl
  | mslice b off len lb ex L cap h hl hlb hex he => exact one (.mslice b off len lb ex L cap h hl hlb hex he) rfl rfl
  | func fn fs cs fs' cs' hf hc hfv hcv => exact one (.func fn fs cs fs' cs' hf hc hfv hcv) rfl rfl
  | yield l L h => exact one (.yield l L h) rfl rfl
  | nilfunc => exact one .nilfunc rfl rfl
  | tuple cs cs' hc hv => exact one (.tuple cs cs' hc hv) rfl rfl

theorem VR.oneCell {Φ : Frozen} {μ : Places} {x : IV} {v : Value} (h : VR Φ μ x v) (hx : x.cellOk = true) : v.oneCell' = true := by
  cases h <;> first | rfl | (simp [IV.cellOk] at hx)

theorem addr_add (b o n : Nat) : (⟨b, o, none⟩ : Addr).add n = ⟨b, o + n, none⟩ := by
  unfold Addr.add; split <;> simp_all

/-- Where an address leads: the element's cells are there. -/
theorem WR.reads {n0 : Nat} {w0 : World} {Φ X : Frozen} {μ : Places} {H : Heap} {w : World} (hW : WR n0 w0 Φ X μ H w) {ag : Bool} {n : Nat} {x y : IV} {p : Value} (hx : VR Φ μ x p) (h : loadI H ag n x = some y) :
    ∃ (rb o off : Nat) (e : List IV) (vs : Nat → Value), p = .pointer (some ⟨rb, o + off, none⟩) ∧ readCells ag e off n = some y ∧
      ∀ (j : Nat) (hj : j < e.length), w.cell? ⟨rb, o + j, none⟩ = some (vs j) ∧ VR Φ μ e[j] (vs j) := by
  unfold loadI at h
  split at h
  · rename_i b i off
    split at h
    · rename_i sz es hH
      split at h
      · rename_i e he
        cases hx with
        | ptr _ _ _ L hL =>
          obtain ⟨hi, rfl⟩ := List.getElem?_eq_some_iff.mp he
          obtain ⟨hsz, _, _, _, _⟩ := hW.sz b sz es L hH hL
          have hv := hW.val b sz es L hH hL i
          refine ⟨L.rb, L.ro + i * L.sz, off, es[i], fun j => if hj : j < es[i].length then Classical.choose (hv j hi hj) else undef, rfl, h, fun j hj => ?_⟩
          simp only [hj, dif_pos]
          rw [hsz]
          exact Classical.choose_spec (hv j hi hj)
      · cases h
    · cases h
  · rename_i es i off
    split at h
    · rename_i e he
      cases hx with
      | cptr _ _ _ sz rb ro vs hs hf hv =>
        obtain ⟨hi, rfl⟩ := List.getElem?_eq_some_iff.mp he
        exact ⟨rb, ro + i * sz, off, es[i], fun j => vs i j, rfl, h, fun j hj => ⟨hW.fz _ _ _ (hf i j hi hj), hv i j hi hj⟩⟩
    · cases h
  · cases h

def isAggD : TypeDesc → Bool
  | .struct _ | .array _ _ => true
  | _ => false
def Program.isAggT (P : Program) (t : TypeId) : Option Bool := (P.underlying t).map isAggD
def Program.sizeT (P : Program) (t : TypeId) : Option Nat := (P.info? t).map (·.size)

theorem run_isAgg {P : Program} {t : TypeId} {b : Bool} (h : Program.isAggT P t = some b) (w : World) : (isAgg t).run P w = .ok b w := by
  simp only [Program.isAggT, Option.map_eq_some_iff] at h
  obtain ⟨d, hd, rfl⟩ := h
  simp only [isAgg, underlying, Sem.run_bind, run_program, Result.andThen_ok, hd, Sem.run_pure]
  cases d <;> rfl

theorem run_sizeOf' {P : Program} {t : TypeId} {n : Nat} (h : Program.sizeT P t = some n) (w : World) : (sizeOf t).run P w = .ok n w := by
  simp only [Program.sizeT, Option.map_eq_some_iff] at h
  obtain ⟨d, hd, rfl⟩ := h
  simp [sizeOf, typeInfo, hd]

theorem run_underlying' {P : Program} {t : TypeId} {d : TypeDesc} (h : P.underlying t = some d) (w : World) : (underlying t).run P w = .ok d w := by
  simp [underlying, h]

/-- A load. -/
theorem WR.load {P : Program} {n0 : Nat} {w0 : World} {Φ X : Frozen} {μ : Places} {H : Heap} {w : World} (hW : WR n0 w0 Φ X μ H w) {ag : Bool} {n : Nat} {x y : IV} {p : Value} (hx : VR Φ μ x p)
    (h : loadI H ag n x = some y) {t : TypeId} (ht : Program.isAggT P t = some ag) (hn : Program.sizeT P t = some n) : ∃ v, (Instr.loadAt t p).run P w = .ok v w ∧ VR Φ μ y v := by
  obtain ⟨rb, o, off, e, vs, rfl, hr, hc⟩ := hW.reads hx h
  unfold readCells at hr
  cases ag with
  | false =>
    simp only [Bool.false_eq_true, if_false] at hr
    obtain ⟨hi, rfl⟩ := List.getElem?_eq_some_iff.mp hr
    refine ⟨vs off, ?_, (hc off hi).2⟩
    simp [Instr.loadAt, Instr.sureAddr, loadVar, run_isAgg ht, (hc off hi).1]
  | true =>
    simp only [if_true] at hr
    split at hr
    · rename_i hle
      obtain rfl := Option.some.inj hr
      refine ⟨.agg ((List.range n).map fun j => vs (off + j)).toArray, ?_, .agg _ _ (by simp; omega) (fun i h h' => ?_)⟩
      · have hl := run_loadCells (P := P) w ⟨rb, o + off, none⟩ n (fun j => vs (off + j)) (fun j hj => by
          rw [addr_add, Nat.add_assoc]; exact (hc (off + j) (by omega)).1)
        simp [Instr.loadAt, Instr.sureAddr, loadVar, run_isAgg ht, run_sizeOf' hn, hl]
      · simp only [List.length_take, List.length_drop] at h
        have := (hc (off + i) (by omega)).2
        simpa [List.getElem_take, List.getElem_drop] using this
    · cases hr

end Go.Ideal

/- An ideal machine for Go code. Part 5: operations that leave the memory as it is, of the machine's. -/
namespace Go.Ideal
open Go.RowKit

def opdsI : List Operand → Option (List Opd)
  | [] => some []
  | x :: xs => match opdI x, opdsI xs with
    | some y, some ys => some (y :: ys)
    | _, _ => none

theorem opds_vr {Φ : Frozen} {μ : Places} {nt : Nat} {E : Env} {a : Act} (hA : AR Φ μ nt E a) : ∀ {xs : List Operand} {ys : List Opd}, opdsI xs = some ys →
    (ys.map (Opd.ev E)).length = (xs.map a.eval).length ∧ ∀ (i : Nat) (h : i < (ys.map (Opd.ev E)).length) (h' : i < (xs.map a.eval).length), VR Φ μ (ys.map (Opd.ev E))[i] (xs.map a.eval)[i]
  | [], ys, h => by
    obtain rfl := Option.some.inj h
    exact ⟨rfl, fun i h => by simp at h⟩
  | x :: xs, ys, h => by
    simp only [opdsI] at h
    split at h
    · rename_i y ys' hy hys
      obtain rfl := Option.some.inj h
      obtain ⟨h1, h2⟩ := opds_vr hA hys
      refine ⟨by simpa using h1, fun i h h' => ?_⟩
      cases i with
      | zero => exact opd_vr hA hy
      | succ i => exact h2 i (by simpa using h) (by simpa using h')
    · cases h

theorem opds_pw {Φ : Frozen} {μ : Places} {nt : Nat} {E : Env} {a : Act} (hA : AR Φ μ nt E a) {xs : Array Operand} {ys : List Opd} (h : opdsI xs.toList = some ys) :
    PW Φ μ (ys.map (Opd.ev E)) (xs.map a.eval) := by
  obtain ⟨h1, h2⟩ := opds_vr hA h
  refine ⟨by simpa using h1, fun i h h' => ?_⟩
  have := h2 i h (by simpa using h')
  simpa using this

/-- A type's null value. -/
def Program.zeroI (P : Program) (t : TypeId) : Option (List Cst) := ((P.info? t).bind (·.zero)).bind constI
theorem zeroI_run {P : Program} {t : TypeId} {z : List Cst} (h : Program.zeroI P t = some z) : ∃ v : Value, (∀ w, (zeroValue t).run P w = .ok v w) ∧ ∀ Φ μ, PW Φ μ (z.map Cst.iv) v.cells := by
  simp only [Program.zeroI, Option.bind_eq_some_iff] at h
  obtain ⟨v, ⟨i, hi, hv⟩, hx⟩ := h
  exact ⟨v, fun w => by simp [zeroValue, typeInfo, hi, hv], fun Φ μ => constI_pw hx⟩

/-- Places of the parts of a struct or an array. -/
def placesOf (P : Program) (fs : List Field) : Option (List (Nat × Nat)) :=
  match fs with
  | [] => some []
  | f :: fs => match Program.sizeT P f.type, placesOf P fs with
    | some n, some r => some ((f.offset, n) :: r)
    | _, _ => none
def partsI (place : Nat → Option (Nat × Nat)) : List (Nat × Operand) → Option (List (Nat × Nat × Opd))
  | [] => some []
  | (i, x) :: r => match place i, opdI x, partsI place r with
    | some (off, n), some y, some ys => some ((off, n, y) :: ys)
    | _, _, _ => none
def partsE : List (Nat × Operand) → Option (List (Nat × Opd))
  | [] => some []
  | (i, x) :: r => match opdI x, partsE r with
    | some y, some ys => some ((i, y) :: ys)
    | _, _ => none

def opdO : Option Operand → Option (Option Opd)
  | none => some none
  | some x => (opdI x).map some

/-- The kinds of the cells of a plain type. -/
def kindsOf (P : Program) : Nat → TypeId → Option (List CK)
  | 0, _ => none
  | d + 1, t => match P.underlying t with
    | some .bool => if Program.sizeT P t = some 1 then some [.b] else none
    | some (.int _) => if Program.sizeT P t = some 1 then some [.i] else none
    | some .string => if Program.sizeT P t = some 1 then some [.s] else none
    | some (.struct fs) => match kindsFs (kindsOf P d) fs.toList 0 with
      | some ks => if P.stoodInHeld t = false ∧ Program.sizeT P t = some ks.length then some ks else none
      | none => none
    | _ => none
where kindsFs (f : TypeId → Option (List CK)) : List Field → Nat → Option (List CK)
  | [], _ => some []
  | fd :: fs, off => match f fd.type with
    | some ks => if fd.name ≠ "_" ∧ fd.offset = off then (kindsFs f fs (off + ks.length)).map (ks ++ ·) else none
    | none => none

def compOp (P : Program) (o : Oper) : Option IOp :=
  match o.op with
  | .move x | .assign x => (opdI x).map .mv
  | .pick c a b => do let c ← opdI c; let a ← opdI a; let b ← opdI b; some (.pick c a b)
  | .alloc t => do let z ← Program.zeroI P t; some (.box z.length (.agg z))
  | .box _ x => do let x ← opdI x; some (.box 0 x)
  | .build t parts => do
    let z ← Program.zeroI P t
    match P.underlying t with
    | some (.struct fs) => do let pl ← placesOf P fs.toList; let ps ← partsI (pl[·]?) parts.toList; some (.build z ps)
    | some (.array _ elem) => do let n ← Program.sizeT P elem; let ps ← partsI (fun i => some (i * n, n)) parts.toList; some (.build z ps)
    | _ => none
  | .buildSlice t len parts => do
    match P.underlying t with
    | some (.slice elem) => do
      let n ← Program.sizeT P elem; let z ← Program.zeroI P elem; let ps ← partsE parts.toList
      if z.length = n ∧ len * n ≤ 2 ^ 24 ∧ 0 < n then some (.buildSlice z len ps) else none
    | _ => none
  | .load t x => do let ag ← Program.isAggT P t; let n ← Program.sizeT P t; let x ← opdI x; some (.load ag n x)
  | .store t a v => do let n ← Program.sizeT P t; let a ← opdI a; let v ← opdI v; some (.store n a v)
  | .nilCheck x => do let x ← opdI x; some (.nilCheck x)
  | .binOp op t x y _ => do
    let x ← opdI x; let y ← opdI y
    match op with
    | .eql | .neq =>
      match P.underlying t with
      | some (.int _) | some .string => some (.bin op x y)
      | some .bool => some (.eq (op == .neq) .bool x y)
      | some (.slice _) => some (.eq (op == .neq) .slice x y)
      | some (.func ..) => some (.eq (op == .neq) .func x y)
      | some (.pointer el) => match Program.sizeT P el with
        | some (_ + 1) => some (.eq (op == .neq) .ptr x y)
        | _ => none
      | some (.struct _) => match kindsOf P 100 t with
        | some ks => if P.eqGuardType P.depth t = false then some (.eq (op == .neq) (.agg ks) x y) else none
        | none => none
      | _ => none
    | _ => some (.bin op x y)
  | .unOp op _ x => do let x ← opdI x; some (.un op x)
  | .convert s d x => do
    let x ← opdI x
    match P.underlying s, P.underlying d with
    | some (.int _), some (.int k) => some (.conv k x)
    | _, _ => none
  | .makeFunc fn fs cs => do
    let fs ← opdsI fs.toList; let cs ← opdsI cs.toList
    match fn with
    | .func _ | .methodOf _ _ | .via _ _ _ _ => some (.mkFunc fn fs cs)
    | _ => none
  | .makeSlice t l c => do
    let l ← opdI l; let c ← opdI c
    match P.underlying t with
    | some (.slice elem) => do
      let i ← P.info? elem; let z ← Program.zeroI P elem
      if z.length = i.size ∧ 0 < i.size then some (.makeSlice z i.bytes l c) else none
    | _ => none
  | .slice t x lo hi mx => do
    let x ← opdI x; let lo ← opdO lo; let hi ← opdO hi; let mx ← opdO mx
    match P.underlying t with
    | some (.slice elem) => do let n ← Program.sizeT P elem; if n = 0 then none else some (.slice n x lo hi mx)
    | some .string => some (.slice 0 x lo hi mx)
    | _ => none
  | .fieldAddr s x f => do
    let x ← opdI x
    match P.underlying s with
    | some (.struct fs) => do
      let f ← fs[f]?; let n ← Program.sizeT P f.type
      if n = 0 then none else some (.fieldAddr x f.offset)
    | _ => none
  | .field s x f => do
    let x ← opdI x
    match P.underlying s with
    | some (.struct fs) => do
      let f ← fs[f]?; let ag ← Program.isAggT P f.type; let n ← Program.sizeT P f.type
      some (.field ag x f.offset n)
    | _ => none
  | .indexAddr t x i => do
    let x ← opdI x; let i ← opdI i
    match P.underlying t with
    | some (.slice elem) => do let n ← Program.sizeT P elem; some (.indexAddr n x i)
    | some (.array len elem) => do let n ← Program.sizeT P elem; some (.indexAddrA len n x i)
    | _ => none
  | .index t x i => do
    let x ← opdI x; let i ← opdI i
    match P.underlying t with
    | some (.array len elem) => do let ag ← Program.isAggT P elem; let n ← Program.sizeT P elem; some (.indexA ag len n x i)
    | some .string => some (.indexStr x i)
    | _ => none
  | .extract x i => do let x ← opdI x; some (.extract x i)
  | .call c =>
    match c.callee with
    | .value f => do let f ← opdI f; let xs ← opdsI c.args.toList; some (.call f xs)
    | .builtin .len => do
      let x ← c.args[0]?; let x ← opdI x; let t ← c.argTypes[0]?
      match P.underlying t with
      | some (.slice _) => some (.len x)
      | some .string => some (.lenS x)
      | some (.array n _) => some (.mv (.const (.int .i64 n)))
      | _ => none
    | .builtin .cap => do
      let x ← c.args[0]?; let x ← opdI x; let t ← c.argTypes[0]?
      match P.underlying t with
      | some (.slice _) => some (.cap x)
      | _ => none
    | .builtin .min => do let xs ← opdsI c.args.toList; some (.mn xs)
    | .builtin .max => do let xs ← opdsI c.args.toList; some (.mx xs)
    | .builtin .append => do
      let s ← c.args[0]?; let s ← opdI s; let x ← c.args[1]?; let x ← opdI x; let t ← c.argTypes[0]?; let u ← c.argTypes[1]?
      match P.underlying t, P.underlying u with
      | some (.slice elem), some (.slice _) | some (.slice elem), some .string => do
        let i ← P.info? elem; let z ← Program.zeroI P elem
        if z.length = i.size ∧ 0 < i.size ∧ i.bytes ≤ 2 ^ 20 then some (.append z i.bytes s x) else none
      | some (.slice elem), some (.int _) => do
        let i ← P.info? elem; let z ← Program.zeroI P elem
        if z.length = i.size ∧ 0 < i.size ∧ i.bytes ≤ 2 ^ 20 then some (.appendZ z i.bytes s x) else none
      | _, _ => none
    | _ => none
  | _ => none

end Go.Ideal

/- An ideal machine for Go code. Part 6: operations that leave the memory as it is: each as the machine's. -/
namespace Go.Ideal
open Go.RowKit

section
variable {P : Program} {n0 : Nat} {w0 : World} {Φ X : Frozen} {μ : Places} {nt : Nat} {E : Env} {a : Act} {H : Heap} {w : World}

/-- Some cells of an aggregate. -/
theorem run_part' {t : TypeId} {ag : Bool} {n off : Nat} {cs : List IV} {cs' : Array Value} {y : IV} (hp : PW Φ μ cs cs') (ht : Program.isAggT P t = some ag) (hn : Program.sizeT P t = some n)
    (h : readCells ag cs off n = some y) (w : World) : ∃ v, (part t cs' off).run P w = .ok v w ∧ VR Φ μ y v := by
  obtain ⟨hl, hv⟩ := hp
  unfold readCells at h
  cases ag with
  | false =>
    simp only [Bool.false_eq_true, if_false] at h
    obtain ⟨hi, rfl⟩ := List.getElem?_eq_some_iff.mp h
    have hi' : off < cs'.size := by omega
    refine ⟨cs'[off], ?_, hv off hi hi'⟩
    simp [part, run_isAgg ht, hi']
  | true =>
    simp only [if_true] at h
    split at h
    · rename_i hle
      obtain rfl := Option.some.inj h
      refine ⟨.agg (cs'.extract off (off + n)), by simp [part, run_isAgg ht, run_sizeOf' hn], .agg _ _ (by simp; omega) (fun i h1 h2 => ?_)⟩
      simp only [List.length_take, List.length_drop] at h1
      simp only [List.getElem_take, List.getElem_drop, Array.getElem_extract]
      exact hv _ _ _
    · cases h

theorem sim_field {t : TypeId} {fs : Array Field} {f : Nat} {fd : Field} {ag : Bool} {n : Nat} {x y : IV} {v : Value} (hx : VR Φ μ x v) (hu : P.underlying t = some (.struct fs)) (hf : fs[f]? = some fd)
    (hag : Program.isAggT P fd.type = some ag) (hn : Program.sizeT P fd.type = some n) {cs : List IV} (hcs : x = .agg cs) (h : readCells ag cs fd.offset n = some y) (w : World) :
    ∃ v', (Instr.field t v f).run P w = .ok v' w ∧ VR Φ μ y v' := by
  subst hcs
  cases hx with
  | agg _ cs' hc hv =>
    obtain ⟨v', h1, h2⟩ := run_part' (P := P) ⟨hc, hv⟩ hag hn h w
    exact ⟨v', by simp [Instr.field, run_underlying' hu, hf, asAgg, h1], h2⟩

theorem foldl_put (off : Nat) : ∀ (l : List Value) (k : Nat) (cs : Array Value), off + k + l.length ≤ cs.size →
    ((l.zipIdx k).foldl (fun cs p => cs.setIfInBounds (off + p.2) p.1) cs).size = cs.size ∧
    ∀ i, ((l.zipIdx k).foldl (fun cs p => cs.setIfInBounds (off + p.2) p.1) cs)[i]? = if off + k ≤ i ∧ i < off + k + l.length then l[i - (off + k)]? else cs[i]?
  | [], k, cs, _ => ⟨rfl, fun i => by rw [if_neg (by simp)]; rfl⟩
  | v :: l, k, cs, h => by
    simp only [List.length_cons] at h
    obtain ⟨h1, h2⟩ := foldl_put off l (k + 1) (cs.setIfInBounds (off + k) v) (by simp; omega)
    refine ⟨by simpa using h1, fun i => ?_⟩
    have e := h2 i
    simp only [List.zipIdx_cons, List.foldl_cons] at e ⊢
    rw [e]
    by_cases c : i = off + k
    · subst c
      rw [if_neg (by omega), if_pos ⟨by omega, by simp⟩]
      have : off + k < cs.size := by omega
      simp [this]
    · by_cases c2 : off + (k + 1) ≤ i ∧ i < off + (k + 1) + l.length
      · rw [if_pos c2, if_pos ⟨by omega, by simp; omega⟩]
        rw [show i - (off + k) = (i - (off + (k + 1))) + 1 by omega]
        rfl
      · rw [if_neg c2, if_neg (by simp; omega)]
        simp [Array.getElem?_setIfInBounds, Ne.symm c]

theorem PW.overlay {cs ds : List IV} {vs us : Array Value} (h : PW Φ μ cs vs) (k : PW Φ μ ds us) {off : Nat} (hle : off + ds.length ≤ cs.length) :
    PW Φ μ (cs.take off ++ ds ++ cs.drop (off + ds.length)) (us.zipIdx.foldl (fun cs (c, j) => cs.setIfInBounds (off + j) c) vs) := by
  obtain ⟨h1, h2⟩ := h
  obtain ⟨k1, k2⟩ := k
  obtain ⟨f1, f2⟩ := foldl_put off us.toList 0 vs (by simp; omega)
  have e : us.zipIdx.foldl (fun cs (c, j) => cs.setIfInBounds (off + j) c) vs = (us.toList.zipIdx 0).foldl (fun cs p => cs.setIfInBounds (off + p.2) p.1) vs := by
    rw [← Array.foldl_toList]
    simp [Array.toList_zipIdx]
  rw [e]
  refine ⟨by simp [f1]; omega, fun i hi hi' => ?_⟩
  have e2 := f2 i
  rw [Array.getElem?_eq_getElem hi'] at e2
  have hi2 : i < vs.size := by rw [f1] at hi'; exact hi'
  by_cases c : off ≤ i ∧ i < off + ds.length
  · rw [if_pos (by simp; omega)] at e2
    have hq : i - off < us.size := by omega
    simp only [Nat.add_zero] at e2
    rw [show us.toList[i - off]? = some us[i - off] by simp [hq]] at e2
    rw [Option.some.inj e2]
    have := k2 (i - off) (by omega) hq
    rw [List.getElem_append_left (by simp; omega), List.getElem_append_right (by simp; omega)]
    simpa [Nat.min_eq_left (show off ≤ cs.length by omega)] using this
  · rw [if_neg (by simp; omega), Array.getElem?_eq_getElem hi2] at e2
    rw [Option.some.inj e2]
    have := h2 i (by omega) hi2
    rcases Nat.lt_or_ge i off with d | d
    · simp only [List.append_assoc]
      rw [List.getElem_append_left (by simp; omega)]
      simpa using this
    · rw [List.getElem_append_right (by simp; omega)]
      simp only [List.length_append, List.length_take, List.getElem_drop]
      have q : off + ds.length + (i - (min off cs.length + ds.length)) = i := by omega
      simp only [q]
      exact this

theorem sim_fill {place : Nat → Option (Nat × Nat)} (hA : AR Φ μ nt E a) : ∀ {ps : List (Nat × Operand)} {qs : List (Nat × Nat × Opd)} {cs ds : List IV} {vs : Array Value}, partsI place ps = some qs → PW Φ μ cs vs →
    fillI cs (qs.map fun p => (p.1, p.2.1, p.2.2.ev E)) = some ds → ∃ us, Instr.fill place vs (ps.map fun (i, x) => (i, a.eval x)) = some us ∧ PW Φ μ ds us
  | [], qs, cs, ds, vs, hp, hc, hf => by
    obtain rfl := Option.some.inj hp
    obtain rfl := Option.some.inj hf
    exact ⟨vs, rfl, hc⟩
  | (i, x) :: ps, qs, cs, ds, vs, hp, hc, hf => by
    simp only [partsI] at hp
    split at hp
    · rename_i off n y ys hpl hy hys
      obtain rfl := Option.some.inj hp
      simp only [List.map_cons, fillI] at hf
      split at hf
      · cases hf
      · rename_i hu
        split at hf
        · rename_i hl
          have hv := opd_vr hA hy
          have hcells : PW Φ μ (y.ev E).cells (a.eval x).cells := hv.cells (by simpa using hu)
          have hl1 := hl.1
          have hl2 := hl.2
          subst hl1
          obtain ⟨us, h1, h2⟩ := sim_fill hA hys (hc.overlay hcells hl2) hf
          refine ⟨us, ?_, h2⟩
          simp only [List.map_cons, Instr.fill, hpl]
          rw [if_neg]
          · exact h1
          · have := hcells.1
            have := hc.1
            simp
            omega
        · cases hf
    · cases hp

theorem placesOf_get : ∀ {fs : List Field} {pl : List (Nat × Nat)}, placesOf P fs = some pl → ∀ w, (fs.mapM fun f => do pure (f.offset, ← sizeOf f.type) : Sem (List (Nat × Nat))).run P w = .ok pl w
  | [], pl, h, w => by obtain rfl := Option.some.inj h; rfl
  | f :: fs, pl, h, w => by
    simp only [placesOf] at h
    split at h
    · rename_i n r hn hr
      obtain rfl := Option.some.inj h
      have := placesOf_get hr w
      simp only [List.mapM_cons, Sem.run_bind, run_sizeOf' hn, Result.andThen_ok, Sem.run_pure, this]
    · cases h

theorem mapM_arr {α β : Type} (xs : Array α) (f : α → Sem β) : (xs.mapM f : Sem (Array β)) = List.toArray <$> xs.toList.mapM f := by
  rw [Array.mapM_eq_mapM_toList]

theorem sim_build {t : TypeId} {parts : Array (Nat × Operand)} {z : List Cst} {qs : List (Nat × Nat × Opd)} {ds : List IV} (hA : AR Φ μ nt E a) (hz : Program.zeroI P t = some z)
    (hq : (∃ fs pl, P.underlying t = some (.struct fs) ∧ placesOf P fs.toList = some pl ∧ partsI (pl[·]?) parts.toList = some qs) ∨
      ∃ len elem n, P.underlying t = some (.array len elem) ∧ Program.sizeT P elem = some n ∧ partsI (fun i => some (i * n, n)) parts.toList = some qs)
    (hf : fillI (z.map Cst.iv) (qs.map fun p => (p.1, p.2.1, p.2.2.ev E)) = some ds) (w : World) :
    ∃ v, (Instr.build t (parts.map fun (i, x) => (i, a.eval x))).run P w = .ok v w ∧ VR Φ μ (.agg ds) v := by
  obtain ⟨zv, hz1, hz2⟩ := zeroI_run hz
  have e : (parts.map fun (i, x) => (i, a.eval x)).toList = parts.toList.map fun (i, x) => (i, a.eval x) := by simp
  rcases hq with ⟨fs, pl, hu, hpl, hps⟩ | ⟨len, elem, n, hu, hn, hps⟩
  · obtain ⟨us, h1, h2⟩ := sim_fill hA hps (hz2 Φ μ) hf
    refine ⟨.agg us, ?_, .agg _ _ h2.1 h2.2⟩
    have hp := placesOf_get hpl w
    simp only [Instr.build, Sem.run_bind, hz1 w, Result.andThen_ok, run_underlying' hu, mapM_arr, Sem.run_map, hp, e]
    have h1' : Instr.fill (fun x => pl.toArray[x]?) zv.cells (parts.toList.map fun (i, x) => (i, a.eval x)) = some us := by
      rw [← h1]; congr 1; funext x; simp
    rw [h1']
    rfl
  · obtain ⟨us, h1, h2⟩ := sim_fill hA hps (hz2 Φ μ) hf
    refine ⟨.agg us, ?_, .agg _ _ h2.1 h2.2⟩
    simp only [Instr.build, Sem.run_bind, hz1 w, Result.andThen_ok, run_underlying' hu, run_sizeOf' hn, e, h1]
    rfl

end
end Go.Ideal

/- An ideal machine for Go code. Part 7: cutting slices, '==', arithmetic. -/
namespace Go.Ideal
open Go.RowKit

section
variable {P : Program} {n0 : Nat} {w0 : World} {Φ X : Frozen} {μ : Places} {nt : Nat} {E : Env} {a : Act} {H : Heap} {w : World}

theorem VR.int_inv {k : IntKind} {n : Int} {v : Value} (h : VR Φ μ (.int k n) v) : v = .int k n := by cases h; rfl
theorem VR.bool_inv {b : Bool} {v : Value} (h : VR Φ μ (.bool b) v) : v = .bool b := by cases h; rfl
theorem VR.str_inv {b : ByteArray} {v : Value} (h : VR Φ μ (.str b) v) : v = .string b := by cases h; rfl

theorem opdO_some {x : Option Operand} {y : Opd} (h : opdO x = some (some y)) : ∃ z, x = some z ∧ opdI z = some y := by
  cases x with
  | none => simp [opdO] at h
  | some z => exact ⟨z, rfl, by simpa [opdO] using h⟩
theorem opdO_none {x : Option Operand} (h : opdO x = some none) : x = none := by
  cases x with
  | none => rfl
  | some z => simp [opdO] at h

/-- A bound of a cut. -/
theorem bound_run (hA : AR Φ μ nt E a) {x : Option Operand} {y : Option Opd} (hx : opdO x = some y) {d b l : Nat} (h : bound? E y d b = some l) :
    (x = none ∧ y = none ∧ l = d) ∨ ∃ z, x = some z ∧ y.isSome = true ∧ l ≤ b ∧ ∀ (m : Nat) (code : BoundsCode) (w : World), l ≤ m → (Instr.sliceBound (a.eval z) m code).run P w = .ok l w := by
  cases y with
  | none => exact .inl ⟨opdO_none hx, rfl, (Option.some.inj h).symm⟩
  | some y =>
    obtain ⟨z, rfl, hz⟩ := opdO_some hx
    simp only [bound?] at h
    split at h
    · rename_i k i hi
      split at h
      · rename_i hb
        obtain rfl := Option.some.inj h
        have hv := opd_vr hA hz
        rw [hi] at hv
        have e := hv.int_inv
        refine .inr ⟨z, rfl, rfl, by omega, fun m code w hm => ?_⟩
        simp only [Instr.sliceBound, e, asIntOf, Sem.run_bind, Sem.run_pure, Result.andThen_ok]
        rw [if_pos ⟨hb.1, by omega⟩]
        rfl
      · cases h
    · cases h

theorem bounds_run (hA : AR Φ μ nt E a) {lo hi : Option Operand} {lo' hi' : Option Opd} (h1 : opdO lo = some lo') (h2 : opdO hi = some hi') {len b h l cap : Nat} (hh : bound? E hi' len b = some h) (hl : bound? E lo' 0 h = some l)
    (hb : b ≤ cap) (hlen : len ≤ cap) (s : Bool) (w : World) : (Instr.sliceBounds s len cap (lo.map a.eval) (hi.map a.eval) none).run P w = .ok (l, h, cap) w ∧ l ≤ h ∧ h ≤ cap := by
  have A := bound_run (P := P) hA h2 hh
  have B := bound_run (P := P) hA h1 hl
  have hle : l ≤ h := by
    rcases B with ⟨_, _, rfl⟩ | ⟨z, _, _, h3, _⟩
    · omega
    · exact h3
  have hle2 : h ≤ cap := by
    rcases A with ⟨_, _, rfl⟩ | ⟨z, _, _, h3, _⟩ <;> omega
  refine ⟨?_, hle, hle2⟩
  rcases A with ⟨rfl, _, rfl⟩ | ⟨z, rfl, _, _, h3⟩ <;> rcases B with ⟨rfl, _, rfl⟩ | ⟨z', rfl, _, _, h4⟩
  · simp [Instr.sliceBounds]
  · simp [Instr.sliceBounds, h4 _ _ w hle]
  · simp [Instr.sliceBounds, h3 _ _ w hle2]
  · simp [Instr.sliceBounds, h3 _ _ w hle2, h4 _ _ w hle]

theorem bounds3_run (hA : AR Φ μ nt E a) {lo hi mx : Option Operand} {lo' hi' mx' : Option Opd} (h1 : opdO lo = some lo') (h2 : opdO hi = some hi') (h3 : opdO mx = some mx') {l h m : Nat} (hm : bound? E mx' 0 0 = some m)
    (hh : bound? E hi' 0 0 = some h) (hl : bound? E lo' 0 0 = some l) (hs : mx'.isSome = true → hi'.isSome = true) {len cap : Nat} (hcap : mx'.isSome = false → cap = 0) (hlen : hi'.isSome = false → len = 0) (s : Bool) (w : World) :
    (Instr.sliceBounds s len cap (lo.map a.eval) (hi.map a.eval) (mx.map a.eval)).run P w = .ok (0, 0, 0) w := by
  have A := bound_run (P := P) hA h2 hh
  have B := bound_run (P := P) hA h1 hl
  have C := bound_run (P := P) hA h3 hm
  have z : ∀ {n : Nat}, n ≤ 0 → n = 0 := fun h => by omega
  rcases C with ⟨rfl, rfl, rfl⟩ | ⟨z3, rfl, s3, i3, h3⟩
  · obtain rfl := hcap rfl
    rcases A with ⟨rfl, rfl, rfl⟩ | ⟨z2, rfl, s2, i2, h2⟩ <;> rcases B with ⟨rfl, _, rfl⟩ | ⟨z1, rfl, s1, i1, h1⟩
    · obtain rfl := hlen rfl; simp [Instr.sliceBounds]
    · obtain rfl := hlen rfl
      obtain rfl := z i1
      simp [Instr.sliceBounds, h1 _ _ w (Nat.zero_le 0)]
    · obtain rfl := z i2
      simp [Instr.sliceBounds, h2 _ _ w (Nat.zero_le 0)]
    · obtain rfl := z i2
      obtain rfl := z i1
      simp [Instr.sliceBounds, h2 _ _ w (Nat.zero_le 0), h1 _ _ w (Nat.zero_le 0)]
  · obtain rfl := z i3
    have hs2 := hs s3
    rcases A with ⟨rfl, rfl, rfl⟩ | ⟨z2, rfl, s2, i2, h2⟩
    · simp at hs2
    · obtain rfl := z i2
      rcases B with ⟨rfl, _, rfl⟩ | ⟨z1, rfl, s1, i1, h1⟩
      · simp [Instr.sliceBounds, h2 _ _ w (Nat.zero_le _), h3 _ _ w (Nat.zero_le _)]
      · obtain rfl := z i1
        simp [Instr.sliceBounds, h2 _ _ w (Nat.zero_le _), h3 _ _ w (Nat.zero_le _), h1 _ _ w (Nat.zero_le _)]

theorem fslice_cut {es : Els} {sz rb ro l h cap' : Nat} {vs : Nat → Nat → Value} (hs : ∀ e, e ∈ es → e.length = sz) (hf : ∀ (j k : Nat) (hj : j < es.length) (_ : k < es[j].length), Φ rb (ro + j * sz + k) = some (vs j k))
    (hv : ∀ (j k : Nat) (hj : j < es.length) (hk : k < es[j].length), VR Φ μ (es[j][k]) (vs j k)) (hlh : l ≤ h) (hh : h ≤ es.length) (hc : h - l ≤ cap') :
    VR Φ μ (.fslice ((es.drop l).take (h - l))) (.slice (some ⟨rb, ro + l * sz, none⟩) (h - l) cap') := by
  have hlen : ((es.drop l).take (h - l)).length = h - l := by simp; omega
  have := VR.fslice (Φ := Φ) (μ := μ) ((es.drop l).take (h - l)) sz rb (ro + l * sz) cap' (fun j k => vs (l + j) k) (fun e he => hs e (List.mem_of_mem_drop (List.mem_of_mem_take he))) (by rw [hlen]; exact hc)
    (fun j k hj hk => by
      have hj' : l + j < es.length := by rw [hlen] at hj; omega
      simp only [List.getElem_take, List.getElem_drop] at hk
      rw [show ro + l * sz + j * sz + k = ro + (l + j) * sz + k by rw [Nat.add_mul]; omega]
      exact hf (l + j) k hj' hk)
    (fun j k hj hk => by
      have hj' : l + j < es.length := by rw [hlen] at hj; omega
      simp only [List.getElem_take, List.getElem_drop] at hk ⊢
      exact hv (l + j) k hj' hk)
  rw [hlen] at this
  exact this

theorem sim_slice (hW : WR n0 w0 Φ X μ H w) (hA : AR Φ μ nt E a) {t : TypeId} {x y : IV} {v : Value} {lo hi mx : Option Operand} {lo' hi' mx' : Option Opd} {sz : Nat} (hx : VR Φ μ x v) (h1 : opdO lo = some lo') (h2 : opdO hi = some hi') (h3 : opdO mx = some mx')
    (ht : (∃ elem, P.underlying t = some (.slice elem) ∧ Program.sizeT P elem = some sz ∧ x.isSlice = true) ∨ (P.underlying t = some .string ∧ x.isSlice = false)) (h : sliceI H sz x E lo' hi' mx' = some y) :
    ∃ v', (Instr.sliceAt t v (lo.map a.eval) (hi.map a.eval) (mx.map a.eval)).run P w = .ok v' w ∧ VR Φ μ y v' := by
  have go : ∀ s v', (P.underlying t = some .string ∨ ∃ elem, P.underlying t = some (.slice elem)) → (Instr.slice t v (lo.map a.eval) (hi.map a.eval) (mx.map a.eval)).run P s = .ok v' s →
      (Instr.sliceAt t v (lo.map a.eval) (hi.map a.eval) (mx.map a.eval)).run P s = .ok v' s := by
    intro s v' hu hr
    rcases hu with hu | ⟨elem, hu⟩ <;> simp [Instr.sliceAt, run_underlying' hu, hr]
  have lenmap : ∀ {x : Option Operand} {y : Option Opd}, opdO x = some y → (x.map a.eval).isSome = y.isSome := by
    intro x y hxy
    cases y with
    | none => rw [opdO_none hxy]; rfl
    | some y => obtain ⟨z, rfl, _⟩ := opdO_some hxy; rfl
  unfold sliceI at h
  split at h
  · -- a text
    rename_i s
    obtain rfl := hx.str_inv
    have hu : P.underlying t = some .string := by
      rcases ht with ⟨_, _, _, q⟩ | ⟨q, _⟩
      · simp [IV.isSlice] at q
      · exact q
    split at h
    · cases h
    · rename_i hmx
      split at h
      · rename_i hh hhe
        split at h
        · rename_i ll hle
          obtain rfl := Option.some.inj h
          obtain ⟨b1, b2, b3⟩ := bounds_run (P := P) hA h1 h2 hhe hle (Nat.le_refl _) (Nat.le_refl _) false w
          refine ⟨.string (s.extract ll hh), go _ _ (.inl hu) ?_, .str _⟩
          have hm : (mx.map a.eval).isSome = false := by rw [lenmap h3]; simpa using hmx
          simp [Instr.slice, run_underlying' hu, b1]
          simpa using hm
        · cases h
      · cases h
  · -- frozen
    rename_i es
    obtain ⟨elem, hu, hsz, _⟩ : ∃ elem, P.underlying t = some (.slice elem) ∧ Program.sizeT P elem = some sz ∧ _ := by
      rcases ht with q | ⟨_, q⟩
      · exact q
      · simp [IV.isSlice] at q
    split at h
    · rename_i hmxs
      split at h
      · rename_i m hh ll hm hh2 hl2
        split at h
        · rename_i hhi
          obtain rfl := Option.some.inj h
          obtain ⟨ad, len, cap, rfl⟩ : ∃ ad len cap, v = .slice ad len cap := by cases hx <;> exact ⟨_, _, _, rfl⟩
          have b1 := bounds3_run (P := P) hA h1 h2 h3 hm hh2 hl2 (fun _ => hhi) (len := len) (cap := cap) (fun e => by rw [e] at hmxs; cases hmxs) (fun e => by rw [e] at hhi; cases hhi) true w
          exact ⟨.slice ad 0 0, go _ _ (.inr ⟨elem, hu⟩) (by simp [Instr.slice, run_underlying' hu, b1, run_sizeOf' hsz]), .eslice _⟩
        · cases h
      · cases h
    · rename_i hmx
      have hm : mx = none := by cases mx' with | none => exact opdO_none h3 | some _ => simp at hmx
      subst hm
      split at h
      · rename_i hh hhe
        split at h
        · rename_i ll hle
          split at h
          · rename_i hc
            obtain rfl := Option.some.inj h
            cases hx with
            | fnil ad =>
              obtain ⟨b1, b2, b3⟩ := bounds_run (P := P) hA h1 h2 hhe hle (Nat.le_refl _) (Nat.le_refl _) true w
              obtain rfl : hh = 0 := by simpa using b3
              obtain rfl : ll = 0 := by omega
              exact ⟨.slice ad 0 0, go _ _ (.inr ⟨elem, hu⟩) (by simp only [List.length_nil, Option.map_none] at b1 ⊢; simp [Instr.slice, run_underlying' hu, run_sizeOf' hsz, b1]), by simpa using VR.fnil ad⟩
            | fslice _ sz' rb ro cap vs hs hcap hf hv =>
              obtain ⟨b1, b2, b3⟩ := bounds_run (P := P) hA h1 h2 hhe hle hcap hcap true w
              have hhl : hh ≤ es.length := by
                rcases bound_run (P := P) hA h2 hhe with ⟨_, _, rfl⟩ | ⟨_, _, _, q, _⟩ <;> omega
              refine ⟨.slice (if cap = ll then some ⟨rb, ro, none⟩ else some (Addr.add ⟨rb, ro, none⟩ (ll * sz))) (hh - ll) (cap - ll), go _ _ (.inr ⟨elem, hu⟩) (by simp [Instr.slice, run_underlying' hu, b1, run_sizeOf' hsz]), ?_⟩
              by_cases e0 : hh = ll
              · have e1 : (es.drop ll).take (hh - ll) = [] := by rw [e0]; simp
                have e2 : hh - ll = 0 := by omega
                rw [e1, e2]
                split
                · exact VR.fslice [] sz rb ro _ (fun _ _ => .bool true) (fun e he => by cases he) (Nat.zero_le _) (fun j k hj => by simp at hj) (fun j k hj => by simp at hj)
                · rw [addr_add]
                  exact VR.fslice [] sz rb (ro + ll * sz) _ (fun _ _ => .bool true) (fun e he => by cases he) (Nat.zero_le _) (fun j k hj => by simp at hj) (fun j k hj => by simp at hj)
              · rw [if_neg (by omega), addr_add]
                have hsz' : ll = 0 ∨ sz = sz' := by
                  rcases hc with c | c | c
                  · exact .inl c
                  · exact absurd c.symm e0
                  · right
                    have : ll < es.length := by omega
                    simp only [List.getElem?_eq_getElem this, Option.map_some, Option.some.injEq] at c
                    rw [← c]
                    exact hs _ (List.getElem_mem this)
                have := fslice_cut (Φ := Φ) (μ := μ) (cap' := cap - ll) hs hf hv b2 hhl (by omega)
                rcases hsz' with rfl | rfl
                · simpa using this
                · exact this
          · cases h
        · cases h
      · cases h
  · -- nothing
    obtain ⟨elem, hu, hsz, _⟩ : ∃ elem, P.underlying t = some (.slice elem) ∧ Program.sizeT P elem = some sz ∧ _ := by
      rcases ht with q | ⟨_, q⟩
      · exact q
      · simp [IV.isSlice] at q
    split at h
    · rename_i m hh ll hm hh2 hl2
      split at h
      · cases h
      · rename_i hc
        obtain rfl := Option.some.inj h
        cases hx with
        | nilslice =>
          have b1 := bounds3_run (P := P) hA h1 h2 h3 hm hh2 hl2 (fun e => by rw [e] at hc; cases hi' <;> simp_all) (len := 0) (cap := 0) (fun _ => rfl) (fun _ => rfl) true w
          exact ⟨.slice none 0 0, go _ _ (.inr ⟨elem, hu⟩) (by simp [Instr.slice, run_underlying' hu, b1, run_sizeOf' hsz]), .nilslice⟩
    · cases h
  · obtain ⟨elem, hu, hsz, _⟩ : ∃ elem, P.underlying t = some (.slice elem) ∧ Program.sizeT P elem = some sz ∧ _ := by
      rcases ht with q | ⟨_, q⟩
      · exact q
      · simp [IV.isSlice] at q
    split at h
    · rename_i m hh ll hm hh2 hl2
      split at h
      · cases h
      · rename_i hc
        obtain rfl := Option.some.inj h
        cases hx with
        | eslice ad =>
          have b1 := bounds3_run (P := P) hA h1 h2 h3 hm hh2 hl2 (fun e => by rw [e] at hc; cases hi' <;> simp_all) (len := 0) (cap := 0) (fun _ => rfl) (fun _ => rfl) true w
          exact ⟨.slice ad 0 0, go _ _ (.inr ⟨elem, hu⟩) (by simp [Instr.slice, run_underlying' hu, b1, run_sizeOf' hsz]), .eslice _⟩
    · cases h
  · -- of one's own
    rename_i b off len lb ex
    obtain ⟨elem, hu, hsz, _⟩ : ∃ elem, P.underlying t = some (.slice elem) ∧ Program.sizeT P elem = some sz ∧ _ := by
      rcases ht with q | ⟨_, q⟩
      · exact q
      · simp [IV.isSlice] at q
    cases hx with
    | mslice _ _ _ _ _ L cap hL hlen hlb hex hext =>
      split at h
      · rename_i hmxs
        split at h
        · rename_i m hh ll hm hh2 hl2
          split at h
          · rename_i hhi
            obtain rfl := Option.some.inj h
            have b1 := bounds3_run (P := P) hA h1 h2 h3 hm hh2 hl2 (fun _ => hhi) (len := len) (cap := cap) (fun e => by rw [e] at hmxs; cases hmxs) (fun e => by rw [e] at hhi; cases hhi) true w
            exact ⟨.slice (some ⟨L.rb, L.ro + off * L.sz, none⟩) 0 0, go _ _ (.inr ⟨elem, hu⟩) (by simp [Instr.slice, run_underlying' hu, b1, run_sizeOf' hsz]), .eslice _⟩
          · cases h
        · cases h
      · rename_i hmx
        have hm : mx = none := by cases mx' with | none => exact opdO_none h3 | some _ => simp at hmx
        subst hm
        split at h
        · rename_i hh hhe
          split at h
          · rename_i ll hle
            split at h
            · rename_i sz' es hH
              split at h
              · rename_i hc
                obtain rfl := Option.some.inj h
                obtain ⟨b1, b2, b3⟩ := bounds_run (P := P) hA h1 h2 hhe hle hlb hlen true w
                refine ⟨.slice (if cap = ll then some ⟨L.rb, L.ro + off * L.sz, none⟩ else some (Addr.add ⟨L.rb, L.ro + off * L.sz, none⟩ (ll * sz))) (hh - ll) (cap - ll), go _ _ (.inr ⟨elem, hu⟩) (by simp [Instr.slice, run_underlying' hu, b1, run_sizeOf' hsz]), ?_⟩
                have hsz' := (hW.sz b sz' es L hH hL).1
                have e : (if cap = ll then some (⟨L.rb, L.ro + off * L.sz, none⟩ : Addr) else some (Addr.add ⟨L.rb, L.ro + off * L.sz, none⟩ (ll * sz))) = some ⟨L.rb, L.ro + (off + ll) * L.sz, none⟩ := by
                  rcases hc with rfl | ⟨c1, rfl⟩
                  · split
                    · simp
                    · simp [addr_add]
                  · rw [if_neg (by omega), addr_add, hsz', Nat.add_mul]
                    simp [Nat.add_assoc]
                rw [e]
                refine VR.mslice b (off + ll) (hh - ll) (lb - ll) ex L (cap - ll) hL (by omega) (by omega) (fun q => by have := hex q; omega) ?_
                rcases Nat.lt_or_ge cap ll with c | c
                · omega
                · rw [show off + ll + (cap - ll) = off + cap by omega]; exact hext
              · cases h
            · cases h
          · cases h
        · cases h
  · cases h

end
end Go.Ideal

/- An ideal machine for Go code. Part 8: '=='. -/
namespace Go.Ideal
open Go.RowKit

section
variable {P : Program} {n0 : Nat} {w0 : World} {Φ X : Frozen} {μ : Places} {nt : Nat} {E : Env} {a : Act} {H : Heap} {w : World}

theorem cellsEq_length : ∀ {ks : List CK} {a b : List IV} {r : Bool}, cellsEq ks a b = some r → a.length = ks.length ∧ b.length = ks.length
  | [], [], [], _, _ => ⟨rfl, rfl⟩
  | k :: ks, x :: a, y :: b, r, h => by
    simp only [cellsEq] at h
    split at h
    · rename_i p q hp hq
      obtain ⟨h1, h2⟩ := cellsEq_length hq
      simp [h1, h2]
    · cases h
  | [], [], _ :: _, _, h => by simp [cellsEq] at h
  | [], _ :: _, _, _, h => by simp [cellsEq] at h
  | _ :: _, [], _, _, h => by simp [cellsEq] at h
  | _ :: _, _ :: _, [], _, h => by simp [cellsEq] at h

theorem cellsEq_append : ∀ {ks ls : List CK} {xs ys : List IV} {r : Bool}, cellsEq (ks ++ ls) xs ys = some r →
    ∃ p q, cellsEq ks (xs.take ks.length) (ys.take ks.length) = some p ∧ cellsEq ls (xs.drop ks.length) (ys.drop ks.length) = some q ∧ r = (p && q)
  | [], ls, xs, ys, r, h => ⟨true, r, by simp [cellsEq], by simpa using h, by simp⟩
  | k :: ks, ls, x :: xs, y :: ys, r, h => by
    simp only [List.cons_append, cellsEq] at h
    split at h
    · rename_i p q hp hq
      obtain ⟨p', q', h1, h2, rfl⟩ := cellsEq_append hq
      refine ⟨p && p', q', by simp [cellsEq, hp, h1], by simpa using h2, ?_⟩
      rw [← Option.some.inj h, Bool.and_assoc]
    · cases h
  | k :: ks, ls, [], ys, r, h => by simp [cellsEq] at h
  | k :: ks, ls, _ :: _, [], r, h => by simp [cellsEq] at h

theorem cellEq_b {x y : IV} {r : Bool} (h : cellEq .b x y = some r) : ∃ a b, x = .bool a ∧ y = .bool b ∧ r = (a == b) := by
  cases x <;> cases y <;> simp [cellEq] at h
  exact ⟨_, _, rfl, rfl, h.symm⟩
theorem cellEq_i {x y : IV} {r : Bool} (h : cellEq .i x y = some r) : ∃ k a b, x = .int k a ∧ y = .int k b ∧ r = (a == b) := by
  cases x <;> cases y <;> simp [cellEq] at h
  obtain ⟨rfl, h⟩ := h
  exact ⟨_, _, _, rfl, rfl, h.symm⟩
theorem cellEq_s {x y : IV} {r : Bool} (h : cellEq .s x y = some r) : ∃ a b, x = .str a ∧ y = .str b ∧ r = (a == b) := by
  cases x <;> cases y <;> simp [cellEq] at h
  exact ⟨_, _, rfl, rfl, h.symm⟩

/-- A value of a type, by its cells. -/
def Formed (P : Program) (Φ : Frozen) (μ : Places) (t : TypeId) (xs : List IV) (v : Value) : Prop :=
  (Program.isAggT P t = some true ∧ ∃ cs, v = .agg cs ∧ PW Φ μ xs cs) ∨ (Program.isAggT P t = some false ∧ ∃ x, xs = [x] ∧ VR Φ μ x v)

theorem part_formed {t : TypeId} {n off : Nat} {xs : List IV} {cs : Array Value} (hp : PW Φ μ xs cs) (hn : Program.sizeT P t = some n) (hag : Program.isAggT P t = some true ∨ (Program.isAggT P t = some false ∧ n = 1))
    (hle : off + n ≤ xs.length) (w : World) : ∃ v, (part t cs off).run P w = .ok v w ∧ Formed P Φ μ t ((xs.drop off).take n) v := by
  rcases hag with hag | ⟨hag, rfl⟩
  · refine ⟨.agg (cs.extract off (off + n)), by simp [part, run_isAgg hag, run_sizeOf' hn], .inl ⟨hag, _, rfl, ?_, fun i h1 h2 => ?_⟩⟩
    · have := hp.1; simp; omega
    · simp only [List.getElem_take, List.getElem_drop, Array.getElem_extract]
      exact hp.2 _ _ _
  · have h1 : off < xs.length := by omega
    have h2 : off < cs.size := by have := hp.1; omega
    refine ⟨cs[off], by simp [part, run_isAgg hag, h2], .inr ⟨hag, xs[off], ?_, hp.2 off h1 h2⟩⟩
    rw [List.drop_eq_getElem_cons h1]
    rfl

theorem kindsOf_size {d : Nat} {t : TypeId} {ks : List CK} (h : kindsOf P d t = some ks) : Program.sizeT P t = some ks.length ∧ (Program.isAggT P t = some true ∨ (Program.isAggT P t = some false ∧ ks.length = 1)) := by
  cases d with
  | zero => simp [kindsOf] at h
  | succ d =>
    simp only [kindsOf] at h
    split at h
    · rename_i hu
      split at h
      · rename_i hs; obtain rfl := Option.some.inj h
        exact ⟨hs, .inr ⟨by simp [Program.isAggT, hu, isAggD], rfl⟩⟩
      · cases h
    · rename_i hu
      split at h
      · rename_i hs; obtain rfl := Option.some.inj h
        exact ⟨hs, .inr ⟨by simp [Program.isAggT, hu, isAggD], rfl⟩⟩
      · cases h
    · rename_i hu
      split at h
      · rename_i hs; obtain rfl := Option.some.inj h
        exact ⟨hs, .inr ⟨by simp [Program.isAggT, hu, isAggD], rfl⟩⟩
      · cases h
    · rename_i fs hu
      split at h
      · rename_i hk
        split at h
        · rename_i hs; obtain rfl := Option.some.inj h
          exact ⟨hs.2, .inl (by simp [Program.isAggT, hu, isAggD])⟩
        · cases h
      · cases h
    · cases h

theorem equal_plain : ∀ (d : Nat) (t : TypeId) (ks : List CK), kindsOf P d t = some ks → ∀ (D : Nat), d ≤ D → ∀ (xs ys : List IV) (vx vy : Value) (r : Bool), Formed P Φ μ t xs vx → Formed P Φ μ t ys vy →
    cellsEq ks xs ys = some r → ∀ w, (Op.equalIn D t vx vy).run P w = .ok r w
  | 0, t, ks, h => by simp [kindsOf] at h
  | d + 1, t, ks, h => by
    intro D hD xs ys vx vy r hx hy hr w
    obtain ⟨D, rfl⟩ : ∃ z, D = z + 1 := ⟨D - 1, by omega⟩
    have basic : ∀ k : CK, ks = [k] → Program.isAggT P t = some false → ∃ x y, VR Φ μ x vx ∧ VR Φ μ y vy ∧ cellEq k x y = some r := by
      intro k hk hag
      subst hk
      rcases hx with ⟨q, _⟩ | ⟨_, x, rfl, hx⟩
      · rw [hag] at q; cases q
      rcases hy with ⟨q, _⟩ | ⟨_, y, rfl, hy⟩
      · rw [hag] at q; cases q
      simp only [cellsEq] at hr
      split at hr
      · rename_i p q hp hq
        obtain rfl := Option.some.inj hq
        obtain rfl := Option.some.inj hr
        exact ⟨x, y, hx, hy, by simpa using hp⟩
      · cases hr
    simp only [kindsOf] at h
    split at h
    · rename_i hu
      split at h
      · obtain rfl := Option.some.inj h
        obtain ⟨x, y, hx, hy, hc⟩ := basic _ rfl (by simp [Program.isAggT, hu, isAggD])
        obtain ⟨p, q, rfl, rfl, rfl⟩ := cellEq_b hc
        obtain rfl := hx.bool_inv
        obtain rfl := hy.bool_inv
        simp [Op.equalIn, run_underlying' hu]
      · cases h
    · rename_i hu
      split at h
      · obtain rfl := Option.some.inj h
        obtain ⟨x, y, hx, hy, hc⟩ := basic _ rfl (by simp [Program.isAggT, hu, isAggD])
        obtain ⟨kk, p, q, rfl, rfl, rfl⟩ := cellEq_i hc
        obtain rfl := hx.int_inv
        obtain rfl := hy.int_inv
        simp [Op.equalIn, run_underlying' hu]
      · cases h
    · rename_i hu
      split at h
      · obtain rfl := Option.some.inj h
        obtain ⟨x, y, hx, hy, hc⟩ := basic _ rfl (by simp [Program.isAggT, hu, isAggD])
        obtain ⟨p, q, rfl, rfl, rfl⟩ := cellEq_s hc
        obtain rfl := hx.str_inv
        obtain rfl := hy.str_inv
        simp [Op.equalIn, run_underlying' hu]
      · cases h
    · rename_i fs hu
      split at h
      · rename_i ks' hk
        split at h
        · rename_i hs
          obtain rfl := Option.some.inj h
          have hag : Program.isAggT P t = some true := by simp [Program.isAggT, hu, isAggD]
          rcases hx with ⟨_, cx, rfl, hx⟩ | ⟨q, _⟩
          rotate_left
          · rw [hag] at q; cases q
          rcases hy with ⟨_, cy, rfl, hy⟩ | ⟨q, _⟩
          rotate_left
          · rw [hag] at q; cases q
          have hf : P.fieldsOf t = fs := by simp [Program.fieldsOf, hu]
          rw [run_equalIn_struct (P := P) w D t cx cy (by rw [hf]; exact hu) hs.1, hf]
          have key : ∀ (l : List Field) (off : Nat) (ls : List CK) (r : Bool), kindsOf.kindsFs (kindsOf P d) l off = some ls → cellsEq ls (xs.drop off) (ys.drop off) = some r →
              (Op.eqFields D cx cy l).run P w = .ok r w := by
            intro l
            induction l with
            | nil =>
              intro off ls r h1 h2
              obtain rfl := Option.some.inj h1
              have : r = true := by
                unfold cellsEq at h2
                split at h2
                · exact (Option.some.inj h2).symm
                · rename_i e _ _; cases e
                · cases h2
              subst this
              rfl
            | cons f l ih =>
              intro off ls r h1 h2
              simp only [kindsOf.kindsFs] at h1
              split at h1
              · rename_i kf hkf
                split at h1
                · rename_i hn
                  obtain ⟨kr, hkr, rfl⟩ := Option.map_eq_some_iff.mp h1
                  obtain ⟨p, q, e1, e2, rfl⟩ := cellsEq_append h2
                  obtain ⟨z1, z2⟩ := kindsOf_size hkf
                  have l1 := (cellsEq_length h2).1
                  have l2 := (cellsEq_length h2).2
                  simp only [List.length_drop, List.length_append] at l1 l2
                  have lx : off + kf.length ≤ xs.length ∨ kf.length = 0 := by omega
                  have ly : off + kf.length ≤ ys.length ∨ kf.length = 0 := by omega
                  have hx' : ∃ v, (part f.type cx f.offset).run P w = .ok v w ∧ Formed P Φ μ f.type ((xs.drop off).take kf.length) v := by
                    rw [hn.2]
                    rcases lx with lx | lx
                    · exact part_formed hx z1 z2 lx w
                    · rcases z2 with z2 | z2
                      · refine ⟨.agg (cx.extract off (off + kf.length)), by simp [part, run_isAgg z2, run_sizeOf' z1], .inl ⟨z2, _, rfl, by simp [lx]; omega, fun i h1 h2 => by simp [lx] at h1⟩⟩
                      · omega
                  have hy' : ∃ v, (part f.type cy f.offset).run P w = .ok v w ∧ Formed P Φ μ f.type ((ys.drop off).take kf.length) v := by
                    rw [hn.2]
                    rcases ly with ly | ly
                    · exact part_formed hy z1 z2 ly w
                    · rcases z2 with z2 | z2
                      · refine ⟨.agg (cy.extract off (off + kf.length)), by simp [part, run_isAgg z2, run_sizeOf' z1], .inl ⟨z2, _, rfl, by simp [ly]; omega, fun i h1 h2 => by simp [ly] at h1⟩⟩
                      · omega
                  obtain ⟨v1, p1, f1⟩ := hx'
                  obtain ⟨v2, p2, f2⟩ := hy'
                  have q1 := equal_plain d f.type kf hkf D (by omega) _ _ v1 v2 p f1 f2 e1 w
                  have q2 := ih (off + kf.length) kr q hkr (by rw [← List.drop_drop, ← List.drop_drop]; exact e2)
                  rw [Op.eqFields]
                  simp only [if_pos hn.1, Sem.run_bind, p1, p2, q1, Result.andThen_ok]
                  cases p
                  · simp
                  · simpa using q2
                · cases h1
              · cases h1
          exact key fs.toList 0 ks' r hk (by simpa using hr)
        · cases h
      · cases h
    · cases h

end
end Go.Ideal

/- An ideal machine for Go code. Part 9: how the memory changes. -/
namespace Go.Ideal
open Go.RowKit

section
variable {P : Program} {n0 : Nat} {w0 : World} {Φ X : Frozen} {μ : Places} {nt : Nat} {E : Env} {a : Act} {H : Heap} {w : World}

theorem heap_alloc (w : World) (o : Obj) (k : Nat) : (w.alloc o).heap[k]? = if k = w.heap.size then some o else w.heap[k]? := by
  show (w.heap.push o)[k]? = _
  rw [Array.getElem?_push]

theorem cell_lt {x : Addr} {v : Value} (h : w.cell? x = some v) : x.block < w.heap.size := by
  unfold World.cell? at h
  split at h
  · rename_i e
    exact (Array.getElem?_eq_some_iff.mp e).1
  · cases h

theorem cell_alloc_old (o : Obj) {x : Addr} (h : x.block < w.heap.size) : (w.alloc o).cell? x = w.cell? x := by
  unfold World.cell?
  rw [heap_alloc, if_neg (by omega)]
theorem cell_alloc_new (arr : Array Value) (t : TypeId) (i : Nat) : (w.alloc (.cells arr t)).cell? ⟨w.heap.size, i, none⟩ = arr[i]? := by
  unfold World.cell?
  rw [heap_alloc, if_pos rfl]
  rfl
theorem frozen_alloc (arr : Array Value) (t : TypeId) (x : Addr) (h : w.frozen? x = false) : (w.alloc (.cells arr t)).frozen? x = false := by
  unfold World.frozen? at *
  rw [heap_alloc]
  split
  · rename_i c e lo hi hh
    split at hh
    · simp only [Option.some.injEq, Obj.cells.injEq, Prod.mk.injEq] at hh
      obtain ⟨_, _, rfl, rfl⟩ := hh
      simp
    · rw [hh] at h
      exact h
  · rfl

theorem WR.named_of (hW : WR n0 w0 Φ X μ H w) {b : Nat} (hb : H b = .free) : μ b = none := by
  cases h : μ b with
  | none => rfl
  | some L => exact absurd hb ((hW.dom b).mp (by simp [h]))

theorem WR.frozen_none (hW : WR n0 w0 Φ X μ H w) {k i : Nat} (h : w.heap.size ≤ k) : Φ k i = none := by
  cases e : Φ k i with
  | none => rfl
  | some v => have := cell_lt (hW.fz k i v e); simp only at this; omega

theorem WR.x_none (hW : WR n0 w0 Φ X μ H w) {k i : Nat} (h : w.heap.size ≤ k) : X k i = none := by
  cases e : X k i with
  | none => rfl
  | some v => have := cell_lt (hW.xz k i v e); simp only at this; omega

def Places.put (μ : Places) (b : Nat) (L : Loc) : Places := fun c => if c = b then some L else μ c
theorem Places.put_same (μ : Places) (b : Nat) (L : Loc) : (μ.put b L) b = some L := by simp [Places.put]
theorem Places.put_ne (μ : Places) {b c : Nat} (L : Loc) (h : c ≠ b) : (μ.put b L) c = μ c := by simp [Places.put, h]
theorem Places.put_le {μ : Places} {b : Nat} {L : Loc} (h : μ b = none) : ∀ c M, μ c = some M → (μ.put b L) c = some M := by
  intro c M hc
  by_cases e : c = b
  · subst e; rw [h] at hc; cases hc
  · rw [Places.put_ne _ _ e]; exact hc

/-- A new block. -/
theorem WR.new (hW : WR n0 w0 Φ X μ H w) {b : Nat} (hb : H b = .free) {sz : Nat} {els : Els} (hlen : ∀ e ∈ els, e.length = sz) (arr : Array Value) (t : TypeId) (hs : els.length * sz ≤ arr.size)
    (hv : ∀ (i j : Nat) (hi : i < els.length) (hj : j < els[i].length), ∃ v, arr[i * sz + j]? = some v ∧ VR Φ μ els[i][j] v) :
    WR n0 w0 Φ X (μ.put b ⟨w.heap.size, 0, sz, arr.size⟩) (H.set b (.live sz els)) (w.alloc (.cells arr t)) := by
  have hμ := Places.put_le (L := ⟨w.heap.size, 0, sz, arr.size⟩) (hW.named_of hb)
  have live : ∀ {c sz' es L}, (H.set b (.live sz els)) c = .live sz' es → (μ.put b ⟨w.heap.size, 0, sz, arr.size⟩) c = some L →
      (b = c ∧ sz = sz' ∧ els = es ∧ (⟨w.heap.size, 0, sz, arr.size⟩ : Loc) = L) ∨ (c ≠ b ∧ H c = .live sz' es ∧ μ c = some L) := by
    intro c sz' es L h1 h2
    by_cases e : c = b
    · subst e
      rw [Heap.set_same] at h1
      rw [Places.put_same] at h2
      simp only [Slot.live.injEq] at h1
      exact .inl ⟨rfl, h1.1, h1.2, Option.some.inj h2⟩
    · rw [Heap.set_ne _ _ e] at h1
      rw [Places.put_ne _ _ e] at h2
      exact .inr ⟨e, h1, h2⟩
  refine ⟨by simp; have := hW.n0le; omega, hW.base.alloc hW.n0le _, fun k i v h => ?_, fun k i v h => ?_, hW.xf, fun c => ?_, fun k i hk => frozen_alloc _ _ _ (hW.nofr k i hk), fun c sz' es L h1 h2 => ?_, fun c sz' es L h1 h2 k hk => ?_,
    fun c sz' es L h1 h2 i j hi hj => ?_, fun c c' sz1 sz2 es es' L L' hne h1 h2 h3 h4 x1 x2 => ?_, fun c sz' es L h1 h2 k hk => ?_, fun c sz' es L h1 h2 k hk => ?_⟩
  · have := hW.fz k i v h
    rw [cell_alloc_old _ (cell_lt this)]
    exact this
  · have := hW.xz k i v h
    rw [cell_alloc_old _ (cell_lt this)]
    exact this
  · by_cases e : c = b
    · subst e; simp [Places.put_same, Heap.set_same]
    · rw [Places.put_ne _ _ e, Heap.set_ne _ _ e]; exact hW.dom c
  · rcases live h1 h2 with ⟨rfl, rfl, rfl, rfl⟩ | ⟨e, k1, k2⟩
    · exact ⟨rfl, hW.n0le, by simp, hlen, hs⟩
    · obtain ⟨x1, x2, x3, x4, x5⟩ := hW.sz c sz' es L k1 k2
      exact ⟨x1, x2, by simp; omega, x4, x5⟩
  · rcases live h1 h2 with ⟨rfl, rfl, rfl, rfl⟩ | ⟨e, k1, k2⟩
    · refine ⟨arr[k], ?_⟩
      simp only [Nat.zero_add]
      rw [cell_alloc_new]
      simp [hk]
    · obtain ⟨v, hv⟩ := hW.cell c sz' es L k1 k2 k hk
      exact ⟨v, by rw [cell_alloc_old _ (cell_lt hv)]; exact hv⟩
  · rcases live h1 h2 with ⟨rfl, rfl, rfl, rfl⟩ | ⟨e, k1, k2⟩
    · obtain ⟨v, h5, h6⟩ := hv i j hi hj
      refine ⟨v, ?_, h6.mono (fun _ _ _ h => h) hμ⟩
      simp only [Nat.zero_add]
      rw [cell_alloc_new]
      exact h5
    · obtain ⟨v, h5, h6⟩ := hW.val c sz' es L k1 k2 i j hi hj
      exact ⟨v, by rw [cell_alloc_old _ (cell_lt h5)]; exact h5, h6.mono (fun _ _ _ h => h) hμ⟩
  · rcases live h1 h3 with ⟨rfl, rfl, rfl, rfl⟩ | ⟨e, k1, k3⟩
    · rcases live h2 h4 with ⟨rfl, _⟩ | ⟨e, k2, k4⟩
      · exact absurd rfl hne
      · have := (hW.sz _ _ _ _ k2 k4).2.2.1
        left; simp; omega
    · rcases live h2 h4 with ⟨rfl, rfl, rfl, rfl⟩ | ⟨e', k2, k4⟩
      · have := (hW.sz _ _ _ _ k1 k3).2.2.1
        left; simp; omega
      · exact hW.disj c c' sz1 sz2 es es' L L' hne k1 k2 k3 k4 x1 x2
  · rcases live h1 h2 with ⟨rfl, rfl, rfl, rfl⟩ | ⟨e, k1, k2⟩
    · exact hW.frozen_none (Nat.le_refl _)
    · exact hW.fdisj c sz' es L k1 k2 k hk
  · rcases live h1 h2 with ⟨rfl, rfl, rfl, rfl⟩ | ⟨e, k1, k2⟩
    · exact hW.x_none (Nat.le_refl _)
    · exact hW.xdisj c sz' es L k1 k2 k hk

/-- A block is given up. -/
theorem WR.kill (hW : WR n0 w0 Φ X μ H w) {b : Nat} (hb : H b ≠ .free) : WR n0 w0 Φ X μ (H.set b .dead) w := by
  have live : ∀ {c sz' es}, (H.set b .dead) c = .live sz' es → c ≠ b ∧ H c = .live sz' es := by
    intro c sz' es h1
    by_cases e : c = b
    · subst e; rw [Heap.set_same] at h1; cases h1
    · rw [Heap.set_ne _ _ e] at h1; exact ⟨e, h1⟩
  refine ⟨hW.n0le, hW.base, hW.fz, hW.xz, hW.xf, fun c => ?_, hW.nofr, fun c sz' es L h1 h2 => hW.sz c sz' es L (live h1).2 h2, fun c sz' es L h1 h2 => hW.cell c sz' es L (live h1).2 h2, fun c sz' es L h1 h2 => hW.val c sz' es L (live h1).2 h2,
    fun c c' sz1 sz2 es es' L L' hne h1 h2 h3 h4 x1 x2 => hW.disj c c' sz1 sz2 es es' L L' hne (live h1).2 (live h2).2 h3 h4 x1 x2, fun c sz' es L h1 h2 => hW.fdisj c sz' es L (live h1).2 h2, fun c sz' es L h1 h2 => hW.xdisj c sz' es L (live h1).2 h2⟩
  · by_cases e : c = b
    · subst e
      rw [Heap.set_same]
      exact ⟨fun _ => by simp, fun _ => (hW.dom c).mpr hb⟩
    · rw [Heap.set_ne _ _ e]; exact hW.dom c

theorem setCells_below {B : Nat} {b : Nat} : ∀ (vs : List Value) (o : Nat) (u w : World), Base B u w → B ≤ b → Base B u (w.setCells b o vs)
  | [], _, _, _, h, _ => h
  | v :: vs, o, u, w, h, hB => by
    rw [World.setCells]
    exact setCells_below vs (o + 1) u _ (h.setCell (p := ⟨b, o, none⟩) hB v) hB

theorem setCells_size {b : Nat} : ∀ (vs : List Value) (o : Nat) (w : World), (w.setCells b o vs).heap.size = w.heap.size
  | [], _, _ => rfl
  | v :: vs, o, w => by rw [World.setCells, setCells_size vs]; simp [World.setCell]

/-- Cells are written. -/
theorem WR.write (hW : WR n0 w0 Φ X μ H w) {b sz : Nat} {es : Els} {L : Loc} (hH : H b = .live sz es) (hL : μ b = some L) {o : Nat} {us : List Value} (ho : o + us.length ≤ L.ext) {es' : Els} (hlen : ∀ e ∈ es', e.length = sz) (hn : es'.length * sz ≤ L.ext)
    (hv : ∀ (i j : Nat) (hi : i < es'.length) (hj : j < es'[i].length), (o ≤ i * sz + j ∧ i * sz + j < o + us.length ∧ ∃ v, us[i * sz + j - o]? = some v ∧ VR Φ μ es'[i][j] v) ∨
      ((i * sz + j < o ∨ o + us.length ≤ i * sz + j) ∧ ∃ (hi' : i < es.length) (hj' : j < es[i].length), es'[i][j] = es[i][j])) :
    WR n0 w0 Φ X μ (H.set b (.live sz es')) (w.setCells L.rb (L.ro + o) us) := by
  obtain ⟨s1, s2, s3, s4, s5⟩ := hW.sz b sz es L hH hL
  have inn : ∀ j, j < us.length → (w.cell? ⟨L.rb, L.ro + o + j, none⟩).isSome := fun j hj => by
    obtain ⟨v, hv⟩ := hW.cell b sz es L hH hL (o + j) (by omega)
    rw [Nat.add_assoc, hv]; rfl
  have cin : ∀ j, j < us.length → (w.setCells L.rb (L.ro + o) us).cell? ⟨L.rb, L.ro + o + j, none⟩ = us[j]? := fun j hj => by rw [World.cell?_setCells_in L.rb us (L.ro + o) w inn j hj]; simp [hj]
  have cout : ∀ (x : Addr), (x.block ≠ L.rb ∨ x.off < L.ro + o ∨ L.ro + o + us.length ≤ x.off) → (w.setCells L.rb (L.ro + o) us).cell? x = w.cell? x := fun x hx => World.cell?_setCells_out L.rb us (L.ro + o) w x (fun q _ => by rcases hx with h | h | h; exact absurd q h; exact .inl h; exact .inr h)
  have live : ∀ {c sz' es1 M}, (H.set b (.live sz es')) c = .live sz' es1 → μ c = some M → (b = c ∧ sz = sz' ∧ es' = es1 ∧ L = M) ∨ (c ≠ b ∧ H c = .live sz' es1) := by
    intro c sz' es1 M h1 h2
    by_cases e : c = b
    · subst e
      rw [Heap.set_same] at h1
      simp only [Slot.live.injEq] at h1
      rw [hL] at h2
      exact .inl ⟨rfl, h1.1, h1.2, Option.some.inj h2⟩
    · rw [Heap.set_ne _ _ e] at h1; exact .inr ⟨e, h1⟩
  refine ⟨by rw [setCells_size]; exact hW.n0le, setCells_below _ _ _ _ hW.base s2, fun k i v h => ?_, fun k i v h => ?_, hW.xf, fun c => ?_, fun k i hk => ?_, fun c sz' es1 M h1 h2 => ?_, fun c sz' es1 M h1 h2 k hk => ?_,
    fun c sz' es1 M h1 h2 i j hi hj => ?_, fun c c' sz1 sz2 es1 es2 M M' hne h1 h2 h3 h4 x1 x2 => ?_, fun c sz' es1 M h1 h2 k hk => ?_, fun c sz' es1 M h1 h2 k hk => ?_⟩
  · rw [cout]
    · exact hW.fz k i v h
    · by_cases e : k = L.rb
      · right
        by_cases q : i < L.ro + o
        · exact .inl q
        · right
          rcases Nat.lt_or_ge i (L.ro + o + us.length) with q2 | q2
          · have := hW.fdisj b sz es L hH hL (i - L.ro) (by omega)
            rw [show L.ro + (i - L.ro) = i by omega, ← e, h] at this
            cases this
          · exact q2
      · exact .inl e
  · rw [cout]
    · exact hW.xz k i v h
    · by_cases e : k = L.rb
      · right
        by_cases q : i < L.ro + o
        · exact .inl q
        · right
          rcases Nat.lt_or_ge i (L.ro + o + us.length) with q2 | q2
          · have := hW.xdisj b sz es L hH hL (i - L.ro) (by omega)
            rw [show L.ro + (i - L.ro) = i by omega, ← e, h] at this
            cases this
          · exact q2
      · exact .inl e
  · by_cases e : c = b
    · subst e
      rw [Heap.set_same]
      exact ⟨fun _ => by simp, fun _ => by rw [hL]; rfl⟩
    · rw [Heap.set_ne _ _ e]; exact hW.dom c
  · rw [World.frozen?_setCells]; exact hW.nofr k i hk
  · rcases live h1 h2 with ⟨rfl, rfl, rfl, rfl⟩ | ⟨e, k1⟩
    · exact ⟨s1, s2, by rw [setCells_size]; exact s3, hlen, hn⟩
    · rw [setCells_size]; exact hW.sz c sz' es1 M k1 h2
  · rcases live h1 h2 with ⟨rfl, rfl, rfl, rfl⟩ | ⟨e, k1⟩
    · by_cases q : o ≤ k ∧ k < o + us.length
      · have := cin (k - o) (by omega)
        rw [show L.ro + o + (k - o) = L.ro + k by omega] at this
        exact ⟨us[k - o], by rw [this]; simp⟩
      · rw [cout _ (by right; simp only; omega)]
        exact hW.cell b sz es L hH hL k hk
    · obtain ⟨v, hv⟩ := hW.cell c sz' es1 M k1 h2 k hk
      refine ⟨v, ?_⟩
      rw [cout]
      · exact hv
      · by_cases q0 : L.ext = 0
        · right; simp only; omega
        rcases hW.disj c b sz' sz es1 es M L e k1 hH h2 hL (by omega) (by omega) with d | d | d
        · exact .inl d
        · right; left; simp only; omega
        · right; right; simp only; omega
  · rcases live h1 h2 with ⟨rfl, rfl, rfl, rfl⟩ | ⟨e, k1⟩
    · rcases hv i j hi hj with ⟨q1, q2, v, q3, q4⟩ | ⟨q, hi', hj', q2⟩
      · refine ⟨v, ?_, q4⟩
        have := cin (i * sz + j - o) (by omega)
        rw [show L.ro + o + (i * sz + j - o) = L.ro + i * sz + j by omega] at this
        rw [this]; exact q3
      · obtain ⟨v, h5, h6⟩ := hW.val b sz es L hH hL i j hi' hj'
        refine ⟨v, ?_, by rw [q2]; exact h6⟩
        rw [cout _ (by right; simp only; omega)]
        exact h5
    · obtain ⟨v, h5, h6⟩ := hW.val c sz' es1 M k1 h2 i j hi hj
      refine ⟨v, ?_, h6⟩
      have hb := hW.sz c sz' es1 M k1 h2
      have hjj : es1[i].length = sz' := hb.2.2.2.1 _ (List.getElem_mem hi)
      have hext : i * sz' + j < M.ext := by
        rw [hjj] at hj
        have h7 : (i + 1) * sz' ≤ es1.length * sz' := Nat.mul_le_mul_right _ hi
        rw [Nat.add_mul] at h7
        have := hb.2.2.2.2
        omega
      rw [cout]
      · exact h5
      · by_cases q0 : L.ext = 0
        · right; simp only; omega
        rcases hW.disj c b sz' sz es1 es M L e k1 hH h2 hL (by omega) (by omega) with d | d | d
        · exact .inl d
        · right; left; simp only; omega
        · right; right; simp only; omega
  · have g : ∀ {c sz' es1 M}, (H.set b (.live sz es')) c = .live sz' es1 → μ c = some M → ∃ es2, H c = .live sz' es2 := by
      intro c sz' es1 M h1 h2
      rcases live h1 h2 with ⟨rfl, rfl, rfl, rfl⟩ | ⟨e, k1⟩
      · exact ⟨_, hH⟩
      · exact ⟨_, k1⟩
    obtain ⟨e1, g1⟩ := g h1 h3
    obtain ⟨e2, g2⟩ := g h2 h4
    exact hW.disj c c' sz1 sz2 e1 e2 M M' hne g1 g2 h3 h4 x1 x2
  · rcases live h1 h2 with ⟨rfl, rfl, rfl, rfl⟩ | ⟨e, k1⟩
    · exact hW.fdisj b sz es L hH hL k hk
    · exact hW.fdisj c sz' es1 M k1 h2 k hk
  · rcases live h1 h2 with ⟨rfl, rfl, rfl, rfl⟩ | ⟨e, k1⟩
    · exact hW.xdisj b sz es L hH hL k hk
    · exact hW.xdisj c sz' es1 M k1 h2 k hk

/-- A block that goes on under another name, from an element on. -/
theorem WR.rename (hW : WR n0 w0 Φ X μ H w) {b b' sz off : Nat} {es : Els} {L : Loc} (hH : H b = .live sz es) (hL : μ b = some L) (hb' : H b' = .free) (ho : off ≤ es.length) :
    WR n0 w0 Φ X (μ.put b' ⟨L.rb, L.ro + off * sz, sz, L.ext - off * sz⟩) ((H.set b .dead).set b' (.live sz (es.drop off))) w := by
  obtain ⟨s1, s2, s3, s4, s5⟩ := hW.sz b sz es L hH hL
  have hbb : b' ≠ b := fun e => by subst e; rw [hH] at hb'; cases hb'
  have hμ := Places.put_le (L := ⟨L.rb, L.ro + off * sz, sz, L.ext - off * sz⟩) (hW.named_of hb')
  have hoff : off * sz + (es.length - off) * sz = es.length * sz := by rw [← Nat.add_mul]; congr 1; omega
  have live : ∀ {c sz' es1 M}, ((H.set b .dead).set b' (.live sz (es.drop off))) c = .live sz' es1 → (μ.put b' ⟨L.rb, L.ro + off * sz, sz, L.ext - off * sz⟩) c = some M →
      (b' = c ∧ sz = sz' ∧ es.drop off = es1 ∧ (⟨L.rb, L.ro + off * sz, sz, L.ext - off * sz⟩ : Loc) = M) ∨ (c ≠ b' ∧ c ≠ b ∧ H c = .live sz' es1 ∧ μ c = some M) := by
    intro c sz' es1 M h1 h2
    by_cases e : c = b'
    · subst e
      rw [Heap.set_same] at h1
      rw [Places.put_same] at h2
      simp only [Slot.live.injEq] at h1
      exact .inl ⟨rfl, h1.1, h1.2, Option.some.inj h2⟩
    · rw [Heap.set_ne _ _ e] at h1
      rw [Places.put_ne _ _ e] at h2
      by_cases e2 : c = b
      · subst e2; rw [Heap.set_same] at h1; cases h1
      · rw [Heap.set_ne _ _ e2] at h1
        exact .inr ⟨e, e2, h1, h2⟩
  refine ⟨hW.n0le, hW.base, hW.fz, hW.xz, hW.xf, fun c => ?_, hW.nofr, fun c sz' es1 M h1 h2 => ?_, fun c sz' es1 M h1 h2 k hk => ?_, fun c sz' es1 M h1 h2 i j hi hj => ?_, fun c c' sz1 sz2 es1 es2 M M' hne h1 h2 h3 h4 x1 x2 => ?_,
    fun c sz' es1 M h1 h2 k hk => ?_, fun c sz' es1 M h1 h2 k hk => ?_⟩
  · by_cases e : c = b'
    · subst e; simp [Places.put_same, Heap.set_same]
    · rw [Places.put_ne _ _ e, Heap.set_ne _ _ e]
      by_cases e2 : c = b
      · subst e2
        rw [Heap.set_same, hL]
        exact ⟨fun _ => by simp, fun _ => rfl⟩
      · rw [Heap.set_ne _ _ e2]; exact hW.dom c
  · rcases live h1 h2 with ⟨rfl, rfl, rfl, rfl⟩ | ⟨e, e2, k1, k2⟩
    · exact ⟨rfl, s2, s3, fun e he => s4 e (List.mem_of_mem_drop he), by simp; omega⟩
    · exact hW.sz c sz' es1 M k1 k2
  · rcases live h1 h2 with ⟨rfl, rfl, rfl, rfl⟩ | ⟨e, e2, k1, k2⟩
    · obtain ⟨v, hv⟩ := hW.cell b sz es L hH hL (off * sz + k) (by simp only at hk; omega)
      exact ⟨v, by rw [← hv]; simp [Nat.add_assoc]⟩
    · exact hW.cell c sz' es1 M k1 k2 k hk
  · rcases live h1 h2 with ⟨rfl, rfl, rfl, rfl⟩ | ⟨e, e2, k1, k2⟩
    · have hi2 : off + i < es.length := by simp at hi; omega
      have hj2 : j < es[off + i].length := by simpa [List.getElem_drop] using hj
      obtain ⟨v, h5, h6⟩ := hW.val b sz es L hH hL (off + i) j hi2 hj2
      refine ⟨v, ?_, ?_⟩
      · rw [← h5]; simp [Nat.add_mul, Nat.add_assoc]
      · have := h6.mono (fun _ _ _ h => h) hμ
        simpa [List.getElem_drop] using this
    · obtain ⟨v, h5, h6⟩ := hW.val c sz' es1 M k1 k2 i j hi hj
      exact ⟨v, h5, h6.mono (fun _ _ _ h => h) hμ⟩
  · rcases live h1 h3 with ⟨rfl, rfl, rfl, rfl⟩ | ⟨e, e2, k1, k3⟩
    · rcases live h2 h4 with ⟨rfl, _⟩ | ⟨e', e2', k2, k4⟩
      · exact absurd rfl hne
      · rcases hW.disj b c' sz sz2 es es2 L M' (Ne.symm e2') hH k2 hL k4 (by simp only at x1; omega) x2 with d | d | d
        · exact .inl d
        · right; left; simp only; omega
        · right; right; simp only; omega
    · rcases live h2 h4 with ⟨rfl, rfl, rfl, rfl⟩ | ⟨e', e2', k2, k4⟩
      · rcases hW.disj c b sz1 sz es1 es M L e2 k1 hH k3 hL x1 (by simp only at x2; omega) with d | d | d
        · exact .inl d
        · right; left; simp only; omega
        · right; right; simp only; omega
      · exact hW.disj c c' sz1 sz2 es1 es2 M M' hne k1 k2 k3 k4 x1 x2
  · rcases live h1 h2 with ⟨rfl, rfl, rfl, rfl⟩ | ⟨e, e2, k1, k2⟩
    · have := hW.fdisj b sz es L hH hL (off * sz + k) (by simp only at hk; omega)
      simpa [Nat.add_assoc] using this
    · exact hW.fdisj c sz' es1 M k1 k2 k hk
  · rcases live h1 h2 with ⟨rfl, rfl, rfl, rfl⟩ | ⟨e, e2, k1, k2⟩
    · have := hW.xdisj b sz es L hH hL (off * sz + k) (by simp only at hk; omega)
      simpa [Nat.add_assoc] using this
    · exact hW.xdisj c sz' es1 M k1 k2 k hk

end
end Go.Ideal

/- An ideal machine for Go code. Part 10: operations that make or write memory. -/
namespace Go.Ideal
open Go.RowKit

section
variable {P : Program} {n0 : Nat} {w0 : World} {Φ X : Frozen} {μ : Places} {nt : Nat} {E : Env} {a : Act} {H : Heap} {w : World}

/-- Elements, flat. -/
structure FR (Φ : Frozen) (μ : Places) (n : Nat) (els : Els) (arr : Array Value) : Prop where
  size : arr.size = els.length * n
  len : ∀ e ∈ els, e.length = n
  val : ∀ (i j : Nat) (hi : i < els.length) (hj : j < els[i].length), ∃ v, arr[i * n + j]? = some v ∧ VR Φ μ els[i][j] v

theorem flat_lt {i j n m : Nat} (hi : i < m) (hj : j < n) : i * n + j < m * n := by
  have : (i + 1) * n ≤ m * n := Nat.mul_le_mul_right _ hi
  rw [Nat.add_mul] at this
  omega

theorem FR.replicate {n : Nat} {z : List IV} {zs : Array Value} (hz : PW Φ μ z zs) (hn : z.length = n) (len : Nat) : FR Φ μ n (List.replicate len z) ((Array.range (len * n)).map (zs[· % zs.size]!)) := by
  refine ⟨by simp, fun e he => by rw [List.eq_of_mem_replicate he]; exact hn, fun i j hi hj => ?_⟩
  simp only [List.getElem_replicate] at hj ⊢
  simp only [List.length_replicate] at hi
  have h1 : zs.size = n := by rw [← hz.1]; exact hn
  have h2 : i * n + j < len * n := flat_lt hi (by omega)
  have h3 : (i * n + j) % n = j := by rw [Nat.mul_comm, Nat.mul_add_mod, Nat.mod_eq_of_lt (by omega)]
  refine ⟨zs[j]'(by omega), ?_, hz.2 j hj (by omega)⟩
  simp only [Array.getElem?_map, Array.getElem?_range, h2, if_true, Option.map_some, h1, h3]
  rw [getElem!_pos zs j (by omega)]

theorem FR.nil (n : Nat) : FR Φ μ n [] #[] := ⟨by simp, fun e he => (by cases he), fun i j hi => (by simp at hi)⟩
theorem FR.append {n : Nat} {es es' : Els} {arr arr' : Array Value} (h : FR Φ μ n es arr) (k : FR Φ μ n es' arr') : FR Φ μ n (es ++ es') (arr ++ arr') := by
  refine ⟨by simp [h.size, k.size, Nat.add_mul], fun e he => ?_, fun i j hi hj => ?_⟩
  · rcases List.mem_append.mp he with q | q
    · exact h.len e q
    · exact k.len e q
  · rcases Nat.lt_or_ge i es.length with q | q
    · simp only [List.getElem_append_left q] at hj ⊢
      obtain ⟨v, h1, h2⟩ := h.val i j q hj
      have : i * n + j < arr.size := by rw [h.size]; exact flat_lt q (by rw [← h.len _ (List.getElem_mem q)]; exact hj)
      exact ⟨v, by rw [Array.getElem?_append_left this]; exact h1, h2⟩
    · simp only [List.getElem_append_right q] at hj ⊢
      have q2 : i - es.length < es'.length := by simp at hi; omega
      obtain ⟨v, h1, h2⟩ := k.val (i - es.length) j q2 hj
      refine ⟨v, ?_, h2⟩
      have e : es.length * n + (i - es.length) * n = i * n := by rw [← Nat.add_mul]; congr 1; omega
      rw [Array.getElem?_append_right (by rw [h.size]; omega), h.size, show i * n + j - es.length * n = (i - es.length) * n + j by omega]
      exact h1

theorem FR.set {n i : Nat} {els : Els} {arr us : Array Value} {cs : List IV} (h : FR Φ μ n els arr) (hi : i < els.length) (hc : PW Φ μ cs us) (hn : cs.length = n) :
    FR Φ μ n (els.set i cs) (us.zipIdx.foldl (fun cs (c, j) => cs.setIfInBounds (i * n + j) c) arr) := by
  have hus : us.size = n := by rw [← hc.1]; exact hn
  have hle : i * n + 0 + us.toList.length ≤ arr.size := by
    have : (i + 1) * n ≤ els.length * n := Nat.mul_le_mul_right _ hi
    rw [Nat.add_mul] at this
    rw [h.size]; simp [hus]; omega
  obtain ⟨f1, f2⟩ := foldl_put (i * n) us.toList 0 arr hle
  have e : us.zipIdx.foldl (fun cs (c, j) => cs.setIfInBounds (i * n + j) c) arr = (us.toList.zipIdx 0).foldl (fun cs p => cs.setIfInBounds (i * n + p.2) p.1) arr := by
    rw [← Array.foldl_toList]
    simp [Array.toList_zipIdx]
  rw [e]
  refine ⟨by rw [f1, h.size]; simp, fun e he => ?_, fun k j hk hj => ?_⟩
  · rcases List.mem_or_eq_of_mem_set he with q | q
    · exact h.len e q
    · rw [q]; exact hn
  · rw [f2]
    simp only [List.length_set] at hk
    by_cases q : i = k
    · subst q
      simp only [List.getElem_set_self] at hj ⊢
      have hj' : j < us.size := by omega
      refine ⟨us[j], ?_, hc.2 j hj hj'⟩
      rw [if_pos (by simp; omega)]
      simp [hj']
    · simp only [List.getElem_set_ne q] at hj ⊢
      obtain ⟨v, h1, h2⟩ := h.val k j hk hj
      refine ⟨v, ?_, h2⟩
      have hjn : j < n := by rw [← h.len _ (List.getElem_mem hk)]; exact hj
      rw [if_neg]
      · exact h1
      · simp only [Array.length_toList, hus, Nat.add_zero]
        rintro ⟨q1, q2⟩
        rcases Nat.lt_or_ge k i with c | c
        · have : (k + 1) * n ≤ i * n := Nat.mul_le_mul_right _ c
          rw [Nat.add_mul] at this
          omega
        · have : (i + 1) * n ≤ k * n := Nat.mul_le_mul_right _ (by omega)
          rw [Nat.add_mul] at this
          omega

theorem sim_fillE (hA : AR Φ μ nt E a) {n : Nat} : ∀ {ps : List (Nat × Operand)} {qs : List (Nat × Opd)} {els ds : Els} {arr : Array Value}, partsE ps = some qs → FR Φ μ n els arr →
    fillE n els (qs.map fun p => (p.1, p.2.ev E)) = some ds → ∃ us, Instr.fill (fun i => some (i * n, n)) arr (ps.map fun (i, x) => (i, a.eval x)) = some us ∧ FR Φ μ n ds us
  | [], qs, els, ds, arr, hp, hc, hf => by
    obtain rfl := Option.some.inj hp
    obtain rfl := Option.some.inj hf
    exact ⟨arr, rfl, hc⟩
  | (i, x) :: ps, qs, els, ds, arr, hp, hc, hf => by
    simp only [partsE] at hp
    split at hp
    · rename_i y ys hy hys
      obtain rfl := Option.some.inj hp
      simp only [List.map_cons, fillE] at hf
      split at hf
      · cases hf
      · rename_i hu
        split at hf
        · rename_i hl
          have hcells : PW Φ μ (y.ev E).cells (a.eval x).cells := (opd_vr hA hy).cells (by simpa using hu)
          obtain ⟨us, h1, h2⟩ := sim_fillE hA hys (hc.set hl.2 hcells hl.1) hf
          refine ⟨us, ?_, h2⟩
          simp only [List.map_cons, Instr.fill]
          rw [if_neg]
          · exact h1
          · have := hcells.1
            have := hc.size
            have h3 : (i + 1) * n ≤ els.length * n := Nat.mul_le_mul_right _ hl.2
            rw [Nat.add_mul] at h3
            simp
            omega
        · cases hf
    · cases hp

/-- A row is laid. -/
theorem WR.lay (hW : WR n0 w0 Φ X μ H w) {b : Nat} (hb : H b = .free) {sz : Nat} {els : Els} {arr : Array Value} (h : FR Φ μ sz els arr) (rest : Array Value) (t : TypeId) :
    WR n0 w0 Φ X (μ.put b ⟨w.heap.size, 0, sz, (arr ++ rest).size⟩) (H.set b (.live sz els)) (w.alloc (.cells (arr ++ rest) t)) := by
  refine hW.new hb h.len _ t (by simp [h.size]) (fun i j hi hj => ?_)
  obtain ⟨v, h1, h2⟩ := h.val i j hi hj
  have : i * sz + j < arr.size := by rw [h.size]; exact flat_lt hi (by rw [← h.len _ (List.getElem_mem hi)]; exact hj)
  exact ⟨v, by rw [Array.getElem?_append_left this]; exact h1, h2⟩

theorem sim_box (hW : WR n0 w0 Φ X μ H w) {b : Nat} (hb : H b = .free) {x : IV} {v : Value} (hx : VR Φ μ x v) (hu : x.isUndef = false) (t : TypeId) :
    ∃ w' μ', (newVar t v).run P w = .ok ⟨w.heap.size, 0, none⟩ w' ∧ WR n0 w0 Φ X μ' (H.set b (.live x.cells.length [x.cells])) w' ∧ VR Φ μ' (.ptr b 0 0) (.pointer (some ⟨w.heap.size, 0, none⟩)) ∧ ∀ c M, μ c = some M → μ' c = some M := by
  have hc := hx.cells hu
  have hF : FR Φ μ x.cells.length [x.cells] v.cells := by
    refine ⟨by simp [hc.1], fun e he => by simp at he; rw [he], fun i j hi hj => ?_⟩
    obtain rfl : i = 0 := by simpa using hi
    simp only [List.getElem_cons_zero] at hj ⊢
    have hj' : j < v.cells.size := by rw [← hc.1]; exact hj
    exact ⟨v.cells[j], by simp [hj'], hc.2 j hj hj'⟩
  have h := hW.lay hb hF #[] t
  simp only [Array.append_empty] at h
  refine ⟨_, _, rfl, h, ?_, Places.put_le (hW.named_of hb)⟩
  have := VR.ptr (Φ := Φ) b 0 0 _ (Places.put_same μ b ⟨w.heap.size, 0, x.cells.length, v.cells.size⟩)
  simpa using this

theorem WR.drew (hW : WR n0 w0 Φ X μ H w) : WR n0 w0 Φ X μ H { w with drawn := w.drawn + 1 } :=
  ⟨hW.n0le, hW.base.drew, hW.fz, hW.xz, hW.xf, hW.dom, hW.nofr, hW.sz, hW.cell, hW.val, hW.disj, hW.fdisj, hW.xdisj⟩

/-- The elements of a slice, read. -/
theorem sim_els (hW : WR n0 w0 Φ X μ H w) {x : IV} {v : Value} (hx : VR Φ μ x v) {es : Els} (h : elsOf H x = some es) {n : Nat} (hn : ∀ e ∈ es, e.length = n) :
    (∀ w', (Builtin.lenOf v).run P w' = .ok es.length w') ∧ ∃ arr, (∀ d, (Builtin.firstCells n es.length v).run P { w with drawn := d } = .ok arr { w with drawn := d }) ∧ FR Φ μ n es arr := by
  have load : ∀ (rb ro : Nat) (vs : Nat → Nat → Value) (_ : ∀ (j k : Nat) (hj : j < es.length) (hk : k < es[j].length), w.cell? ⟨rb, ro + j * n + k, none⟩ = some (vs j k) ∧ VR Φ μ es[j][k] (vs j k)),
      ∃ arr, (∀ d, (loadCells ⟨rb, ro, none⟩ (es.length * n)).run P { w with drawn := d } = .ok arr { w with drawn := d }) ∧ FR Φ μ n es arr := by
    intro rb ro vs hv
    refine ⟨((List.range (es.length * n)).map fun j => vs (j / n) (j % n)).toArray, fun d => run_loadCells { w with drawn := d } _ _ (fun j => vs (j / n) (j % n)) (fun j hj => ?_), by simp, hn, fun i j hi hj => ?_⟩
    · have hn0 : 0 < n := by
        rcases Nat.eq_zero_or_pos n with q | q
        · subst q; simp at hj
        · exact q
      have h1 : j / n < es.length := (Nat.div_lt_iff_lt_mul hn0).mpr hj
      have h2 : j % n < es[j / n].length := by rw [hn _ (List.getElem_mem h1)]; exact Nat.mod_lt _ hn0
      have := (hv (j / n) (j % n) h1 h2).1
      rw [addr_add, ← this]
      show w.cell? _ = w.cell? _
      congr 2
      rw [Nat.add_assoc, Nat.mul_comm, Nat.div_add_mod]
    · have hjn : j < n := by rw [← hn _ (List.getElem_mem hi)]; exact hj
      refine ⟨vs i j, ?_, (hv i j hi hj).2⟩
      have hlt := flat_lt hi hjn
      have e1 : (i * n + j) / n = i := by rw [Nat.mul_comm, Nat.mul_add_div (by omega), Nat.div_eq_of_lt hjn]; rfl
      have e2 : (i * n + j) % n = j := by rw [Nat.mul_comm, Nat.mul_add_mod, Nat.mod_eq_of_lt hjn]
      simp [hlt, e1, e2]
  cases x with
  | fslice es1 =>
    obtain rfl := Option.some.inj h
    cases hx with
    | fnil ad => exact ⟨fun w' => rfl, #[], fun _ => by cases ad <;> simp [Builtin.firstCells, loadCells, loadCellsFrom], FR.nil _⟩
    | fslice _ sz rb ro cap vs hs hc hf hv =>
      refine ⟨fun w' => rfl, ?_⟩
      by_cases q : es1 = []
      · subst q
        exact ⟨#[], fun d => by simp [Builtin.firstCells, loadCells, loadCellsFrom], FR.nil _⟩
      · have : sz = n := by
          obtain ⟨e, r, rfl⟩ := List.exists_cons_of_ne_nil q
          rw [← hs e (by simp), hn e (by simp)]
        subst this
        exact load rb ro vs (fun j k hj hk => ⟨hW.fz _ _ _ (hf j k hj hk), hv j k hj hk⟩)
  | nilslice =>
    obtain rfl := Option.some.inj h
    cases hx
    exact ⟨fun w' => rfl, #[], fun _ => rfl, FR.nil _⟩
  | eslice =>
    obtain rfl := Option.some.inj h
    cases hx with
    | eslice ad =>
      refine ⟨fun w' => rfl, #[], ?_, FR.nil _⟩
      intro d; cases ad <;> simp [Builtin.firstCells, loadCells, loadCellsFrom]
  | mslice b off len lb ex =>
    simp only [elsOf] at h
    split at h
    · rename_i sz es1 hH
      split at h
      · rename_i hle
        obtain rfl := Option.some.inj h
        cases hx with
        | mslice _ _ _ _ _ L cap hL hlen hlb hex hext =>
          obtain ⟨z1, z2, z3, z4, z5⟩ := hW.sz b sz es1 L hH hL
          have el : ((es1.drop off).take len).length = len := by simp; omega
          rw [el]
          refine ⟨fun w' => rfl, ?_⟩
          by_cases q : len = 0
          · subst q
            exact ⟨#[], fun d => by simp [Builtin.firstCells, loadCells, loadCellsFrom], by simpa using FR.nil n⟩
          · have : sz = n := by
              have h1 : off < es1.length := by omega
              rw [← z4 _ (List.getElem_mem h1), hn es1[off]]
              rw [List.mem_take_iff_getElem]
              exact ⟨0, by simp; omega, by simp⟩
            subst this
            have hv := hW.val b sz es1 L hH hL
            have := load L.rb (L.ro + off * L.sz) (fun j k => if h : off + j < es1.length then (if h' : k < es1[off + j].length then Classical.choose (hv (off + j) k h h') else undef) else undef) (fun j k hj hk => by
              rw [el] at hj
              simp only [List.getElem_take, List.getElem_drop] at hk ⊢
              have h1 : off + j < es1.length := by omega
              simp only [h1, hk, dif_pos]
              have := Classical.choose_spec (hv (off + j) k h1 hk)
              rw [z1, show L.ro + off * sz + j * sz + k = L.ro + (off + j) * sz + k by rw [Nat.add_mul]; omega]
              exact this)
            rw [el] at this
            exact this
      · cases h
    · cases h
  | str s =>
    obtain rfl := Option.some.inj h
    obtain rfl := hx.str_inv
    have el : (s.data.toList.map fun b => [IV.int .u8 b.toNat]).length = s.size := by rw [List.length_map]; rfl
    have ex : s.extract 0 s.size = s := ByteArray.extract_zero_size
    rw [el]
    refine ⟨fun w' => rfl, s.data.map fun b => .int .u8 b.toNat, fun d => by simp [Builtin.firstCells, ex], ?_⟩
    by_cases q : s.data.toList = []
    · have q2 : s.data = #[] := by rw [← Array.toArray_toList (xs := s.data), q]
      rw [q2]; simpa using FR.nil (Φ := Φ) (μ := μ) n
    have hn1 : n = 1 := by
      obtain ⟨x, r, hr⟩ := List.exists_cons_of_ne_nil q
      have := hn [IV.int .u8 x.toNat] (by rw [hr]; simp)
      simpa using this.symm
    subst hn1
    refine ⟨by simp, hn, fun i j hi hj => ?_⟩
    simp only [List.length_map, Array.length_toList] at hi
    simp only [List.getElem_map, List.length_singleton] at hj
    obtain rfl : j = 0 := by omega
    refine ⟨.int .u8 s.data[i].toNat, by rw [Nat.mul_one, Nat.add_zero, Array.getElem?_map, Array.getElem?_eq_getElem hi]; rfl, ?_⟩
    simp only [List.getElem_map, List.getElem_cons_zero, Array.getElem_toList]
    exact .int _ _
  | undef => simp [elsOf] at h
  | bool b => simp [elsOf] at h
  | int k n => simp [elsOf] at h
  | nilptr => simp [elsOf] at h
  | ptr b i off => simp [elsOf] at h
  | cptr es1 i off => simp [elsOf] at h
  | func fn fs cs => simp [elsOf] at h
  | yield l => simp [elsOf] at h
  | nilfunc => simp [elsOf] at h
  | agg cs => simp [elsOf] at h
  | tuple cs => simp [elsOf] at h

end
end Go.Ideal

/- An ideal machine for Go code. Part 11: arithmetic and '==' of the machine's. -/
namespace Go.Ideal
open Go.RowKit

section
variable {P : Program} {n0 : Nat} {w0 : World} {Φ X : Frozen} {μ : Places} {nt : Nat} {E : Env} {a : Act} {H : Heap} {w : World}

theorem sim_bin {op : BinOp} {t : TypeId} {x' y' : Operand} {x y v : IV} {vx vy : Value} (hx : VR Φ μ x vx) (hy : VR Φ μ y vy) (h : binI op x y = some v) (w : World) :
    ∃ rv, (do eqGuard op t x' y' vx vy; binOp op t vx vy : Sem Value).run P w = .ok rv w ∧ VR Φ μ v rv := by
  unfold binI at h
  split at h
  · rename_i k p k' q
    obtain rfl := hx.int_inv
    obtain rfl := hy.int_inv
    cases op <;> simp only at h <;> (try (split at h <;> try cases h)) <;> (try (split at h <;> try cases h))
    all_goals (try (have hk : k = k' := Decidable.of_not_not (by assumption)))
    all_goals (try subst hk)
    all_goals refine ⟨_, ?_, by first | exact .int _ _ | exact .bool _⟩
    all_goals (simp_all [eqGuard, binOp, Op.intArith, Op.intDiv, Op.intBits, Op.intCmp, Op.shift]; try (intro hneg; omega))
  · rename_i s u
    obtain rfl := hx.str_inv
    obtain rfl := hy.str_inv
    cases op <;> simp only at h <;> (try (split at h <;> try cases h)) <;> (try cases h)
    all_goals refine ⟨_, ?_, by first | exact .str _ | exact .bool _⟩
    all_goals (simp_all [eqGuard, binOp, Op.stringOp]; done)
  · cases h

theorem eqI_slice {x y : IV} {r : Bool} (h : eqI .slice x y = some r) : y = .nilslice ∧ ((x = .nilslice ∧ r = true) ∨ (∃ b o l m e, x = .mslice b o l m e ∧ r = false) ∨ ∃ e es, x = .fslice (e :: es) ∧ r = false) := by
  cases x with
  | nilslice => cases y <;> simp [eqI] at h; exact ⟨rfl, .inl ⟨rfl, h⟩⟩
  | mslice b o l m e => cases y <;> simp [eqI] at h; exact ⟨rfl, .inr (.inl ⟨_, _, _, _, _, rfl, h⟩)⟩
  | fslice es =>
    cases es with
    | nil => cases y <;> simp [eqI] at h
    | cons e es => cases y <;> simp [eqI] at h; exact ⟨rfl, .inr (.inr ⟨_, _, rfl, h⟩)⟩
  | _ => simp [eqI] at h
theorem eqI_func {x y : IV} {r : Bool} (h : eqI .func x y = some r) : (x = .nilfunc ∧ y = .nilfunc ∧ r = true) ∨ (∃ a b c, x = .func a b c ∧ y = .nilfunc ∧ r = false) ∨ ∃ a b c, x = .nilfunc ∧ y = .func a b c ∧ r = false := by
  cases x with
  | nilfunc => cases y <;> simp [eqI] at h; exact .inr (.inr ⟨_, _, _, rfl, rfl, h⟩); exact .inl ⟨rfl, rfl, h⟩
  | func a b c => cases y <;> simp [eqI] at h; exact .inr (.inl ⟨_, _, _, rfl, rfl, h⟩)
  | _ => simp [eqI] at h
theorem eqI_ptr {x y : IV} {r : Bool} (h : eqI .ptr x y = some r) : (x = .nilptr ∧ y = .nilptr ∧ r = true) ∨ (∃ a b c, x = .ptr a b c ∧ y = .nilptr ∧ r = false) ∨ (∃ a b c, x = .nilptr ∧ y = .ptr a b c ∧ r = false) ∨
    ∃ b i o o', x = .ptr b i o ∧ y = .ptr b i o' ∧ r = (o == o') := by
  cases x with
  | nilptr => cases y <;> simp [eqI] at h; exact .inl ⟨rfl, rfl, h⟩; exact .inr (.inr (.inl ⟨_, _, _, rfl, rfl, h⟩))
  | ptr b i o =>
    cases y <;> simp [eqI] at h
    · exact .inr (.inl ⟨_, _, _, rfl, rfl, h⟩)
    · obtain ⟨⟨rfl, rfl⟩, rfl⟩ := h
      exact .inr (.inr (.inr ⟨_, _, _, _, rfl, rfl, rfl⟩))
  | _ => simp [eqI] at h

theorem equal_succ (t : TypeId) (x y : Value) {r : Bool} (h : ∀ d, (Op.equalIn (d + 1) t x y).run P w = .ok r w) : (Op.equal t x y).run P w = .ok r w := h 9999

/-- '==' beside numbers and texts. -/
theorem sim_eq {neg : Bool} {k : EqK} {t : TypeId} {x' y' : Operand} {x y : IV} {vx vy : Value} {r : Bool} (hx : VR Φ μ x vx) (hy : VR Φ μ y vy) (h : eqI k x y = some r)
    (ht : (k = .bool ∧ P.underlying t = some .bool) ∨ (k = .slice ∧ ∃ e, P.underlying t = some (.slice e)) ∨ (k = .func ∧ ∃ a b c, P.underlying t = some (.func a b c)) ∨
      (k = .ptr ∧ ∃ el n, P.underlying t = some (.pointer el) ∧ Program.sizeT P el = some (n + 1)) ∨ (∃ ks fs, k = .agg ks ∧ P.underlying t = some (.struct fs) ∧ kindsOf P 100 t = some ks ∧ P.eqGuardType P.depth t = false)) (w : World) :
    (do eqGuard (if neg then .neq else .eql) t x' y' vx vy; binOp (if neg then .neq else .eql) t vx vy : Sem Value).run P w = .ok (.bool (if neg then !r else r)) w := by
  have fin : ∀ (hg : ∀ op, (eqGuard op t x' y' vx vy).run P w = .ok () w) (he : (Op.equal t vx vy).run P w = .ok r w) (h1 : binOp .eql t vx vy = (do pure (.bool (← Op.equal t vx vy)))) (h2 : binOp .neq t vx vy = (do pure (.bool !(← Op.equal t vx vy)))),
      (do eqGuard (if neg then .neq else .eql) t x' y' vx vy; binOp (if neg then .neq else .eql) t vx vy : Sem Value).run P w = .ok (.bool (if neg then !r else r)) w := by
    intro hg he h1 h2
    cases neg <;> simp [hg, h1, h2, he]
  have g0 : ∀ {vx vy : Value}, (∀ cs, vx ≠ .agg cs) → (vx ≠ .nilIface) → ∀ op, (eqGuard op t x' y' vx vy).run P w = .ok () w := by
    intro vx vy h1 h2 op
    unfold eqGuard
    by_cases ho : op = .eql ∨ op = .neq
    · rcases ho with rfl | rfl <;> cases vx <;> first
        | exact absurd rfl h2
        | exact absurd rfl (h1 _)
        | rfl
    · cases op <;> first | rfl | simp at ho
  rcases ht with ⟨rfl, hu⟩ | ⟨rfl, e, hu⟩ | ⟨rfl, a1, a2, a3, hu⟩ | ⟨rfl, el, n, hu, hn⟩ | ⟨ks, fs, rfl, hu, hk, hg⟩
  · cases x <;> cases y <;> simp [eqI] at h
    obtain rfl := hx.bool_inv
    obtain rfl := hy.bool_inv
    subst h
    exact fin (g0 (by simp) (by simp)) (run_equal_bool w t _ _ hu) rfl rfl
  · obtain ⟨hy0, h'⟩ := eqI_slice h
    clear h
    subst hy0
    cases hy
    rcases h' with ⟨rfl, rfl⟩ | ⟨b, o, l, m, e, rfl, rfl⟩ | ⟨e, es, rfl, rfl⟩
    · cases hx
      exact fin (g0 (by simp) (by simp)) (equal_succ _ _ _ fun d => by simp [Op.equalIn, run_underlying' hu]) rfl rfl
    · cases hx
      exact fin (g0 (by simp) (by simp)) (equal_succ _ _ _ fun d => by simp [Op.equalIn, run_underlying' hu]) rfl rfl
    · cases hx
      exact fin (g0 (by simp) (by simp)) (equal_succ _ _ _ fun d => by simp [Op.equalIn, run_underlying' hu]) rfl rfl
  · rcases eqI_func h with ⟨rfl, rfl, rfl⟩ | ⟨a, b, c, rfl, rfl, rfl⟩ | ⟨a, b, c, rfl, rfl, rfl⟩
    all_goals (cases hx; cases hy)
    all_goals exact fin (g0 (by simp) (by simp)) (equal_succ _ _ _ fun d => by simp [Op.equalIn, run_underlying' hu]) rfl rfl
  · have hne : ∀ w', (sizeOf el).run P w' = .ok (n + 1) w' := fun w' => run_sizeOf' hn w'
    rcases eqI_ptr h with ⟨rfl, rfl, rfl⟩ | ⟨a, b, c, rfl, rfl, rfl⟩ | ⟨a, b, c, rfl, rfl, rfl⟩ | ⟨b, i, o, o', rfl, rfl, rfl⟩
    · cases hx; cases hy
      exact fin (g0 (by simp) (by simp)) (equal_succ _ _ _ fun d => by simp [Op.equalIn, run_underlying' hu]) rfl rfl
    · cases hx; cases hy
      exact fin (g0 (by simp) (by simp)) (equal_succ _ _ _ fun d => by simp [Op.equalIn, run_underlying' hu]) rfl rfl
    · cases hx; cases hy
      exact fin (g0 (by simp) (by simp)) (equal_succ _ _ _ fun d => by simp [Op.equalIn, run_underlying' hu]) rfl rfl
    · cases hx with
      | ptr _ _ _ L hL =>
        cases hy with
        | ptr _ _ _ L' hL' =>
          rw [hL] at hL'
          obtain rfl := Option.some.inj hL'
          refine fin (g0 (by simp) (by simp)) (equal_succ _ _ _ fun d => ?_) rfl rfl
          have : ((⟨L.rb, L.ro + i * L.sz + o, none⟩ : Addr) == ⟨L.rb, L.ro + i * L.sz + o', none⟩) = (o == o') := by
            by_cases e : o = o'
            · simp [e]
            · rw [beq_eq_false_iff_ne.mpr e, beq_eq_false_iff_ne]
              intro q
              injection q with q1 q2
              exact e (by omega)
          simp [Op.equalIn, run_underlying' hu, hne, sameAddr, this]
  · cases x <;> cases y <;> simp [eqI] at h
    rename_i cx cy
    have hag : Program.isAggT P t = some true := by simp [Program.isAggT, hu, isAggD]
    cases hx with
    | agg _ ax h1 h2 =>
      cases hy with
      | agg _ ay h3 h4 =>
        refine fin (fun op => ?_) ?_ rfl rfl
        · cases op <;> first | rfl | simp [eqGuard, hg]
        · exact equal_plain 100 t ks hk 10000 (by omega) cx cy _ _ r (.inl ⟨hag, ax, rfl, h1, h2⟩) (.inl ⟨hag, ay, rfl, h3, h4⟩) h w

end
end Go.Ideal

/- An ideal machine for Go code. Part 12: slices that are made and appended to. -/
namespace Go.Ideal
open Go.RowKit

section
variable {P : Program} {n0 : Nat} {w0 : World} {Φ X : Frozen} {μ : Places} {nt : Nat} {E : Env} {a : Act} {H : Heap} {w : World}

/-- What an operation leaves. -/
def Left (P : Program) (n0 : Nat) (w0 : World) (Φ X : Frozen) (μ : Places) (H' : Heap) (v : IV) (w : World) (s : Sem Next) : Prop :=
  ∃ rv w' μ', (s.run P w = .ok (.value rv) w' ∨ (s.run P w = .ok .skip w' ∧ rv = undef)) ∧ WR n0 w0 Φ X μ' H' w' ∧ VR Φ μ' v rv ∧ ∀ c M, μ c = some M → μ' c = some M

theorem Left.pure {v : IV} {rv : Value} {s : Sem Value} (hW : WR n0 w0 Φ X μ H w) (h : s.run P w = .ok rv w) (hv : VR Φ μ v rv) : Left P n0 w0 Φ X μ H v w (do pure (.value (← s))) :=
  ⟨rv, w, μ, .inl (by simp [h]), hW, hv, fun _ _ h => h⟩

theorem map_range0 (f : Nat → Value) : (Array.range 0).map f = #[] := by apply Array.ext <;> simp

theorem mslice_new {b n cap m : Nat} {ex : Bool} {sz : Nat} (hn : n ≤ cap) (hex : ex = true → n = cap) (hm : cap * sz ≤ m) (μ : Places) (rb : Nat) :
    VR Φ (μ.put b ⟨rb, 0, sz, m⟩) (.mslice b 0 n n ex) (.slice (some ⟨rb, 0, none⟩) n cap) := by
  have := VR.mslice (Φ := Φ) b 0 n n ex _ cap (Places.put_same μ b ⟨rb, 0, sz, m⟩) hn hn hex (by simpa using hm)
  simpa using this

theorem sim_buildSlice (hW : WR n0 w0 Φ X μ H w) (hA : AR Φ μ nt E a) {t elem : TypeId} {len n : Nat} {parts : Array (Nat × Operand)} {z : List Cst} {qs : List (Nat × Opd)} {b : Nat} {es : Els} (hu : P.underlying t = some (.slice elem))
    (hn : Program.sizeT P elem = some n) (hz : Program.zeroI P elem = some z) (hp : partsE parts.toList = some qs) (hzn : z.length = n) (hbig : len * n ≤ 2 ^ 24) (hb : H b = .free)
    (hf : fillE z.length (List.replicate len (z.map Cst.iv)) (qs.map fun p => (p.1, p.2.ev E)) = some es) :
    Left P n0 w0 Φ X μ (H.set b (.live z.length es)) (.mslice b 0 len len true) w (do pure (.value (← Instr.buildSlice t len (parts.map fun (i, x) => (i, a.eval x))))) := by
  obtain ⟨zv, hz1, hz2⟩ := zeroI_run hz
  have e : (parts.map fun (i, x) => (i, a.eval x)).toList = parts.toList.map fun (i, x) => (i, a.eval x) := by simp
  have hlen : es.length = len := by
    have : ∀ (n : Nat) (l : List (Nat × IV)) (els ds : Els), fillE n els l = some ds → ds.length = els.length := by
      intro n l
      induction l with
      | nil => intro els ds h; simp [fillE] at h; rw [h]
      | cons p l ih =>
        intro els ds h
        obtain ⟨i, v⟩ := p
        simp only [fillE] at h
        split at h
        · cases h
        · split at h
          · have := ih _ _ h; simpa using this
          · cases h
    have := this _ _ _ _ hf
    simpa using this
  rw [hzn] at hf ⊢
  obtain ⟨us, h1, h2⟩ := sim_fillE hA hp (FR.replicate (n := n) (hz2 Φ μ) (by rw [List.length_map]; exact hzn) len) hf
  have hl := hW.lay hb h2 #[] elem
  simp only [Array.append_empty] at hl
  have hsz : us.size = len * n := by rw [h2.size, hlen]
  refine ⟨.slice (some ⟨w.heap.size, 0, none⟩) len len, _, _, .inl ?_, hl, mslice_new (Nat.le_refl _) (fun _ => rfl) (by omega) μ _, Places.put_le (hW.named_of hb)⟩
  generalize hps : (parts.map fun (i, x) => (i, a.eval x)) = ps at e ⊢
  rw [← e] at h1
  by_cases h0 : len * n = 0
  · have h1'' : Instr.fill (fun i => some (i * n, n)) ((Array.range 0).map ((#[] : Array Value)[· % (#[] : Array Value).size]!)) ps.toList = some us := by
      rw [← h1, h0]; simp only [map_range0]
    simp only [Instr.buildSlice, Sem.run_bind, run_underlying' hu, Result.andThen_ok, run_sizeOf' hn, if_neg (show ¬ len * n > 2 ^ 24 by omega), h0, if_true, Sem.run_pure]
    rw [if_neg (by omega)]
    simp only [Sem.run_bind, Sem.run_pure, Result.andThen_ok]
    rw [h1'']
    rfl
  · simp only [Instr.buildSlice, Sem.run_bind, run_underlying' hu, Result.andThen_ok, run_sizeOf' hn, if_neg (show ¬ len * n > 2 ^ 24 by omega), if_neg h0, Sem.run_pure, hz1 w]
    rw [h1]
    rfl

theorem wrap_nat {n : Nat} (h : n < 2 ^ 40) : IntKind.i64.wrap (n : Int) = n := by
  unfold IntKind.wrap
  simp [IntKind.signed, IntKind.bits]
  omega

theorem sim_makeSlice (hW : WR n0 w0 Φ X μ H w) {t elem : TypeId} {i : TypeInfo} {z : List Cst} {b : Nat} {kl kc : IntKind} {nl nc : Nat} {vl vc : Value} (hu : P.underlying t = some (.slice elem)) (hi : P.info? elem = some i) (hz : Program.zeroI P elem = some z)
    (hzn : z.length = i.size) (hb : H b = .free) (hl : VR Φ μ (.int kl nl) vl) (hc : VR Φ μ (.int kc nc) vc) (hle : nl ≤ nc) (hn : nc < 2 ^ 40) (hbig : i.bytes * nc ≤ 2 ^ 46) :
    Left P n0 w0 Φ X μ (H.set b (.live z.length (List.replicate nc (z.map Cst.iv)))) (.mslice b 0 nl nc true) w (do pure (.value (← Instr.makeSlice t vl vc))) := by
  obtain rfl := hl.int_inv
  obtain rfl := hc.int_inv
  obtain ⟨zv, hz1, hz2⟩ := zeroI_run hz
  have hF := FR.replicate (n := i.size) (hz2 Φ μ) (by rw [List.length_map]; exact hzn) nc
  have hlay := hW.lay hb (hzn ▸ hF) #[] elem
  simp only [Array.append_empty] at hlay
  have w1 := wrap_nat (n := nl) (by omega)
  have w2 := wrap_nat hn
  have hsi : Program.sizeT P elem = some i.size := by simp [Program.sizeT, hi]
  have hb2 : ((i.bytes : Int) * nc ≤ 2 ^ 46) := by exact_mod_cast hbig
  refine ⟨.slice (some ⟨w.heap.size, 0, none⟩) nl nc, _, _, .inl ?_, hlay, ?_, Places.put_le (hW.named_of hb)⟩
  · have hc1 : ¬ ((decide ((nc : Int) < 0) || decide ((i.bytes : Int) * nc > 2 ^ 48) || decide ((nl : Int) < 0) || decide ((nl : Int) > nc)) = true) := by
      simp only [Bool.or_eq_true, decide_eq_true_eq, not_or]
      refine ⟨⟨⟨by omega, by omega⟩, by omega⟩, by omega⟩
    simp only [Instr.makeSlice, Sem.run_bind, run_underlying' hu, Result.andThen_ok, asInt, asIntOf, Sem.run_pure, typeInfo, run_program, hi, w1, w2]
    rw [if_neg hc1]
    simp only [Sem.run_bind, run_askRoom, Result.andThen_ok, run_sizeOf' hsi, Int.toNat_natCast]
    by_cases h0 : nc * i.size = 0
    · have e0 : nc * z.length = 0 := by rw [hzn]; exact h0
      simp only [h0, e0, if_true, Sem.run_bind, Sem.run_pure, Result.andThen_ok, map_range0]
      rfl
    · simp only [hzn, if_neg h0, Sem.run_bind, hz1 w, Sem.run_pure, Result.andThen_ok]
      rfl
  · have := VR.mslice (Φ := Φ) b 0 nl nc true _ nc (Places.put_same μ b ⟨w.heap.size, 0, z.length, ((Array.range (nc * i.size)).map (zv.cells[· % zv.cells.size]!)).size⟩) hle (Nat.le_refl _) (fun _ => rfl) (by simp [hzn])
    simpa [hzn] using this

end
end Go.Ideal

/- An ideal machine for Go code. Part 13: append, store. -/
namespace Go.Ideal
open Go.RowKit

section
variable {P : Program} {n0 : Nat} {w0 : World} {Φ X : Frozen} {μ : Places} {nt : Nat} {E : Env} {a : Act} {H : Heap} {w : World}

theorem growBy_le (n : Nat) : ∀ (r c : Nat), c < n → Builtin.growBy n r c ≤ n + (n + 768) / 4 := by
  intro r
  induction r with
  | zero => intro c h; simp only [Builtin.growBy]; omega
  | succ r ih =>
    intro c h
    simp only [Builtin.growBy]
    split
    · omega
    · by_cases q : c + (c + 768) / 4 < n
      · exact ih _ q
      · have : Builtin.growBy n r (c + (c + 768) / 4) = c + (c + 768) / 4 := by
          cases r with
          | zero => rfl
          | succ r => simp only [Builtin.growBy]; rw [if_pos (by omega)]
        rw [this]; omega

theorem nextslicecap_le {n c : Nat} (h : c < n) : Builtin.nextslicecap n c ≤ 2 * n + 1000 := by
  unfold Builtin.nextslicecap
  split
  · omega
  · split
    · omega
    · have := growBy_le n 4 c h; omega

theorem zeroI_info {t : TypeId} {z : List Cst} {i : TypeInfo} (h : Program.zeroI P t = some z) (hi : P.info? t = some i) : ∃ v : Value, i.zero = some v ∧ ∀ Φ μ, PW Φ μ (z.map Cst.iv) v.cells := by
  simp only [Program.zeroI, Option.bind_eq_some_iff] at h
  obtain ⟨v, ⟨i', hi', hv⟩, hx⟩ := h
  rw [hi] at hi'
  obtain rfl := Option.some.inj hi'
  exact ⟨v, hv, fun Φ μ => constI_pw hx⟩

theorem els_one {n : Nat} {es : Els} {arr : Array Value} (hF : FR Φ μ n es arr) (hok : ∀ e ∈ es, ∀ c ∈ e, IV.cellOk c = true) : ∀ u ∈ arr.toList, u.oneCell' = true := by
  intro u hu
  obtain ⟨j, hj, rfl⟩ := List.getElem_of_mem hu
  simp only [Array.length_toList, hF.size] at hj
  have hn0 : 0 < n := by
    rcases Nat.eq_zero_or_pos n with q | q
    · subst q; simp at hj
    · exact q
  have h1 : j / n < es.length := (Nat.div_lt_iff_lt_mul hn0).mpr hj
  have h2 : j % n < es[j / n].length := by rw [hF.len _ (List.getElem_mem h1)]; exact Nat.mod_lt _ hn0
  obtain ⟨v, e1, e2⟩ := hF.val (j / n) (j % n) h1 h2
  rw [Nat.mul_comm, Nat.div_add_mod, Array.getElem?_eq_getElem (by rw [hF.size]; exact hj)] at e1
  have := e2.oneCell (hok _ (List.getElem_mem h1) _ (List.getElem_mem h2))
  rw [← Option.some.inj e1] at this
  simpa using this

/-- What is appended. -/
theorem els_src (hW : WR n0 w0 Φ X μ H w) {x : IV} {v : Value} (hx : VR Φ μ x v) {es : Els} (h : elsOf H x = some es) {n : Nat} (hn : ∀ e ∈ es, e.length = n) (hok : ∀ e ∈ es, ∀ c ∈ e, IV.cellOk c = true) {tx : TypeId}
    (hk : (∃ e', P.underlying tx = some (.slice e')) ∨ P.underlying tx = some .string) : ∃ arr : Array Value, Src P n tx v es.length arr.toList w ∧ FR Φ μ n es arr := by
  obtain ⟨h1, arr, h2, h3⟩ := sim_els (P := P) hW hx h hn
  exact ⟨arr, ⟨hk, h1, h2 w.drawn, h2 (w.drawn + 1), by simp [h3.size], els_one h3 hok⟩, h3⟩

theorem big_ok {n m b : Nat} (h1 : b ≤ 2 ^ 20) (h2 : (n + m) * (b + 1) ≤ 2 ^ 40) {c : Nat} (hc : c < n + m) : (((n + m : Nat) : Int) ≤ 9223372036854775807) ∧ Builtin.nextslicecap (n + m) c * b ≤ 281474976710656 := by
  have h3 : (n + m) * 1 ≤ (n + m) * (b + 1) := Nat.mul_le_mul_left _ (by omega)
  have h4 := Nat.mul_le_mul_right b (nextslicecap_le hc)
  have h5 : (2 * (n + m) + 1000) * b = 2 * ((n + m) * b) + 1000 * b := by rw [Nat.add_mul, Nat.mul_assoc]
  have h6 : (n + m) * b ≤ (n + m) * (b + 1) := Nat.mul_le_mul_left _ (by omega)
  constructor <;> omega

/-- Anew: what was there, and what is appended. -/
theorem sim_anew (hW : WR n0 w0 Φ X μ H w) {t tx ty elem : TypeId} {i : TypeInfo} {z : List Cst} (hu : P.underlying t = some (.slice elem)) (hi : P.info? elem = some i) (hz : Program.zeroI P elem = some z) (hzn : z.length = i.size) (hb1 : i.bytes ≤ 2 ^ 20)
    {b' : Nat} (hb : H b' = .free) {base : Option Addr} {sLen sCap : Nat} {es es' : Els} {s x : IV} {vx : Value} (hs : VR Φ μ s (.slice base sLen sCap)) (hse : elsOf H s = some es) (hsl : es.length = sLen) (hsz : ∀ e ∈ es, e.length = z.length)
    (hx : VR Φ μ x vx) (hxe : elsOf H x = some es') (hxz : ∀ e ∈ es', e.length = z.length) (hok : ∀ e ∈ es', ∀ c ∈ e, IV.cellOk c = true) (hk : (∃ e', P.underlying tx = some (.slice e')) ∨ P.underlying tx = some .string)
    (hg : sCap < sLen + es'.length) (hbig : (sLen + es'.length) * (i.bytes + 1) ≤ 2 ^ 40) :
    Left P n0 w0 Φ X μ (H.set b' (.live z.length (es ++ es'))) (.mslice b' 0 (sLen + es'.length) (sLen + es'.length) false) w (do pure (.value (← Builtin.append_ #[t, tx] ty #[.slice base sLen sCap, vx]))) := by
  obtain ⟨zv, hzv, hz2⟩ := zeroI_info hz hi
  obtain ⟨_, olds, ho1, ho2⟩ := sim_els (P := P) hW hs hse hsz
  rw [hsl] at ho1
  obtain ⟨news, hn1, hn2⟩ := els_src hW hx hxe hxz hok hk
  have hbb := big_ok hb1 hbig hg
  rw [hzn] at ho1 hn1
  have hrun := run_append_grow_src w t tx ty elem i zv hu hi hzv base sLen sCap olds.toList (ho1 (w.drawn + 1)) vx es'.length news.toList hn1 hg hbb.1 hbb.2
  have hF := ho2.append hn2
  have e : (olds.toList ++ news.toList).toArray = olds ++ news := by simp
  rw [e] at hrun
  have hlay := (hW.drew).lay hb hF (Builtin.zeroCells zv.cells (grownCap w (sLen + es'.length) sCap elem - (sLen + es'.length))) elem
  have hge := grownCap_ge w (sLen + es'.length) sCap elem
  have hzs : zv.cells.size = z.length := by rw [← (hz2 Φ μ).1, List.length_map]
  refine ⟨_, _, _, .inl (by simp [hrun]), hlay, mslice_new hge (fun q => by cases q) ?_ μ _, Places.put_le (hW.named_of hb)⟩
  have h1 := hF.size
  have h2 : (olds ++ news ++ Builtin.zeroCells zv.cells (grownCap w (sLen + es'.length) sCap elem - (sLen + es'.length))).size = (es ++ es').length * z.length + (grownCap w (sLen + es'.length) sCap elem - (sLen + es'.length)) * z.length := by
    rw [Array.size_append, h1]
    simp [Builtin.zeroCells, hzs]
  rw [h2, ← Nat.add_mul]
  apply Nat.mul_le_mul_right
  simp only [List.length_append, hsl]
  omega

/-- So many zeros, onto nothing. -/
theorem run_append_zeros {P : Program} (w : World) (t tx ty elem : TypeId) (i : TypeInfo) (z : Value) (kk kn : IntKind) (hu : P.underlying t = some (.slice elem)) (hk : P.underlying tx = some (.int kk)) (hi : P.info? elem = some i) (hz : i.zero = some z) (n : Nat) (hn : 0 < n) (hs : 0 < i.size) (h40 : n < 2 ^ 40)
    (hby : (n : Int) * (i.bytes : Int) ≤ 281474976710656) (hfit : Builtin.nextslicecap n 0 * i.bytes ≤ 281474976710656) :
    (Builtin.append_ #[t, tx] ty #[.slice none 0 0, .int kn n]).run P w = .ok (.slice (some ⟨w.heap.size, 0, none⟩) n (grownCap w n 0 elem)) (w.drew.alloc (.cells (Builtin.zeroCells z.cells n ++ Builtin.zeroCells z.cells (grownCap w n 0 elem - n)) elem)) := by
  have w1 := wrap_nat h40
  have h0 : ¬ ((n : Int) < 0) := by omega
  have h1 : ¬ (281474976710656 < (n : Int) * (i.bytes : Int)) := by omega
  have h3 : ¬ (n = 0) := by omega
  have h4 : ¬ (9223372036854775807 < (n : Int)) := by omega
  have h5 : ¬ (281474976710656 < Builtin.nextslicecap n 0 * i.bytes) := by omega
  simp [Builtin.append_, run_underlying hu, run_underlying hk, sizeOf, typeInfo, zeroValue, hi, hz, asInt, asIntOf, w1, h0, h1, h3, h4, h5, Question.forced, newRow, grownCap, Builtin.firstCells]
  exact fun q => absurd q (Nat.ne_of_gt (Nat.mul_pos hn hs))
theorem sim_appendZ (hW : WR n0 w0 Φ X μ H w) {t tx ty elem : TypeId} {i : TypeInfo} {z : List Cst} {kk : IntKind} (hu : P.underlying t = some (.slice elem)) (hk : P.underlying tx = some (.int kk)) (hi : P.info? elem = some i) (hz : Program.zeroI P elem = some z) (hzn : z.length = i.size) (hs0 : 0 < i.size) (hb1 : i.bytes ≤ 2 ^ 20)
    {b : Nat} (hb : H b = .free) {kn : IntKind} {n : Nat} {vs vx : Value} (hs : VR Φ μ .nilslice vs) (hx : VR Φ μ (.int kn n) vx) (hn : 0 < n) (hbig : n * (i.bytes + 1) < 2 ^ 40) :
    Left P n0 w0 Φ X μ (H.set b (.live z.length (List.replicate n (z.map Cst.iv)))) (.mslice b 0 n n false) w (do pure (.value (← Builtin.append_ #[t, tx] ty #[vs, vx]))) := by
  obtain rfl := hx.int_inv
  cases hs
  obtain ⟨zv, hzv, hz2⟩ := zeroI_info hz hi
  have hbb := big_ok (n := 0) (m := n) hb1 (by rw [Nat.zero_add]; exact Nat.le_of_lt hbig) (c := 0) (by omega)
  rw [Nat.zero_add] at hbb
  have hby : n * i.bytes ≤ 2 ^ 40 := Nat.le_trans (Nat.mul_le_mul_left _ (by omega)) (Nat.le_of_lt hbig)
  have h40 : n < 2 ^ 40 := Nat.lt_of_le_of_lt (Nat.le_mul_of_pos_right n (by omega)) hbig
  have hby2 : (n : Int) * (i.bytes : Int) ≤ 281474976710656 := by
    have : ((n * i.bytes : Nat) : Int) ≤ 2 ^ 40 := by exact_mod_cast hby
    rw [Int.natCast_mul] at this
    omega
  have hrun := run_append_zeros w t tx ty elem i zv kk kn hu hk hi hzv n hn hs0 h40 hby2 hbb.2
  have hF := FR.replicate (n := i.size) (hz2 Φ μ) (by rw [List.length_map]; exact hzn) n
  have hzs : zv.cells.size = z.length := by rw [← (hz2 Φ μ).1, List.length_map]
  have e0 : (Array.range (n * i.size)).map (zv.cells[· % zv.cells.size]!) = Builtin.zeroCells zv.cells n := by
    unfold Builtin.zeroCells
    rw [hzs, hzn]
  rw [e0] at hF
  have hlay := (hW.drew).lay hb (hzn ▸ hF) (Builtin.zeroCells zv.cells (grownCap w n 0 elem - n)) elem
  have hge := grownCap_ge w n 0 elem
  refine ⟨_, _, _, .inl (by simp [hrun]), hlay, mslice_new hge (fun q => by cases q) ?_ μ _, Places.put_le (hW.named_of hb)⟩
  have h2 : (Builtin.zeroCells zv.cells n ++ Builtin.zeroCells zv.cells (grownCap w n 0 elem - n)).size = n * z.length + (grownCap w n 0 elem - n) * z.length := by
    simp [Builtin.zeroCells, hzs]
  rw [h2, ← Nat.add_mul]
  apply Nat.mul_le_mul_right
  omega

/-- Nothing is appended. -/
theorem sim_append0 (hW : WR n0 w0 Φ X μ H w) {t tx ty elem : TypeId} {i : TypeInfo} (hu : P.underlying t = some (.slice elem)) (hi : P.info? elem = some i) {s x : IV} {vs vx : Value} (hs : VR Φ μ s vs) (hss : s.isSlice = true)
    (hx : VR Φ μ x vx) (hxe : elsOf H x = some []) (hk : (∃ e', P.underlying tx = some (.slice e')) ∨ P.underlying tx = some .string) :
    Left P n0 w0 Φ X μ H s w (do pure (.value (← Builtin.append_ #[t, tx] ty #[vs, vx]))) := by
  obtain ⟨arr, h1, h2⟩ := els_src (n := i.size) hW hx hxe (fun e he => by cases he) (fun e he => by cases he) hk
  have h3 : arr.toList = [] := by
    have := h2.size
    simp at this
    simp [this]
  rw [h3] at h1
  cases hs with
  | nilslice => exact Left.pure hW (run_append_nothing w t tx ty elem i hu hi none 0 0 (Nat.le_refl _) vx h1) .nilslice
  | eslice ad => exact Left.pure hW (run_append_nothing w t tx ty elem i hu hi ad 0 0 (Nat.le_refl _) vx h1) (.eslice _)
  | fnil ad => exact Left.pure hW (run_append_nothing w t tx ty elem i hu hi ad 0 0 (Nat.le_refl _) vx h1) (.fnil _)
  | fslice es sz rb ro cap vs hs hc hf hv => exact Left.pure hW (run_append_nothing w t tx ty elem i hu hi _ _ cap hc vx h1) (.fslice es sz rb ro cap vs hs hc hf hv)
  | mslice b off len lb ex L cap h hl hlb hex he => exact Left.pure hW (run_append_nothing w t tx ty elem i hu hi _ len cap hl vx h1) (.mslice b off len lb ex L cap h hl hlb hex he)
  | _ => simp [IV.isSlice] at hss

/-- In place. -/
theorem run_inplace (hW : WR n0 w0 Φ X μ H w) {t tx ty elem : TypeId} {i : TypeInfo} (hu : P.underlying t = some (.slice elem)) (hi : P.info? elem = some i) {b off len cap : Nat} {es : Els} {L : Loc} (hH : H b = .live i.size es) (hL : μ b = some L)
    (hroom : (off + cap) * i.size ≤ L.ext) {es' : Els} {vx : Value} {news : Array Value} (hs : Src P i.size tx vx es'.length news.toList w) (hn : news.size = es'.length * i.size) (hle : len + es'.length ≤ cap) :
    (Builtin.append_ #[t, tx] ty #[.slice (some ⟨L.rb, L.ro + off * i.size, none⟩) len cap, vx]).run P w = .ok (.slice (some ⟨L.rb, L.ro + off * i.size, none⟩) (len + es'.length) cap) (w.setCells L.rb (L.ro + (off + len) * i.size) news.toList) := by
  have h0 := hW.sz b _ es L hH hL
  have hext : (off + len) * i.size + es'.length * i.size ≤ L.ext := by
    rw [← Nat.add_mul]
    exact Nat.le_trans (Nat.mul_le_mul_right _ (by omega)) hroom
  have := run_append_room_src w t tx ty elem i hu hi L.rb (L.ro + off * i.size) len cap vx es'.length news.toList hs hle (fun j hj => by
    obtain ⟨v, hv⟩ := hW.cell b _ es L hH hL ((off + len) * i.size + j) (by simp at hj; omega)
    rw [show L.ro + off * i.size + len * i.size + j = L.ro + ((off + len) * i.size + j) by rw [Nat.add_mul]; omega, hv]; rfl) (fun j hj => hW.nofr _ _ h0.2.1)
  rw [this, show L.ro + off * i.size + len * i.size = L.ro + (off + len) * i.size by rw [Nat.add_mul]; omega]

/-- Elements laid over others, in place. -/
theorem WR.over (hW : WR n0 w0 Φ X μ H w) {b sz : Nat} {es es' : Els} {L : Loc} (hH : H b = .live sz es) (hL : μ b = some L) {o : Nat} (ho : o ≤ es.length) {news : Array Value} (hF : FR Φ μ sz es' news) (hext : (o + es'.length) * sz ≤ L.ext) :
    WR n0 w0 Φ X μ (H.set b (.live sz (es.take o ++ es' ++ es.drop (o + es'.length)))) (w.setCells L.rb (L.ro + o * sz) news.toList) := by
  obtain ⟨s1, s2, s3, s4, s5⟩ := hW.sz b sz es L hH hL
  have hnl : news.toList.length = es'.length * sz := by simp [hF.size]
  refine hW.write hH hL (by rw [hnl, ← Nat.add_mul]; exact hext) (fun e he => ?_) ?_ (fun i j hi hj => ?_)
  · simp only [List.mem_append] at he
    rcases he with (he | he) | he
    · exact s4 e (List.mem_of_mem_take he)
    · exact hF.len e he
    · exact s4 e (List.mem_of_mem_drop he)
  · have : (es.take o ++ es' ++ es.drop (o + es'.length)).length ≤ max es.length (o + es'.length) := by simp; omega
    refine Nat.le_trans (Nat.mul_le_mul_right _ this) ?_
    rcases Nat.le_total es.length (o + es'.length) with q | q
    · rw [Nat.max_eq_right q]; exact hext
    · rw [Nat.max_eq_left q]; exact s5
  · have hjs : j < sz := by
      have : ((es.take o ++ es' ++ es.drop (o + es'.length))[i]).length = sz := by
        rcases Nat.lt_or_ge i o with q | q
        · simp only [List.append_assoc]
          rw [List.getElem_append_left (by simp; omega)]
          simp only [List.getElem_take]
          exact s4 _ (List.getElem_mem _)
        · rcases Nat.lt_or_ge i (o + es'.length) with q2 | q2
          · rw [List.getElem_append_left (by simp; omega), List.getElem_append_right (by simp; omega)]
            exact hF.len _ (List.getElem_mem _)
          · rw [List.getElem_append_right (by simp; omega)]
            simp only [List.getElem_drop]
            exact s4 _ (List.getElem_mem _)
      omega
    rcases Nat.lt_or_ge i o with q | q
    · right
      refine ⟨.inl ?_, by omega, ?_⟩
      · exact flat_lt q hjs
      · simp only [List.append_assoc] at hj ⊢
        have : (es.take o ++ (es' ++ es.drop (o + es'.length)))[i]'(by simpa using hi) = es[i]'(by omega) := by
          rw [List.getElem_append_left (by simp; omega)]; simp
        refine ⟨by rw [s4 _ (List.getElem_mem _)]; exact hjs, ?_⟩
        simp only [this]
    · rcases Nat.lt_or_ge i (o + es'.length) with q2 | q2
      · left
        have hq : i - o < es'.length := by omega
        have e0 : (es.take o ++ es' ++ es.drop (o + es'.length))[i] = es'[i - o] := by
          rw [List.getElem_append_left (by simp; omega), List.getElem_append_right (by simp; omega)]
          congr 1
          simp; omega
        have hj2 : j < es'[i - o].length := by rw [hF.len _ (List.getElem_mem hq)]; exact hjs
        obtain ⟨v, e1, e2⟩ := hF.val (i - o) j hq hj2
        have e3 : o * sz + (i - o) * sz = i * sz := by rw [← Nat.add_mul]; congr 1; omega
        have e4 := flat_lt hq hjs
        refine ⟨by omega, by rw [hnl]; omega, v, ?_, ?_⟩
        · rw [show i * sz + j - o * sz = (i - o) * sz + j by omega, Array.getElem?_toList]; exact e1
        · simp only [e0]; exact e2
      · right
        have hi2 : i < es.length := by simp at hi; omega
        have e0 : (es.take o ++ es' ++ es.drop (o + es'.length))[i] = es[i] := by
          rw [List.getElem_append_right (by simp; omega)]
          simp only [List.getElem_drop]
          congr 1
          simp; omega
        refine ⟨.inr ?_, hi2, by rw [s4 _ (List.getElem_mem _)]; exact hjs, by simp only [e0]⟩
        have : (o + es'.length) * sz ≤ i * sz := Nat.mul_le_mul_right _ q2
        rw [Nat.add_mul] at this
        omega

end
end Go.Ideal
