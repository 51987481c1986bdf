/- The abstract values of the walk, and when a machine's value is one of them. -/
import Derived.Calls
import Derived.Laws.World
import Derived.Laws.Sem
import Derived.Laws.Cells
import Derived.Orders
import Derived.Laws.AppendOwn
import Derived.Laws.OwnMore
import Derived.Laws.CopyRow
import Derived.Laws.BitsLemmas
set_option linter.unusedSimpArgs false
set_option linter.unusedVariables false
set_option linter.unusedSectionVars false
namespace Go.Pl

/-- Abstract values: 'sl' is a slice that nobody writes; 'gr' one whose holder may append to it; 'ro' an address whose cells nobody writes; 'ref' an address in a box. -/
inductive V where
  | any
  | bool (b : Bool)
  | int (k : IntKind) (n : Int)
  | str (s : List UInt8)
  | nilp
  | ref (i k off : Nat)
  | ro (x : V)
  | sl (nl : Bool) (sz : Nat) (xs : List V)
  | gr (e : Nat) (nl : Bool) (sz : Nat) (xs : List V)
  | agg (cs : List V)
  | tup (cs : List V)
  | fn (f : Nat) (caps : List V)
  | nilfn
  | iface (t : Nat) (x : V)
  | niliface
  deriving Inhabited

def V.cells : V → List V
  | .agg cs => cs
  | x => [x]

def V.plain : V → V
  | .gr _ nl sz xs => .sl nl sz xs
  | x => x

def V.isGr : V → Bool
  | .gr _ _ _ _ => true
  | _ => false

/-- What is known of the memory: the cells that nobody writes, and the blocks of the boxes. -/
structure Gh where
  M : Nat → Nat → Option Value
  loc : Nat → Nat → Option Nat
  top : Nat

structure Le (g g' : Gh) : Prop where
  M : ∀ b o v, g.M b o = some v → g'.M b o = some v
  loc : ∀ i k b, g.loc i k = some b → g'.loc i k = some b

theorem Le.refl (g : Gh) : Le g g := ⟨fun _ _ _ h => h, fun _ _ _ h => h⟩
theorem Le.trans {a b c : Gh} (h : Le a b) (k : Le b c) : Le a c := ⟨fun x y z m => k.M x y z (h.M x y z m), fun x y z m => k.loc x y z (h.loc x y z m)⟩

inductive Rep (g : Gh) : V → Value → Prop
  | any (v : Value) : Rep g .any v
  | bool (b : Bool) : Rep g (.bool b) (.bool b)
  | int (k : IntKind) (n : Int) : Rep g (.int k n) (.int k n)
  | str (s : List UInt8) : Rep g (.str s) (.string ⟨s.toArray⟩)
  | nilp : Rep g .nilp (.pointer none)
  | ref (i k off b : Nat) (h : g.loc i k = some b) : Rep g (.ref i k off) (.pointer (some ⟨b, off, none⟩))
  | ro (x : V) (b o : Nat) (c : Nat → Value) (h : ∀ (j : Nat) (y : V), x.cells[j]? = some y → g.M b (o + j) = some (c j))
      (h1 : ∀ (j : Nat) (y : V), x.cells[j]? = some y → (c j).oneCell' = true)
      (hr : ∀ (j : Nat) (y : V), x.cells[j]? = some y → Rep g y (c j)) : Rep g (.ro x) (.pointer (some ⟨b, o, none⟩))
  | slNil (sz : Nat) : Rep g (.sl true sz []) (.slice none 0 0)
  | slE (sz : Nat) (a : Addr) : Rep g (.sl false sz []) (.slice (some a) 0 0)
  | sl (sz : Nat) (xs : List V) (b o cap : Nat) (c : Nat → Nat → Value) (hcap : xs.length ≤ cap) (hsz : ∀ (i : Nat) (x : V), xs[i]? = some x → x.cells.length = sz)
      (h : ∀ (i : Nat) (x : V) (j : Nat) (y : V), xs[i]? = some x → x.cells[j]? = some y → g.M b (o + i * sz + j) = some (c i j))
      (h1 : ∀ (i : Nat) (x : V) (j : Nat) (y : V), xs[i]? = some x → x.cells[j]? = some y → (c i j).oneCell' = true)
      (hr : ∀ (i : Nat) (x : V) (j : Nat) (y : V), xs[i]? = some x → x.cells[j]? = some y → Rep g y (c i j)) : Rep g (.sl false sz xs) (.slice (some ⟨b, o, none⟩) xs.length cap)
  | gr (e : Nat) (nl : Bool) (sz : Nat) (xs : List V) (v : Value) (h : Rep g (.sl nl sz xs) v) : Rep g (.gr e nl sz xs) v
  | agg (cs : List V) (vs : Array Value) (hl : cs.length = vs.size) (h1 : ∀ (j : Nat) (v : Value), vs[j]? = some v → v.oneCell' = true)
      (h : ∀ (j : Nat) (y : V) (v : Value), cs[j]? = some y → vs[j]? = some v → Rep g y v) : Rep g (.agg cs) (.agg vs)
  | tup (cs : List V) (vs : Array Value) (hl : cs.length = vs.size) (h : ∀ (j : Nat) (y : V) (v : Value), cs[j]? = some y → vs[j]? = some v → Rep g y v) : Rep g (.tup cs) (.tuple vs)
  | fn (f : Nat) (cs : List V) (vs : Array Value) (hl : cs.length = vs.size) (h : ∀ (j : Nat) (y : V) (v : Value), cs[j]? = some y → vs[j]? = some v → Rep g y v) :
      Rep g (.fn f cs) (.func (.func f) #[] vs)
  | nilfn : Rep g .nilfn .nilFunc
  | iface (t : Nat) (x : V) (v : Value) (h : Rep g x v) : Rep g (.iface t x) (.iface t v)
  | niliface : Rep g .niliface .nilIface

theorem Rep.mono {g g' : Gh} {x : V} {v : Value} (h : Rep g x v) (hl : Le g g') : Rep g' x v := by
  induction h with
  | any v => exact .any v
  | bool b => exact .bool b
  | int k n => exact .int k n
  | str s => exact .str s
  | nilp => exact .nilp
  | ref i k off b h => exact .ref i k off b (hl.loc _ _ _ h)
  | ro x b o c h h1 _ ih => exact .ro x b o c (fun j y hy => hl.M _ _ _ (h j y hy)) h1 ih
  | slNil sz => exact .slNil sz
  | slE sz a => exact .slE sz a
  | sl sz xs b o cap c hcap hsz h h1 _ ih => exact .sl sz xs b o cap c hcap hsz (fun i x j y hx hy => hl.M _ _ _ (h i x j y hx hy)) h1 ih
  | gr e nl sz xs v _ ih => exact .gr e nl sz xs v ih
  | agg cs vs hl' h1 _ ih => exact .agg cs vs hl' h1 ih
  | tup cs vs hl' _ ih => exact .tup cs vs hl' ih
  | fn f cs vs hl' _ ih => exact .fn f cs vs hl' ih
  | nilfn => exact .nilfn
  | iface t x v _ ih => exact .iface t x v ih
  | niliface => exact .niliface

theorem Rep.toPlain {g : Gh} {x : V} {v : Value} (h : Rep g x v) : Rep g x.plain v := by
  cases h <;> first | assumption | (constructor <;> assumption)

/-- A list of abstract values, an array of the machine's. -/
def Reps (g : Gh) (cs : List V) (vs : Array Value) : Prop := cs.length = vs.size ∧ ∀ (j : Nat) (y : V) (v : Value), cs[j]? = some y → vs[j]? = some v → Rep g y v

theorem Reps.mono {g g' : Gh} {cs : List V} {vs : Array Value} (h : Reps g cs vs) (hl : Le g g') : Reps g' cs vs := ⟨h.1, fun j y v a b => (h.2 j y v a b).mono hl⟩

/-- The same of what stands in cells. -/
def Cells (g : Gh) (cs : List V) (vs : Array Value) : Prop := Reps g cs vs ∧ ∀ (j : Nat) (v : Value), vs[j]? = some v → v.oneCell' = true

theorem Cells.mono {g g' : Gh} {cs : List V} {vs : Array Value} (h : Cells g cs vs) (hl : Le g g') : Cells g' cs vs := ⟨h.1.mono hl, h.2⟩

/-- What may stand in cells. -/
def V.data : V → Bool
  | .any | .tup _ => false
  | _ => true

/-- A machine's value's cells are those of the abstract one. -/
theorem Rep.cells {g : Gh} {x : V} {v : Value} (h : Rep g x v) (hx : x.data = true) : Cells g x.cells v.cells := by
  have one : ∀ (x : V) (v : Value), Rep g x v → x.cells = [x] → v.cells = #[v] → v.oneCell' = true → Cells g x.cells v.cells := by
    intro x v h h1 h2 h3
    rw [h1, h2]
    refine ⟨⟨rfl, fun j y u hy hu => ?_⟩, fun j u hu => ?_⟩
    · cases j with
      | zero => simp at hy hu; subst hy; subst hu; exact h
      | succ j => simp at hy
    · cases j with
      | zero => simp at hu; subst hu; exact h3
      | succ j => simp at hu
  cases h with
  | any => simp [V.data] at hx
  | agg cs vs hl h1 h => exact ⟨⟨hl, h⟩, h1⟩
  | gr e nl sz xs v h =>
    refine one _ _ (.gr e nl sz xs v h) rfl ?_ ?_
    · cases h <;> rfl
    · cases h <;> rfl
  | bool => exact one _ _ (.bool _) rfl rfl rfl
  | int => exact one _ _ (.int _ _) rfl rfl rfl
  | str => exact one _ _ (.str _) rfl rfl rfl
  | nilp => exact one _ _ .nilp rfl rfl rfl
  | ref i k off b h => exact one _ _ (.ref _ _ _ _ h) rfl rfl rfl
  | ro x b o c h h1 hr => exact one _ _ (.ro x b o c h h1 hr) rfl rfl rfl
  | slNil => exact one _ _ (.slNil _) rfl rfl rfl
  | slE => exact one _ _ (.slE _ _) rfl rfl rfl
  | sl sz xs b o cap c h1 h2 h3 h4 h5 => exact one _ _ (.sl sz xs b o cap c h1 h2 h3 h4 h5) rfl rfl rfl
  | tup cs vs hl h => simp [V.data] at hx
  | fn f cs vs hl h => exact one _ _ (.fn f cs vs hl h) rfl rfl rfl
  | nilfn => exact one _ _ .nilfn rfl rfl rfl
  | iface t x v h => exact one _ _ (.iface t x v h) rfl rfl rfl
  | niliface => exact one _ _ .niliface rfl rfl rfl

/-! ### References of which a test holds -/
mutual
def V.refsB (p : Nat → Nat → Bool) : V → Prop
  | .ref i k _ => p i k = true
  | .ro x => x.refsB p
  | .sl _ _ xs => V.refsBs p xs
  | .gr _ _ _ xs => V.refsBs p xs
  | .agg xs => V.refsBs p xs
  | .tup xs => V.refsBs p xs
  | .fn _ xs => V.refsBs p xs
  | .iface _ x => x.refsB p
  | .any => True
  | .bool _ => True
  | .int _ _ => True
  | .str _ => True
  | .nilp => True
  | .nilfn => True
  | .niliface => True
def V.refsBs (p : Nat → Nat → Bool) : List V → Prop
  | [] => True
  | x :: r => x.refsB p ∧ V.refsBs p r
end

theorem V.refsBs_iff (p : Nat → Nat → Bool) (l : List V) : V.refsBs p l ↔ ∀ x ∈ l, x.refsB p := by
  induction l with
  | nil => simp [V.refsBs]
  | cons a l ih => simp [V.refsBs, ih]

theorem V.refsBs_get {p : Nat → Nat → Bool} {l : List V} (h : V.refsBs p l) {i : Nat} {x : V} (hx : l[i]? = some x) : x.refsB p :=
  (V.refsBs_iff p l).1 h x (List.mem_of_getElem? hx)

theorem V.refsB_cells {p : Nat → Nat → Bool} {x : V} (h : x.refsB p) : V.refsBs p x.cells := by
  cases x <;> simp_all [V.cells, V.refsBs, V.refsB]

/-- Only the boxes of which the test holds are kept. -/
def Gh.cut (g : Gh) (p : Nat → Nat → Bool) : Gh := { g with loc := fun i k => if p i k = true then g.loc i k else none }

theorem Rep.cut {g : Gh} {x : V} {v : Value} (h : Rep g x v) (p : Nat → Nat → Bool) (hb : x.refsB p) : Rep (g.cut p) x v := by
  induction h with
  | any v => exact .any v
  | bool b => exact .bool b
  | int k n => exact .int k n
  | str s => exact .str s
  | nilp => exact .nilp
  | ref i k off b h =>
    simp only [V.refsB] at hb
    exact .ref i k off b (by simp [Gh.cut, hb, h])
  | ro x b o c h h1 _ ih =>
    simp only [V.refsB] at hb
    exact .ro x b o c h h1 fun j y hy => ih j y hy (V.refsBs_get (V.refsB_cells hb) hy)
  | slNil sz => exact .slNil sz
  | slE sz a => exact .slE sz a
  | sl sz xs b o cap c hcap hsz h h1 _ ih =>
    simp only [V.refsB] at hb
    exact .sl sz xs b o cap c hcap hsz h h1 fun i x j y hx hy => ih i x j y hx hy (V.refsBs_get (V.refsB_cells (V.refsBs_get hb hx)) hy)
  | gr e nl sz xs v _ ih =>
    simp only [V.refsB] at hb
    exact .gr e nl sz xs v (ih (by simpa only [V.refsB] using hb))
  | agg cs vs hl h1 _ ih => simp only [V.refsB] at hb; exact .agg cs vs hl h1 fun j y v hy hv => ih j y v hy hv (V.refsBs_get hb hy)
  | tup cs vs hl _ ih => simp only [V.refsB] at hb; exact .tup cs vs hl fun j y v hy hv => ih j y v hy hv (V.refsBs_get hb hy)
  | fn f cs vs hl _ ih => simp only [V.refsB] at hb; exact .fn f cs vs hl fun j y v hy hv => ih j y v hy hv (V.refsBs_get hb hy)
  | nilfn => exact .nilfn
  | iface t x v _ ih => simp only [V.refsB] at hb; exact .iface t x v (ih hb)
  | niliface => exact .niliface

theorem mem_get {l : List V} {x : V} (h : x ∈ l) : ∃ i : Nat, l[i]? = some x := by
  obtain ⟨i, hi, rfl⟩ := List.mem_iff_getElem.1 h
  exact ⟨i, by simp [hi]⟩

theorem V.refsB_of_cells {p : Nat → Nat → Bool} {x : V} (h : V.refsBs p x.cells) : x.refsB p := by
  cases x <;> simp_all [V.cells, V.refsBs, V.refsB]

theorem Rep.refsB {g : Gh} {x : V} {v : Value} (h : Rep g x v) (p : Nat → Nat → Bool) (hf : ∀ i k b, g.loc i k = some b → p i k = true) : x.refsB p := by
  have arr : ∀ (cs : List V) (vs : Array Value), cs.length = vs.size → (∀ (j : Nat) (y : V) (v : Value), cs[j]? = some y → vs[j]? = some v → y.refsB p) → V.refsBs p cs := by
    intro cs vs hl ih
    refine (V.refsBs_iff p cs).2 fun x hx => ?_
    obtain ⟨i, hi⟩ := mem_get hx
    have hlt : i < vs.size := by rw [← hl]; exact (List.getElem?_eq_some_iff.1 hi).1
    exact ih i x vs[i] hi (by simp [hlt])
  induction h with
  | any v => simp [V.refsB]
  | bool b => simp [V.refsB]
  | int k n => simp [V.refsB]
  | str s => simp [V.refsB]
  | nilp => simp [V.refsB]
  | ref i k off b h => simp only [V.refsB]; exact hf _ _ _ h
  | ro x b o c h h1 _ ih =>
    simp only [V.refsB]
    refine V.refsB_of_cells ((V.refsBs_iff p _).2 fun y hy => ?_)
    obtain ⟨j, hj⟩ := mem_get hy
    exact ih j y hj
  | slNil sz => simp [V.refsB, V.refsBs]
  | slE sz a => simp [V.refsB, V.refsBs]
  | sl sz xs b o cap c hcap hsz h h1 _ ih =>
    simp only [V.refsB]
    refine (V.refsBs_iff p _).2 fun x hx => ?_
    obtain ⟨i, hi⟩ := mem_get hx
    refine V.refsB_of_cells ((V.refsBs_iff p _).2 fun y hy => ?_)
    obtain ⟨j, hj⟩ := mem_get hy
    exact ih i x j y hi hj
  | gr e nl sz xs v _ ih => simpa only [V.refsB] using ih
  | agg cs vs hl h1 _ ih => simp only [V.refsB]; exact arr cs vs hl ih
  | tup cs vs hl _ ih => simp only [V.refsB]; exact arr cs vs hl ih
  | fn f cs vs hl _ ih => simp only [V.refsB]; exact arr cs vs hl ih
  | nilfn => simp [V.refsB]
  | iface t x v _ ih => simp only [V.refsB]; exact ih
  | niliface => simp [V.refsB]

end Go.Pl
