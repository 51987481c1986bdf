import Derived.Calls
import Derived.Laws.World
import Derived.Laws.Sem
import Derived.Laws.Cells
import Derived.Orders
import Derived.Laws.AppendOwn
import Derived.Laws.OwnMore
import Derived.Laws.CopyRow
import Derived.Laws.BitsLemmas
set_option linter.unusedSimpArgs false
set_option linter.unusedVariables false
set_option linter.unusedSectionVars false
section
namespace Go.Pl
inductive V where
 | any
 | bool (b : Bool)
 | int (k : IntKind) (n : Int)
 | str (s : List UInt8)
 | nilp
 | ref (i k off : Nat)
 | ro (x : V)
 | sl (nl : Bool) (sz : Nat) (xs : List V)
 | gr (e : Nat) (nl : Bool) (sz : Nat) (xs : List V)
 | agg (cs : List V)
 | tup (cs : List V)
 | fn (f : Nat) (caps : List V)
 | nilfn
 | iface (t : Nat) (x : V)
 | niliface
 | rows (sz : Nat) (xs : List V)
 | bs (i k sz : Nat) (off len : Int)
 | eref (i k sz : Nat) (j : Int)
 | mapv (ks vs : List V)
 | mref (i k : Nat)
 | nilmap
 deriving Inhabited
def V.cells : V → List V
 | .agg cs => cs
 | x => [x]
def V.isBig : V → Bool
 | .rows _ _ | .mapv _ _ => true
 | _ => false
def V.plain : V → V
 | .gr _ nl sz xs => .sl nl sz xs
 | x => x
def V.isGr : V → Bool
 | .gr _ _ _ _ => true
 | _ => false
structure Gh where
 M : Nat → Nat → Option Value
 loc : Nat → Nat → Option Nat
 top : Nat
 dfr : List Deferred := []
structure Le (g g' : Gh) : Prop where
 M : ∀ b o v, g.M b o = some v → g'.M b o = some v
 loc : ∀ i k b, g.loc i k = some b → g'.loc i k = some b
theorem Le.refl (g : Gh) : Le g g := ⟨fun _ _ _ h => h, fun _ _ _ h => h⟩
theorem Le.trans {a b c : Gh} (h : Le a b) (k : Le b c) : Le a c := ⟨fun x y z m => k.M x y z (h.M x y z m), fun x y z m => k.loc x y z (h.loc x y z m)⟩
inductive Rep (g : Gh) : V → Value → Prop
 | any (v : Value) : Rep g .any v
 | bool (b : Bool) : Rep g (.bool b) (.bool b)
 | int (k : IntKind) (n : Int) : Rep g (.int k n) (.int k n)
 | str (s : List UInt8) : Rep g (.str s) (.string ⟨s.toArray⟩)
 | nilp : Rep g .nilp (.pointer none)
 | ref (i k off b : Nat) (h : g.loc i k = some b) : Rep g (.ref i k off) (.pointer (some ⟨b, off, none⟩))
 | ro (x : V) (b o : Nat) (c : Nat → Value) (h : ∀ (j : Nat) (y : V), x.cells[j]? = some y → g.M b (o + j) = some (c j))
   (h1 : ∀ (j : Nat) (y : V), x.cells[j]? = some y → (c j).oneCell' = true)
   (hr : ∀ (j : Nat) (y : V), x.cells[j]? = some y → Rep g y (c j)) : Rep g (.ro x) (.pointer (some ⟨b, o, none⟩))
 | slNil (sz : Nat) : Rep g (.sl true sz []) (.slice none 0 0)
 | slE (sz : Nat) (a : Addr) : Rep g (.sl false sz []) (.slice (some a) 0 0)
 | sl (sz : Nat) (xs : List V) (b o cap : Nat) (c : Nat → Nat → Value) (hcap : xs.length ≤ cap) (hsz : ∀ (i : Nat) (x : V), xs[i]? = some x → x.cells.length = sz)
   (h : ∀ (i : Nat) (x : V) (j : Nat) (y : V), xs[i]? = some x → x.cells[j]? = some y → g.M b (o + i * sz + j) = some (c i j))
   (h1 : ∀ (i : Nat) (x : V) (j : Nat) (y : V), xs[i]? = some x → x.cells[j]? = some y → (c i j).oneCell' = true)
   (hr : ∀ (i : Nat) (x : V) (j : Nat) (y : V), xs[i]? = some x → x.cells[j]? = some y → Rep g y (c i j)) : Rep g (.sl false sz xs) (.slice (some ⟨b, o, none⟩) xs.length cap)
 | gr (e : Nat) (nl : Bool) (sz : Nat) (xs : List V) (v : Value) (h : Rep g (.sl nl sz xs) v) : Rep g (.gr e nl sz xs) v
 | agg (cs : List V) (vs : Array Value) (hl : cs.length = vs.size) (h1 : ∀ (j : Nat) (v : Value), vs[j]? = some v → v.oneCell' = true)
   (h : ∀ (j : Nat) (y : V) (v : Value), cs[j]? = some y → vs[j]? = some v → Rep g y v) : Rep g (.agg cs) (.agg vs)
 | tup (cs : List V) (vs : Array Value) (hl : cs.length = vs.size) (h : ∀ (j : Nat) (y : V) (v : Value), cs[j]? = some y → vs[j]? = some v → Rep g y v) : Rep g (.tup cs) (.tuple vs)
 | fn (f : Nat) (cs : List V) (vs : Array Value) (hl : cs.length = vs.size) (h : ∀ (j : Nat) (y : V) (v : Value), cs[j]? = some y → vs[j]? = some v → Rep g y v) :
   Rep g (.fn f cs) (.func (.func f) #[] vs)
 | nilfn : Rep g .nilfn .nilFunc
 | iface (t : Nat) (x : V) (v : Value) (h : Rep g x v) : Rep g (.iface t x) (.iface t v)
 | niliface : Rep g .niliface .nilIface
 | bs (i k sz : Nat) (off len : Int) (b o cap : Nat) (h : g.loc i k = some b) (h0 : 0 ≤ off) (h1 : 0 ≤ len) (ho : 0 < len → o = off.toNat * sz) (hc : len.toNat ≤ cap) : Rep g (.bs i k sz off len) (.slice (some ⟨b, o, none⟩) len.toNat cap)
 | eref (i k sz : Nat) (j : Int) (b : Nat) (h : g.loc i k = some b) (h0 : 0 ≤ j) : Rep g (.eref i k sz j) (.pointer (some ⟨b, j.toNat * sz, none⟩))
 | mref (i k b : Nat) (h : g.loc i k = some b) : Rep g (.mref i k) (.map (some b))
 | nilmap : Rep g .nilmap (.map none)
theorem Rep.mono {g g' : Gh} {x : V} {v : Value} (h : Rep g x v) (hl : Le g g') : Rep g' x v := by
 induction h with
 | any v => exact .any v
 | bool b => exact .bool b
 | int k n => exact .int k n
 | str s => exact .str s
 | nilp => exact .nilp
 | ref i k off b h => exact .ref i k off b (hl.loc _ _ _ h)
 | ro x b o c h h1 _ ih => exact .ro x b o c (fun j y hy => hl.M _ _ _ (h j y hy)) h1 ih
 | slNil sz => exact .slNil sz
 | slE sz a => exact .slE sz a
 | sl sz xs b o cap c hcap hsz h h1 _ ih => exact .sl sz xs b o cap c hcap hsz (fun i x j y hx hy => hl.M _ _ _ (h i x j y hx hy)) h1 ih
 | gr e nl sz xs v _ ih => exact .gr e nl sz xs v ih
 | agg cs vs hl' h1 _ ih => exact .agg cs vs hl' h1 ih
 | tup cs vs hl' _ ih => exact .tup cs vs hl' ih
 | fn f cs vs hl' _ ih => exact .fn f cs vs hl' ih
 | nilfn => exact .nilfn
 | iface t x v _ ih => exact .iface t x v ih
 | niliface => exact .niliface
 | bs i k sz off len b o cap h h0 h1 ho hc => exact .bs i k sz off len b o cap (hl.loc _ _ _ h) h0 h1 ho hc
 | eref i k sz j b h h0 => exact .eref i k sz j b (hl.loc _ _ _ h) h0
 | mref i k b h => exact .mref i k b (hl.loc _ _ _ h)
 | nilmap => exact .nilmap
theorem Rep.toPlain {g : Gh} {x : V} {v : Value} (h : Rep g x v) : Rep g x.plain v := by
 cases h <;> first | assumption | (constructor <;> assumption)
def Reps (g : Gh) (cs : List V) (vs : Array Value) : Prop := cs.length = vs.size ∧ ∀ (j : Nat) (y : V) (v : Value), cs[j]? = some y → vs[j]? = some v → Rep g y v
theorem Reps.mono {g g' : Gh} {cs : List V} {vs : Array Value} (h : Reps g cs vs) (hl : Le g g') : Reps g' cs vs := ⟨h.1, fun j y v a b => (h.2 j y v a b).mono hl⟩
def Cells (g : Gh) (cs : List V) (vs : Array Value) : Prop := Reps g cs vs ∧ ∀ (j : Nat) (v : Value), vs[j]? = some v → v.oneCell' = true
theorem Cells.mono {g g' : Gh} {cs : List V} {vs : Array Value} (h : Cells g cs vs) (hl : Le g g') : Cells g' cs vs := ⟨h.1.mono hl, h.2⟩
def V.data : V → Bool
 | .any | .tup _ | .rows _ _ | .mapv _ _ => false
 | _ => true
theorem Rep.cells {g : Gh} {x : V} {v : Value} (h : Rep g x v) (hx : x.data = true) : Cells g x.cells v.cells := by
 have one : ∀ (x : V) (v : Value), Rep g x v → x.cells = [x] → v.cells = #[v] → v.oneCell' = true → Cells g x.cells v.cells := by
  intro x v h h1 h2 h3
  rw [h1, h2]
  refine ⟨⟨rfl, fun j y u hy hu => ?_⟩, fun j u hu => ?_⟩
  ·cases j with
   | zero => simp at hy hu; subst hy; subst hu; exact h
   | succ j => simp at hy
  ·cases j with
   | zero => simp at hu; subst hu; exact h3
   | succ j => simp at hu
 cases h with
 | any => simp [V.data] at hx
 | agg cs vs hl h1 h => exact ⟨⟨hl, h⟩, h1⟩
 | gr e nl sz xs v h =>
  refine one _ _ (.gr e nl sz xs v h) rfl ?_ ?_
  ·cases h <;> rfl
  ·cases h <;> rfl
 | bool => exact one _ _ (.bool _) rfl rfl rfl
 | int => exact one _ _ (.int _ _) rfl rfl rfl
 | str => exact one _ _ (.str _) rfl rfl rfl
 | nilp => exact one _ _ .nilp rfl rfl rfl
 | ref i k off b h => exact one _ _ (.ref _ _ _ _ h) rfl rfl rfl
 | ro x b o c h h1 hr => exact one _ _ (.ro x b o c h h1 hr) rfl rfl rfl
 | slNil => exact one _ _ (.slNil _) rfl rfl rfl
 | slE => exact one _ _ (.slE _ _) rfl rfl rfl
 | sl sz xs b o cap c h1 h2 h3 h4 h5 => exact one _ _ (.sl sz xs b o cap c h1 h2 h3 h4 h5) rfl rfl rfl
 | tup cs vs hl h => simp [V.data] at hx
 | fn f cs vs hl h => exact one _ _ (.fn f cs vs hl h) rfl rfl rfl
 | nilfn => exact one _ _ .nilfn rfl rfl rfl
 | iface t x v h => exact one _ _ (.iface t x v h) rfl rfl rfl
 | niliface => exact one _ _ .niliface rfl rfl rfl
 | bs i k sz off len b o cap h h0 h1 ho hc => exact one _ _ (.bs i k sz off len b o cap h h0 h1 ho hc) rfl rfl rfl
 | eref i k sz j b h h0 => exact one _ _ (.eref i k sz j b h h0) rfl rfl rfl
 | mref i k b h => exact one _ _ (.mref i k b h) rfl rfl rfl
 | nilmap => exact one _ _ .nilmap rfl rfl rfl
mutual
def V.refsB (p : Nat → Nat → Bool) : V → Prop
 | .ref i k _ => p i k = true
 | .ro x => x.refsB p
 | .sl _ _ xs => V.refsBs p xs
 | .gr _ _ _ xs => V.refsBs p xs
 | .agg xs => V.refsBs p xs
 | .tup xs => V.refsBs p xs
 | .fn _ xs => V.refsBs p xs
 | .iface _ x => x.refsB p
 | .any => True
 | .bool _ => True
 | .int _ _ => True
 | .str _ => True
 | .nilp => True
 | .nilfn => True
 | .niliface => True
 | .rows _ xs => V.refsBs p xs
 | .bs i k _ _ _ => p i k = true
 | .eref i k _ _ => p i k = true
 | .mapv ks vs => V.refsBs p ks ∧ V.refsBs p vs
 | .mref i k => p i k = true
 | .nilmap => True
def V.refsBs (p : Nat → Nat → Bool) : List V → Prop
 | [] => True
 | x :: r => x.refsB p ∧ V.refsBs p r
end
theorem V.refsBs_iff (p : Nat → Nat → Bool) (l : List V) : V.refsBs p l ↔ ∀ x ∈ l, x.refsB p := by
 induction l with
 | nil => simp [V.refsBs]
 | cons a l ih => simp [V.refsBs, ih]
theorem V.refsBs_get {p : Nat → Nat → Bool} {l : List V} (h : V.refsBs p l) {i : Nat} {x : V} (hx : l[i]? = some x) : x.refsB p :=
 (V.refsBs_iff p l).1 h x (List.mem_of_getElem? hx)
theorem V.refsB_cells {p : Nat → Nat → Bool} {x : V} (h : x.refsB p) : V.refsBs p x.cells := by
 cases x <;> simp_all [V.cells, V.refsBs, V.refsB]
def Gh.cut (g : Gh) (p : Nat → Nat → Bool) : Gh := { g with loc := fun i k => if p i k = true then g.loc i k else none }
theorem Rep.cut {g : Gh} {x : V} {v : Value} (h : Rep g x v) (p : Nat → Nat → Bool) (hb : x.refsB p) : Rep (g.cut p) x v := by
 induction h with
 | any v => exact .any v
 | bool b => exact .bool b
 | int k n => exact .int k n
 | str s => exact .str s
 | nilp => exact .nilp
 | ref i k off b h =>
  simp only [V.refsB] at hb
  exact .ref i k off b (by simp [Gh.cut, hb, h])
 | ro x b o c h h1 _ ih =>
  simp only [V.refsB] at hb
  exact .ro x b o c h h1 fun j y hy => ih j y hy (V.refsBs_get (V.refsB_cells hb) hy)
 | slNil sz => exact .slNil sz
 | slE sz a => exact .slE sz a
 | sl sz xs b o cap c hcap hsz h h1 _ ih =>
  simp only [V.refsB] at hb
  exact .sl sz xs b o cap c hcap hsz h h1 fun i x j y hx hy => ih i x j y hx hy (V.refsBs_get (V.refsB_cells (V.refsBs_get hb hx)) hy)
 | gr e nl sz xs v _ ih =>
  simp only [V.refsB] at hb
  exact .gr e nl sz xs v (ih (by simpa only [V.refsB] using hb))
 | agg cs vs hl h1 _ ih => simp only [V.refsB] at hb; exact .agg cs vs hl h1 fun j y v hy hv => ih j y v hy hv (V.refsBs_get hb hy)
 | tup cs vs hl _ ih => simp only [V.refsB] at hb; exact .tup cs vs hl fun j y v hy hv => ih j y v hy hv (V.refsBs_get hb hy)
 | fn f cs vs hl _ ih => simp only [V.refsB] at hb; exact .fn f cs vs hl fun j y v hy hv => ih j y v hy hv (V.refsBs_get hb hy)
 | nilfn => exact .nilfn
 | iface t x v _ ih => simp only [V.refsB] at hb; exact .iface t x v (ih hb)
 | niliface => exact .niliface
 | bs i k sz off len b o cap h h0 h1 ho hc => simp only [V.refsB] at hb; exact .bs i k sz off len b o cap (by simp [Gh.cut, hb, h]) h0 h1 ho hc
 | eref i k sz j b h h0 => simp only [V.refsB] at hb; exact .eref i k sz j b (by simp [Gh.cut, hb, h]) h0
 | mref i k b h => simp only [V.refsB] at hb; exact .mref i k b (by simp [Gh.cut, hb, h])
 | nilmap => exact .nilmap
theorem mem_get {l : List V} {x : V} (h : x ∈ l) : ∃ i : Nat, l[i]? = some x := by
 obtain ⟨i, hi, rfl⟩ := List.mem_iff_getElem.1 h
 exact ⟨i, by simp [hi]⟩
theorem V.refsB_of_cells {p : Nat → Nat → Bool} {x : V} (h : V.refsBs p x.cells) : x.refsB p := by
 cases x <;> simp_all [V.cells, V.refsBs, V.refsB]
theorem Rep.refsB {g : Gh} {x : V} {v : Value} (h : Rep g x v) (p : Nat → Nat → Bool) (hf : ∀ i k b, g.loc i k = some b → p i k = true) : x.refsB p := by
 have arr : ∀ (cs : List V) (vs : Array Value), cs.length = vs.size → (∀ (j : Nat) (y : V) (v : Value), cs[j]? = some y → vs[j]? = some v → y.refsB p) → V.refsBs p cs := by
  intro cs vs hl ih
  refine (V.refsBs_iff p cs).2 fun x hx => ?_
  obtain ⟨i, hi⟩ := mem_get hx
  have hlt : i < vs.size := by rw [← hl]; exact (List.getElem?_eq_some_iff.1 hi).1
  exact ih i x vs[i] hi (by simp [hlt])
 induction h with
 | any v => simp [V.refsB]
 | bool b => simp [V.refsB]
 | int k n => simp [V.refsB]
 | str s => simp [V.refsB]
 | nilp => simp [V.refsB]
 | ref i k off b h => simp only [V.refsB]; exact hf _ _ _ h
 | ro x b o c h h1 _ ih =>
  simp only [V.refsB]
  refine V.refsB_of_cells ((V.refsBs_iff p _).2 fun y hy => ?_)
  obtain ⟨j, hj⟩ := mem_get hy
  exact ih j y hj
 | slNil sz => simp [V.refsB, V.refsBs]
 | slE sz a => simp [V.refsB, V.refsBs]
 | sl sz xs b o cap c hcap hsz h h1 _ ih =>
  simp only [V.refsB]
  refine (V.refsBs_iff p _).2 fun x hx => ?_
  obtain ⟨i, hi⟩ := mem_get hx
  refine V.refsB_of_cells ((V.refsBs_iff p _).2 fun y hy => ?_)
  obtain ⟨j, hj⟩ := mem_get hy
  exact ih i x j y hi hj
 | gr e nl sz xs v _ ih => simpa only [V.refsB] using ih
 | agg cs vs hl h1 _ ih => simp only [V.refsB]; exact arr cs vs hl ih
 | tup cs vs hl _ ih => simp only [V.refsB]; exact arr cs vs hl ih
 | fn f cs vs hl _ ih => simp only [V.refsB]; exact arr cs vs hl ih
 | nilfn => simp [V.refsB]
 | iface t x v _ ih => simp only [V.refsB]; exact ih
 | niliface => simp [V.refsB]
 | bs i k sz off len b o cap h h0 h1 ho hc => simp only [V.refsB]; exact hf _ _ _ h
 | eref i k sz j b h h0 => simp only [V.refsB]; exact hf _ _ _ h
 | mref i k b h => simp only [V.refsB]; exact hf _ _ _ h
 | nilmap => simp [V.refsB]
end Go.Pl
end
section
namespace Go.Pl
structure Ops where
 same : Nat → Nat → Bool
 ieq : Int → Int → Bool
 ilt : Int → Int → Bool
 ile : Int → Int → Bool
 iop : BinOp → IntKind → Int → IntKind → Int → Option V
 wrap : IntKind → Int → Int
 neg : IntKind → Int → Int
 len : List V → Int
 get : List V → Int → Option V
 cut : List V → Int → Int → Option (List V)
 app : List V → List V → List V
 fit : Nat → List V → List V → Bool
 emp : List V → Bool
 good : Nat → List V → Bool
 seq : List UInt8 → List UInt8 → Bool
 slt : List UInt8 → List UInt8 → Bool
 slen : List UInt8 → Int
 sget : List UInt8 → Int → Option Int
 scut : List UInt8 → Int → Int → Option (List UInt8)
 scat : List UInt8 → List UInt8 → Option (List UInt8)
 put : List V → Int → V → Option (List V)
 bidx : Int → Int → Int → Option Int
 bcut : Int → Int → Int → Int → Option (Int × Int)
 mfind : Bool → List V → List V → V → Option (Option V)
 mput : Bool → List V → List V → V → V → Option (List V × List V)
def keyEq : Bool → V → V → Option Bool
 | true, .str a, .str b => some (decide (a = b))
 | false, .int k a, .int k' b => if k = k' then some (decide (a = b)) else none
 | _, _, _ => none
def findV (kt : Bool) : List V → List V → V → Option (Option V)
 | [], _, _ => some none
 | k' :: ks, v :: vs, k => match keyEq kt k k' with
  | some true => some (some v)
  | some false => findV kt ks vs k
  | none => none
 | _ :: _, [], _ => none
def putV (kt : Bool) : List V → List V → V → V → Option (List V × List V)
 | [], _, k, v => some ([k], [v])
 | k' :: ks, v' :: vs, k, v => match keyEq kt k k' with
  | some true => some (k' :: ks, v :: vs)
  | some false => match putV kt ks vs k v with
   | some p => some (k' :: p.1, v' :: p.2)
   | none => none
  | none => none
 | _ :: _, [], _, _ => none
def absS : Value → Option V
 | .bool b => some (.bool b)
 | .int k n => some (.int k n)
 | .string s => some (.str s.data.toList)
 | .pointer none => some .nilp
 | .slice none 0 0 => some (.sl true 4 [])
 | .nilFunc => some .nilfn
 | .nilIface => some .niliface
 | .map none => some .nilmap
 | _ => none
def Ops.std : Ops where
 same a b := decide (a = b)
 ieq a b := decide (a = b)
 ilt a b := decide (a < b)
 ile a b := decide (a ≤ b)
 iop op k a k' b := match binOp op 0 (.int k a) (.int k' b) with
  | .pure v => absS v
  | _ => none
 wrap k n := k.wrap n
 neg k n := k.wrap (0 - n)
 len xs := xs.length
 get xs n := if 0 ≤ n ∧ n < xs.length then xs[n.toNat]? else none
 cut xs l h := if 0 ≤ l ∧ l ≤ h ∧ h ≤ xs.length then some ((xs.take h.toNat).drop l.toNat) else none
 app xs ys := xs ++ ys
 fit bytes xs ys := decide ((xs.length + ys.length) * bytes ≤ 1099511627776 ∧ xs.length + ys.length ≤ 1099511627776)
 emp xs := xs.isEmpty
 good sz xs := xs.all (fun x => x.data && x.cells.length == sz) && decide (xs.length * sz ≤ 16777216)
 seq a b := decide (a = b)
 slt a b := Op.bytesLess a b
 slen s := s.length
 sget s n := if 0 ≤ n then (s[n.toNat]?).map fun b => (b.toNat : Int) else none
 scut s l h := if 0 ≤ l ∧ l ≤ h ∧ h ≤ s.length then some ((s.take h.toNat).drop l.toNat) else none
 scat a b := if a.length + b.length ≤ 1099511627776 then some (a ++ b) else none
 put xs j y := if 0 ≤ j ∧ j < xs.length then some (xs.set j.toNat y) else none
 bidx off len p := if 0 ≤ p ∧ p < len then some (off + p) else none
 bcut off len lo hi := if 0 ≤ lo ∧ lo ≤ hi ∧ hi ≤ len then some (off + lo, hi - lo) else none
 mfind := findV
 mput := putV
structure St where
 H : Nat → Nat → Option V
 n : Nat
 b : Nat
 c : Nat
 O : Ops
 hO : O = Ops.std
def St.ok (S : St) (i k : Nat) : Bool := decide (i < S.n) && !(i == S.b && decide (S.c ≤ k))
theorem ok_iff (S : St) (i k : Nat) : S.ok i k = true ↔ i < S.n ∧ (i = S.b → k < S.c) := by
 simp only [St.ok, Bool.and_eq_true, decide_eq_true_eq, Bool.not_eq_eq_eq_not, Bool.not_true, Bool.and_eq_false_iff, beq_eq_false_iff_ne, ne_eq, decide_eq_false_iff_not, Nat.not_le]
 constructor
 ·rintro ⟨h1, h2 | h2⟩
  ·exact ⟨h1, fun h => absurd h h2⟩
  ·exact ⟨h1, fun _ => h2⟩
 ·rintro ⟨h1, h2⟩
  refine ⟨h1, ?_⟩
  by_cases h : i = S.b
  ·exact .inr (h2 h)
  ·exact .inl h
theorem ok_not (S : St) (i k : Nat) : S.ok i k = false ↔ ¬ (i < S.n ∧ (i = S.b → k < S.c)) := by
 rw [← ok_iff, Bool.not_eq_true]
def upd2 (O : Ops) (H : Nat → Nat → Option V) (b k : Nat) (x : V) : Nat → Nat → Option V := fun b' k' => bif Nat.beq k' k then (bif O.same b' b then some x else H b' k') else H b' k'
structure ArrIn (g : Gh) (sz : Nat) (xs : List V) (cs : Array Value) : Prop where
 size : xs.length * sz ≤ cs.size
 shape : ∀ (i : Nat) (x : V), xs[i]? = some x → x.data = true ∧ x.cells.length = sz
 cell : ∀ (i : Nat) (x : V) (j : Nat) (y : V), xs[i]? = some x → x.cells[j]? = some y → ∃ c, cs[i * sz + j]? = some c ∧ Rep g y c ∧ c.oneCell' = true
structure MapIn (g : Gh) (ks vs : List V) (es : Array MapEntry) : Prop where
 kl : ks.length = es.size
 vl : vs.length = es.size
 key : ∀ (i : Nat) (k : V) (e : MapEntry), ks[i]? = some k → es[i]? = some e → Rep g k e.key
 val : ∀ (i : Nat) (v : V) (e : MapEntry), vs[i]? = some v → es[i]? = some e → Rep g v e.val ∧ v.isGr = false
inductive ObjRep (g : Gh) : V → Obj → Prop
 | cells (x : V) (cs : Array Value) (e : TypeId) (hb : x.isBig = false) (h : Cells g x.cells cs) : ObjRep g x (.cells cs e (0, 0))
 | rows (sz : Nat) (xs : List V) (cs : Array Value) (e : TypeId) (h : ArrIn g sz xs cs) : ObjRep g (.rows sz xs) (.cells cs e (0, 0))
 | mapv (ks vs : List V) (es : Array MapEntry) (t : Nat) (h : MapIn g ks vs es) : ObjRep g (.mapv ks vs) (.map es t)
theorem ObjRep.mono {g g' : Gh} {x : V} {o : Obj} (h : ObjRep g x o) (hl : Le g g') : ObjRep g' x o := by
 cases h with
 | cells _ cs e hb h => exact .cells _ cs e hb (h.mono hl)
 | rows sz xs cs e h =>
  refine .rows sz xs cs e ⟨h.size, h.shape, fun i x j y hx hy => ?_⟩
  obtain ⟨c, h1, h2, h3⟩ := h.cell i x j y hx hy
  exact ⟨c, h1, h2.mono hl, h3⟩
 | mapv ks vs es t h => exact .mapv ks vs es t ⟨h.kl, h.vl, fun i k e hk he => (h.key i k e hk he).mono hl, fun i v e hv he => ⟨(h.val i v e hv he).1.mono hl, (h.val i v e hv he).2⟩⟩
theorem ObjRep.cut {g : Gh} {x : V} {o : Obj} (h : ObjRep g x o) (p : Nat → Nat → Bool) (hb : x.refsB p) : ObjRep (g.cut p) x o := by
 cases h with
 | cells _ cs e hbig h => exact .cells _ cs e hbig ⟨⟨h.1.1, fun j y v hy hv => (h.1.2 j y v hy hv).cut p (V.refsBs_get (V.refsB_cells hb) hy)⟩, h.2⟩
 | rows sz xs cs e h =>
  simp only [V.refsB] at hb
  refine .rows sz xs cs e ⟨h.size, h.shape, fun i x j y hx hy => ?_⟩
  obtain ⟨c, h1, h2, h3⟩ := h.cell i x j y hx hy
  exact ⟨c, h1, h2.cut p (V.refsBs_get (V.refsB_cells (V.refsBs_get hb hx)) hy), h3⟩
 | mapv ks vs es t h =>
  simp only [V.refsB] at hb
  exact .mapv ks vs es t ⟨h.kl, h.vl, fun i k e hk he => (h.key i k e hk he).cut p (V.refsBs_get hb.1 hk), fun i v e hv he => ⟨(h.val i v e hv he).1.cut p (V.refsBs_get hb.2 hv), (h.val i v e hv he).2⟩⟩
theorem ObjRep.refsB {g : Gh} {x : V} {o : Obj} (h : ObjRep g x o) (p : Nat → Nat → Bool) (hf : ∀ i k b, g.loc i k = some b → p i k = true) : x.refsB p := by
 have arr : ∀ (cs : List V), (∀ (j : Nat) (y : V), cs[j]? = some y → y.refsB p) → V.refsBs p cs := fun cs ih =>
  (V.refsBs_iff p cs).2 fun x hx => by
   obtain ⟨i, hi⟩ := mem_get hx
   exact ih i x hi
 cases h with
 | cells _ cs e hbig h =>
  refine V.refsB_of_cells (arr _ fun j y hy => ?_)
  have hlt : j < cs.size := by rw [← h.1.1]; exact (List.getElem?_eq_some_iff.1 hy).1
  exact (h.1.2 j y cs[j] hy (by simp [hlt])).refsB p hf
 | rows sz xs cs e h =>
  simp only [V.refsB]
  refine arr _ fun i x hx => V.refsB_of_cells (arr _ fun j y hy => ?_)
  obtain ⟨c, _, h2, _⟩ := h.cell i x j y hx hy
  exact h2.refsB p hf
 | mapv ks vs es t h =>
  simp only [V.refsB]
  refine ⟨arr _ fun i k hk => ?_, arr _ fun i v hv => ?_⟩
  ·have hlt : i < es.size := by rw [← h.kl]; exact (List.getElem?_eq_some_iff.1 hk).1
   exact (h.key i k es[i] hk (by simp [hlt])).refsB p hf
  ·have hlt : i < es.size := by rw [← h.vl]; exact (List.getElem?_eq_some_iff.1 hv).1
   exact (h.val i v es[i] hv (by simp [hlt])).1.refsB p hf
structure SimW (g : Gh) (S : St) (w : World) : Prop where
 mem : ∀ b o v, g.M b o = some v → w.cell? ⟨b, o, none⟩ = some v
 box : ∀ i k x, S.H i k = some x → ∃ b o, g.loc i k = some b ∧ w.heap[b]? = some o ∧ ObjRep g x o
 inj : ∀ i k j l b, g.loc i k = some b → g.loc j l = some b → i = j ∧ k = l
 boxM : ∀ i k b, g.loc i k = some b → ∀ o, g.M b o = none
 locB : ∀ i k b, g.loc i k = some b → b < w.heap.size
 fresh : ∀ i k, S.ok i k = false → g.loc i k = none
theorem SimW.box' {g : Gh} {S : St} {w : World} (h : SimW g S w) {i k : Nat} {x : V} (hx : S.H i k = some x) (hb : x.isBig = false) :
  ∃ b cs e, g.loc i k = some b ∧ w.heap[b]? = some (.cells cs e (0, 0)) ∧ Cells g x.cells cs := by
 obtain ⟨b, o, h1, h2, h3⟩ := h.box i k x hx
 cases h3 with
 | cells _ cs e _ h => exact ⟨b, cs, e, h1, h2, h⟩
 | rows => simp [V.isBig] at hb
 | mapv => simp [V.isBig] at hb
theorem SimW.arr {g : Gh} {S : St} {w : World} (h : SimW g S w) {i k sz : Nat} {xs : List V} (hx : S.H i k = some (.rows sz xs)) :
  ∃ b cs e, g.loc i k = some b ∧ w.heap[b]? = some (.cells cs e (0, 0)) ∧ ArrIn g sz xs cs := by
 obtain ⟨b, o, h1, h2, h3⟩ := h.box i k _ hx
 cases h3 with
 | cells _ cs e hb h => simp [V.isBig] at hb
 | rows _ _ cs e h => exact ⟨b, cs, e, h1, h2, h⟩
theorem SimW.map {g : Gh} {S : St} {w : World} (h : SimW g S w) {i k : Nat} {ks vs : List V} (hx : S.H i k = some (.mapv ks vs)) :
  ∃ b es t, g.loc i k = some b ∧ w.heap[b]? = some (.map es t) ∧ MapIn g ks vs es := by
 obtain ⟨b, o, h1, h2, h3⟩ := h.box i k _ hx
 cases h3 with
 | cells _ cs e hb h => simp [V.isBig] at hb
 | mapv _ _ es t h => exact ⟨b, es, t, h1, h2, h⟩
structure Ext (g : Gh) (w : World) (g' : Gh) (w' : World) : Prop where
 le : Le g g'
 os : w'.os = w.os
 tape : w'.tape = w.tape
 output : w'.output = w.output
 size : w.heap.size ≤ w'.heap.size
 block : ∀ b, b < w.heap.size → (∀ i k, g.loc i k ≠ some b) → w'.heap[b]? = w.heap[b]?
 newLoc : ∀ i k b, g'.loc i k = some b → g.loc i k = some b ∨ w.heap.size ≤ b
 newM : ∀ b o v, g'.M b o = some v → g.M b o = some v ∨ w.heap.size ≤ b
 top : g'.top = g.top
 newName : ∀ i k, i < g.top → g.loc i k = none → g'.loc i k = none
theorem Ext.refl (g : Gh) (w : World) : Ext g w g w :=
 ⟨.refl g, rfl, rfl, rfl, Nat.le_refl _, fun _ _ _ => rfl, fun _ _ _ h => .inl h, fun _ _ _ h => .inl h, rfl, fun _ _ _ h => h⟩
theorem Ext.trans {g₁ g₂ g₃ : Gh} {w₁ w₂ w₃ : World} (h : Ext g₁ w₁ g₂ w₂) (k : Ext g₂ w₂ g₃ w₃) : Ext g₁ w₁ g₃ w₃ where
 le := h.le.trans k.le
 os := k.os.trans h.os
 tape := k.tape.trans h.tape
 output := k.output.trans h.output
 size := Nat.le_trans h.size k.size
 block b hb hn := by
  refine (k.block b (Nat.lt_of_lt_of_le hb h.size) fun i l hi => ?_).trans (h.block b hb hn)
  rcases h.newLoc i l b hi with h' | h'
  ·exact hn i l h'
  ·omega
 newLoc i l b hi := by
  rcases k.newLoc i l b hi with h' | h'
  ·exact h.newLoc i l b h'
  ·exact .inr (Nat.le_trans h.size h')
 newM b o v hv := by
  rcases k.newM b o v hv with h' | h'
  ·exact h.newM b o v h'
  ·exact .inr (Nat.le_trans h.size h')
 top := k.top.trans h.top
 newName i l hi hn := k.newName i l (by rw [h.top]; exact hi) (h.newName i l hi hn)
def Gh.def (g : Gh) (D : List Deferred) : Gh := { g with dfr := D }
theorem Ext.def {g g' : Gh} {w w' : World} {D : List Deferred} (h : Ext g w g' w') : Ext (g.def D) w g' w' :=
 ⟨⟨h.le.M, h.le.loc⟩, h.os, h.tape, h.output, h.size, h.block, h.newLoc, h.newM, h.top, h.newName⟩
theorem Ext.undef {g g' : Gh} {w w' : World} {D : List Deferred} (h : Ext (g.def D) w g' w') : Ext g w g' w' :=
 ⟨⟨h.le.M, h.le.loc⟩, h.os, h.tape, h.output, h.size, h.block, h.newLoc, h.newM, h.top, h.newName⟩
def spare : V → Value → Option Nat
 | .gr _ _ _ _, v => v.ownBlock
 | _, _ => none
def Claim (g : Gh) (w : World) (base : Nat) : V → Value → Prop
 | .gr e _ sz xs, v => (∃ vals, w.ownsRow base e sz v xs.length vals) ∧ ∀ b, v.ownBlock = some b → (∀ k, xs.length * sz ≤ k → g.M b k = none) ∧ ∀ i k, g.loc i k ≠ some b
 | _, _ => True
theorem Claim.of_not {g : Gh} {w : World} {base : Nat} {x : V} {v : Value} (h : x.isGr = false) : Claim g w base x v := by
 cases x <;> first | trivial | (simp [V.isGr] at h)
theorem spare_not {x : V} {v : Value} (h : x.isGr = false) : spare x v = none := by
 cases x <;> first | rfl | (simp [V.isGr] at h)
structure Sim (g₀ : Gh) (w₀ : World) (N : Nat) (g : Gh) (σ : Nat → V) (S : St) (a : Act) (w : World) : Prop where
 ext : Ext g₀ w₀ g w
 sim : SimW g S w
 size : a.tmps.size = N
 dfr : a.defers = g₀.dfr
 rep : ∀ t, Rep g (σ t) (a.tmps.getD t undef)
 claim : ∀ t, Claim g w w₀.heap.size (σ t) (a.tmps.getD t undef)
 sep : ∀ t t' b, spare (σ t) (a.tmps.getD t undef) = some b → spare (σ t') (a.tmps.getD t' undef) = some b → t = t'
 low : g₀.top ≤ S.b ∧ S.b < S.n
 none0 : ∀ i k, g₀.top ≤ i → g₀.loc i k = none
def upd (σ : Nat → V) (d : Nat) (v : V) : Nat → V := fun t => if t = d then v else σ t
@[simp] theorem upd_same (σ : Nat → V) (d : Nat) (v : V) : upd σ d v d = v := by simp [upd]
theorem upd_ne (σ : Nat → V) {d t : Nat} (v : V) (h : t ≠ d) : upd σ d v t = σ t := by simp [upd, h]
theorem getD_put (a : Act) (d : Nat) (v : Value) (t : Nat) (hd : d < a.tmps.size) :
  (a.put (some d) v).tmps.getD t undef = if t = d then v else a.tmps.getD t undef := by
 simp only [Act.put]
 by_cases h : t = d
 ·subst h; simp [hd]
 ·simp [h, Array.getElem?_setIfInBounds_ne (Ne.symm h)]
theorem Sim.put' {g₀ g g' : Gh} {w₀ w w' : World} {N : Nat} {σ : Nat → V} {S S' : St} {a : Act} (h : Sim g₀ w₀ N g σ S a w) {d : Nat} {x : V} {v : Value} (hd : d < N)
  (hext : Ext g₀ w₀ g' w') (hsim : SimW g' S' w') (hle : Le g g') (hr : Rep g' x v)
  (hcl : ∀ t, t ≠ d → Claim g w w₀.heap.size (σ t) (a.tmps.getD t undef) → Claim g' w' w₀.heap.size (σ t) (a.tmps.getD t undef))
  (hc : Claim g' w' w₀.heap.size x v) (hs : ∀ t b, t ≠ d → spare (σ t) (a.tmps.getD t undef) = some b → spare x v ≠ some b) (hlow : S.n ≤ S'.n := by exact Nat.le_refl _) (hbb : S'.b = S.b := by rfl) :
  Sim g₀ w₀ N g' (upd σ d x) S' (a.put (some d) v) w' where
 ext := hext
 sim := hsim
 size := by simp [Act.put, h.size]
 dfr := h.dfr
 rep t := by
  rw [getD_put a d v t (by rw [h.size]; exact hd)]
  by_cases ht : t = d
  ·subst ht; simpa using hr
  ·simp only [upd, ht, if_false]; exact (h.rep t).mono hle
 claim t := by
  rw [getD_put a d v t (by rw [h.size]; exact hd)]
  by_cases ht : t = d
  ·subst ht; simpa using hc
  ·simp only [upd, ht, if_false]; exact hcl t ht (h.claim t)
 sep t t' b h1 h2 := by
  rw [getD_put a d v t (by rw [h.size]; exact hd)] at h1
  rw [getD_put a d v t' (by rw [h.size]; exact hd)] at h2
  by_cases ht : t = d <;> by_cases ht' : t' = d <;> simp only [upd, ht, ht', if_true, if_false] at h1 h2
  ·rw [ht, ht']
  ·exact absurd h1 (hs t' b ht' h2)
  ·exact absurd h2 (hs t b ht h1)
  ·exact h.sep t t' b h1 h2
 low := by have := h.low; omega
 none0 := h.none0
theorem Sim.put {g₀ g : Gh} {w₀ w : World} {N : Nat} {σ : Nat → V} {S : St} {a : Act} (h : Sim g₀ w₀ N g σ S a w) {d : Nat} {x : V} {v : Value} (hd : d < N)
  (hr : Rep g x v) (hg : x.isGr = false) : Sim g₀ w₀ N g (upd σ d x) S (a.put (some d) v) w :=
 h.put' hd h.ext h.sim (.refl g) hr (fun _ _ c => c) (.of_not hg) (fun _ _ _ _ => by rw [spare_not hg]; simp)
theorem Sim.weaken {g₀ g : Gh} {w₀ w : World} {N : Nat} {σ σ' : Nat → V} {S : St} {a : Act} (h : Sim g₀ w₀ N g σ S a w)
  (hw : ∀ t, σ' t = σ t ∨ σ' t = .any ∨ σ' t = (σ t).plain) : Sim g₀ w₀ N g σ' S a w where
 ext := h.ext
 sim := h.sim
 size := h.size
 dfr := h.dfr
 rep t := by
  rcases hw t with e | e | e <;> rw [e]
  ·exact h.rep t
  ·exact .any _
  ·exact (h.rep t).toPlain
 claim t := by
  rcases hw t with e | e | e <;> rw [e]
  ·exact h.claim t
  ·trivial
  ·exact .of_not (by cases σ t <;> rfl)
 sep t t' b h1 h2 := by
  have key : ∀ t b, spare (σ' t) (a.tmps.getD t undef) = some b → spare (σ t) (a.tmps.getD t undef) = some b := by
   intro t b h1
   rcases hw t with e | e | e <;> rw [e] at h1
   ·exact h1
   ·simp [spare] at h1
   ·rw [spare_not (by cases σ t <;> rfl)] at h1; cases h1
  exact h.sep t t' b (key t b h1) (key t' b h2)
 low := h.low
 none0 := h.none0
theorem Sim.drew {g₀ g : Gh} {w₀ w : World} {N : Nat} {σ : Nat → V} {S : St} {a : Act} (h : Sim g₀ w₀ N g σ S a w) (n : Nat) :
  Sim g₀ w₀ N g σ S a { w with drawn := n } where
 ext := ⟨h.ext.le, h.ext.os, h.ext.tape, h.ext.output, h.ext.size, h.ext.block, h.ext.newLoc, h.ext.newM, h.ext.top, h.ext.newName⟩
 sim := ⟨h.sim.mem, h.sim.box, h.sim.inj, h.sim.boxM, h.sim.locB, h.sim.fresh⟩
 size := h.size
 dfr := h.dfr
 rep := h.rep
 claim := h.claim
 sep := h.sep
 low := h.low
 none0 := h.none0
def Gh.addM (g : Gh) (b : Nat) (cs : Array Value) : Gh := { g with M := fun b' o => if b' = b then cs[o]? else g.M b' o }
theorem heap_alloc_lt (w : World) (o : Obj) (k : Nat) (h : k < w.heap.size) : (w.alloc o).heap[k]? = w.heap[k]? := by
 show (w.heap.push o)[k]? = _
 rw [Array.getElem?_push, if_neg (by omega)]
theorem heap_alloc_new (w : World) (o : Obj) : (w.alloc o).heap[w.heap.size]? = some o := by
 show (w.heap.push o)[w.heap.size]? = _
 simp
theorem Claim.step {g g' : Gh} {w w' : World} {base : Nat} {x : V} {v : Value} (h : Claim g w base x v)
  (hB : ∀ b, spare x v = some b → b < w.heap.size → (∀ i k, g.loc i k ≠ some b) → w'.heap[b]? = w.heap[b]?)
  (hM : ∀ b k, spare x v = some b → b < w.heap.size → g.M b k = none → g'.M b k = none) (hL : ∀ i k b, b < w.heap.size → g.loc i k ≠ some b → g'.loc i k ≠ some b) : Claim g' w' base x v := by
 unfold Claim at *
 split at h
 ·rename_i e nl sz xs v
  obtain ⟨⟨vals, h1⟩, h2⟩ := h
  refine ⟨⟨vals, h1.1, ?_⟩, fun b hb => ?_⟩
  ·rcases h1.2 with h3 | ⟨gb, cap, cur, rfl, hb, hg, rest⟩
   ·exact .inl h3
   ·refine .inr ⟨gb, cap, cur, rfl, hb, ?_, rest⟩
    have hlt : gb < w.heap.size := (Array.getElem?_eq_some_iff.1 hg).1
    rw [hB gb rfl hlt (h2 gb rfl).2]; exact hg
  ·have hlt := (h1.lt b hb).2
   exact ⟨fun k hk => hM b k hb hlt ((h2 b hb).1 k hk), fun i l => hL i l b hlt ((h2 b hb).2 i l)⟩
 ·trivial
theorem Claim.lt {g : Gh} {w : World} {base : Nat} {x : V} {v : Value} (h : Claim g w base x v) {b : Nat} (hb : spare x v = some b) : base ≤ b ∧ b < w.heap.size ∧ ∀ i k, g.loc i k ≠ some b := by
 unfold Claim at h
 split at h
 ·rename_i e nl sz xs v
  obtain ⟨⟨vals, h1⟩, h2⟩ := h
  exact ⟨(h1.lt b hb).1, (h1.lt b hb).2, (h2 b hb).2⟩
 ·rename_i hne
  cases x with
  | gr e nl sz xs => exact (hne e nl sz xs rfl).elim
  | _ => simp [spare] at hb
def Gh.addBox (g : Gh) (i l b : Nat) : Gh := { g with loc := fun j m => if j = i ∧ m = l then some b else g.loc j m }
def St.set (S : St) (i l : Nat) (x : V) : St := { S with H := upd2 S.O S.H i l x }
def St.add (S : St) (x : V) : St := { S with H := upd2 S.O S.H S.b S.c x, c := S.c + 1 }
theorem upd2_eq {O : Ops} (hO : O = Ops.std) (H : Nat → Nat → Option V) (b k : Nat) (x : V) (b' k' : Nat) : upd2 O H b k x b' k' = if b' = b ∧ k' = k then some x else H b' k' := by
 subst hO
 unfold upd2
 have e : ∀ m n : Nat, Nat.beq m n = decide (m = n) := fun m n => by
  by_cases h : m = n
  ·subst h; simp
  ·have : Nat.beq m n = false := by
    cases hb : Nat.beq m n with
    | false => rfl
    | true => exact absurd (Nat.eq_of_beq_eq_true hb) h
   simp [this, h]
 have e2 : Ops.std.same b' b = decide (b' = b) := rfl
 rw [e, e2]
 by_cases h1 : k' = k <;> by_cases h2 : b' = b <;> simp [h1, h2]
theorem Le.addBox {g : Gh} {i l b : Nat} (h : g.loc i l = none) : Le g (g.addBox i l b) where
 M _ _ _ h := h
 loc j m c hj := by
  have : ¬ (j = i ∧ m = l) := fun e => by rw [e.1, e.2, h] at hj; cases hj
  simp [Gh.addBox, this, hj]
theorem SimW.addBox {g : Gh} {S S' : St} {w : World} (h : SimW g S w) (i l : Nat) (x : V) (hf : g.loc i l = none) (hH : S'.H = upd2 S.O S.H i l x) (hk : S'.ok i l = true) (hn : ∀ j m, S'.ok j m = false → S.ok j m = false)
  (o : Obj) (hr : ObjRep g x o) : SimW (g.addBox i l w.heap.size) S' (w.alloc o) := by
 have hle : Le g (g.addBox i l w.heap.size) := Le.addBox hf
 constructor
 ·intro b o' v hv
  have := World.block_lt_of_cell? _ _ (h.mem b o' v hv)
  rw [World.cell?_alloc_lt _ _ _ this]; exact h.mem b o' v hv
 ·intro j m y hy
  rw [hH, upd2_eq S.hO] at hy
  by_cases hi : j = i ∧ m = l
  ·obtain ⟨rfl, rfl⟩ := hi
   simp only [and_self, if_true, Option.some.injEq] at hy
   subst hy
   exact ⟨w.heap.size, o, by simp [Gh.addBox], heap_alloc_new _ _, hr.mono hle⟩
  ·rw [if_neg hi] at hy
   obtain ⟨b, c, h1, h2, h3⟩ := h.box j m y hy
   exact ⟨b, c, hle.loc _ _ _ h1, by rw [heap_alloc_lt _ _ _ (h.locB j m b h1)]; exact h2, h3.mono hle⟩
 ·intro j m j' m' b hi hj
  simp only [Gh.addBox] at hi hj
  split at hi <;> split at hj
  ·rename_i e1 e2; exact ⟨e1.1.trans e2.1.symm, e1.2.trans e2.2.symm⟩
  ·have := h.locB j' m' b hj; simp only [Option.some.injEq] at hi; omega
  ·have := h.locB j m b hi; simp only [Option.some.injEq] at hj; omega
  ·exact h.inj j m j' m' b hi hj
 ·intro j m b hi o
  simp only [Gh.addBox] at hi
  split at hi
  ·simp only [Option.some.injEq] at hi
   cases hm : g.M b o with
   | none => exact hm
   | some v => have := World.block_lt_of_cell? _ _ (h.mem b o v hm); simp at this; omega
  ·exact h.boxM j m b hi o
 ·intro j m b hi
  simp only [Gh.addBox] at hi
  split at hi
  ·simp only [Option.some.injEq] at hi; simp; omega
  ·have := h.locB j m b hi; simp; omega
 ·intro j m hi
  simp only [Gh.addBox]
  rw [if_neg (fun e => by rw [e.1, e.2, hk] at hi; cases hi)]; exact h.fresh j m (hn j m hi)
theorem Ext.addBox {g₀ g : Gh} {w₀ w : World} (h : Ext g₀ w₀ g w) {i l : Nat} (hf : g.loc i l = none) (hk : g₀.top ≤ i) (o : Obj) : Ext g₀ w₀ (g.addBox i l w.heap.size) (w.alloc o) where
 le := h.le.trans (Le.addBox hf)
 os := h.os
 tape := h.tape
 output := h.output
 size := by have := h.size; simp; omega
 block b hb hn := by rw [heap_alloc_lt _ _ _ (by have := h.size; omega)]; exact h.block b hb hn
 newLoc j m b hi := by
  simp only [Gh.addBox] at hi
  split at hi
  ·simp only [Option.some.injEq] at hi; exact .inr (by have := h.size; omega)
  ·exact h.newLoc j m b hi
 newM := h.newM
 top := h.top
 newName j m hi hn := by
  simp only [Gh.addBox]
  rw [if_neg (by omega)]; exact h.newName j m hi hn
end Go.Pl
end
