/- The relation between the abstract state and the machine's. -/
import Derived.Test.YtllbopmdpmjcpaaGreatDoorPlBase
set_option linter.unusedSimpArgs false
set_option linter.unusedVariables false
set_option linter.unusedSectionVars false
namespace Go.Pl

/-- What the walk leaves to be told of numbers, lists and strings: always 'Ops.std'; a variable in a walk, so that nothing of it is unfolded. -/
structure Ops where
  same : Nat → Nat → Bool
  ieq : Int → Int → Bool
  ilt : Int → Int → Bool
  ile : Int → Int → Bool
  iop : BinOp → IntKind → Int → IntKind → Int → Option V
  wrap : IntKind → Int → Int
  neg : IntKind → Int → Int
  len : List V → Int
  get : List V → Int → Option V
  cut : List V → Int → Int → Option (List V)
  app : List V → List V → List V
  fit : Nat → List V → List V → Bool
  emp : List V → Bool
  good : Nat → List V → Bool
  seq : List UInt8 → List UInt8 → Bool
  slt : List UInt8 → List UInt8 → Bool
  slen : List UInt8 → Int
  sget : List UInt8 → Int → Option Int
  scut : List UInt8 → Int → Int → Option (List UInt8)
  scat : List UInt8 → List UInt8 → Option (List UInt8)

/-- A simple value of the machine's as an abstract one. -/
def absS : Value → Option V
  | .bool b => some (.bool b)
  | .int k n => some (.int k n)
  | .string s => some (.str s.data.toList)
  | .pointer none => some .nilp
  | .slice none 0 0 => some (.sl true 4 [])
  | .nilFunc => some .nilfn
  | .nilIface => some .niliface
  | _ => none

def Ops.std : Ops where
  same a b := decide (a = b)
  ieq a b := decide (a = b)
  ilt a b := decide (a < b)
  ile a b := decide (a ≤ b)
  iop op k a k' b := match binOp op 0 (.int k a) (.int k' b) with
    | .pure v => absS v
    | _ => none
  wrap k n := k.wrap n
  neg k n := k.wrap (0 - n)
  len xs := xs.length
  get xs n := if 0 ≤ n ∧ n < xs.length then xs[n.toNat]? else none
  cut xs l h := if 0 ≤ l ∧ l ≤ h ∧ h ≤ xs.length then some ((xs.take h.toNat).drop l.toNat) else none
  app xs ys := xs ++ ys
  fit bytes xs ys := decide ((xs.length + ys.length) * bytes ≤ 1099511627776 ∧ xs.length + ys.length ≤ 1099511627776)
  emp xs := xs.isEmpty
  good sz xs := xs.all (fun x => x.data && x.cells.length == sz) && decide (xs.length * sz ≤ 16777216)
  seq a b := decide (a = b)
  slt a b := Op.bytesLess a b
  slen s := s.length
  sget s n := if 0 ≤ n then (s[n.toNat]?).map fun b => (b.toNat : Int) else none
  scut s l h := if 0 ≤ l ∧ l ≤ h ∧ h ≤ s.length then some ((s.take h.toNat).drop l.toNat) else none
  scat a b := if a.length + b.length ≤ 1099511627776 then some (a ++ b) else none

/-- The boxes: what each holds; from which base on names are free; the base of the names made here, and how many there are. -/
structure St where
  H : Nat → Nat → Option V
  n : Nat
  b : Nat
  c : Nat
  O : Ops
  hO : O = Ops.std

/-- A name that may be in use. -/
def St.ok (S : St) (i k : Nat) : Bool := decide (i < S.n) && !(i == S.b && decide (S.c ≤ k))

theorem ok_iff (S : St) (i k : Nat) : S.ok i k = true ↔ i < S.n ∧ (i = S.b → k < S.c) := by
  simp only [St.ok, Bool.and_eq_true, decide_eq_true_eq, Bool.not_eq_eq_eq_not, Bool.not_true, Bool.and_eq_false_iff, beq_eq_false_iff_ne, ne_eq, decide_eq_false_iff_not, Nat.not_le]
  constructor
  · rintro ⟨h1, h2 | h2⟩
    · exact ⟨h1, fun h => absurd h h2⟩
    · exact ⟨h1, fun _ => h2⟩
  · rintro ⟨h1, h2⟩
    refine ⟨h1, ?_⟩
    by_cases h : i = S.b
    · exact .inr (h2 h)
    · exact .inl h

theorem ok_not (S : St) (i k : Nat) : S.ok i k = false ↔ ¬ (i < S.n ∧ (i = S.b → k < S.c)) := by
  rw [← ok_iff, Bool.not_eq_true]

def upd2 (O : Ops) (H : Nat → Nat → Option V) (b k : Nat) (x : V) : Nat → Nat → Option V := fun b' k' => bif Nat.beq k' k then (bif O.same b' b then some x else H b' k') else H b' k'

structure SimW (g : Gh) (S : St) (w : World) : Prop where
  mem : ∀ b o v, g.M b o = some v → w.cell? ⟨b, o, none⟩ = some v
  box : ∀ i k x, S.H i k = some x → ∃ b cs e, g.loc i k = some b ∧ w.heap[b]? = some (.cells cs e (0, 0)) ∧ Cells g x.cells cs
  inj : ∀ i k j l b, g.loc i k = some b → g.loc j l = some b → i = j ∧ k = l
  boxM : ∀ i k b, g.loc i k = some b → ∀ o, g.M b o = none
  locB : ∀ i k b, g.loc i k = some b → b < w.heap.size
  fresh : ∀ i k, S.ok i k = false → g.loc i k = none

/-- What has become of the world (g, w) at (g', w'): only boxes have been written, and blocks made. -/
structure Ext (g : Gh) (w : World) (g' : Gh) (w' : World) : Prop where
  le : Le g g'
  os : w'.os = w.os
  tape : w'.tape = w.tape
  output : w'.output = w.output
  size : w.heap.size ≤ w'.heap.size
  block : ∀ b, b < w.heap.size → (∀ i k, g.loc i k ≠ some b) → w'.heap[b]? = w.heap[b]?
  newLoc : ∀ i k b, g'.loc i k = some b → g.loc i k = some b ∨ w.heap.size ≤ b
  newM : ∀ b o v, g'.M b o = some v → g.M b o = some v ∨ w.heap.size ≤ b
  top : g'.top = g.top
  newName : ∀ i k, i < g.top → g.loc i k = none → g'.loc i k = none
  froz : ∀ a, w'.frozen? a = w.frozen? a

theorem frozen_alloc (w : World) (c : Array Value) (t : TypeId) (a : Addr) : (w.alloc (.cells c t)).frozen? a = w.frozen? a := by
  by_cases h : a.block = w.heap.size
  · have e1 : (w.alloc (.cells c t)).heap[a.block]? = some (.cells c t) := by rw [h]; show (w.heap.push _)[w.heap.size]? = _; simp
    have e2 : w.heap[a.block]? = none := by rw [h]; simp
    simp [World.frozen?, e1, e2]
  · have e : (w.alloc (.cells c t)).heap[a.block]? = w.heap[a.block]? := by
      show (w.heap.push _)[a.block]? = _
      rw [Array.getElem?_push, if_neg h]
    simp only [World.frozen?, e]

theorem frozen_of {w w' : World} {b : Nat} {c c' : Array Value} {t t' : TypeId} (h : w.heap[b]? = some (.cells c t (0, 0))) (h' : w'.heap[b]? = some (.cells c' t' (0, 0))) (ho : ∀ k, k ≠ b → w'.heap[k]? = w.heap[k]?) (a : Addr) :
    w'.frozen? a = w.frozen? a := by
  by_cases e : a.block = b
  · simp only [World.frozen?, e, h, h']
  · simp only [World.frozen?, ho _ e]

theorem Ext.refl (g : Gh) (w : World) : Ext g w g w :=
  ⟨.refl g, rfl, rfl, rfl, Nat.le_refl _, fun _ _ _ => rfl, fun _ _ _ h => .inl h, fun _ _ _ h => .inl h, rfl, fun _ _ _ h => h, fun _ => rfl⟩

theorem Ext.trans {g₁ g₂ g₃ : Gh} {w₁ w₂ w₃ : World} (h : Ext g₁ w₁ g₂ w₂) (k : Ext g₂ w₂ g₃ w₃) : Ext g₁ w₁ g₃ w₃ where
  le := h.le.trans k.le
  os := k.os.trans h.os
  tape := k.tape.trans h.tape
  output := k.output.trans h.output
  size := Nat.le_trans h.size k.size
  block b hb hn := by
    refine (k.block b (Nat.lt_of_lt_of_le hb h.size) fun i l hi => ?_).trans (h.block b hb hn)
    rcases h.newLoc i l b hi with h' | h'
    · exact hn i l h'
    · omega
  newLoc i l b hi := by
    rcases k.newLoc i l b hi with h' | h'
    · exact h.newLoc i l b h'
    · exact .inr (Nat.le_trans h.size h')
  newM b o v hv := by
    rcases k.newM b o v hv with h' | h'
    · exact h.newM b o v h'
    · exact .inr (Nat.le_trans h.size h')
  top := k.top.trans h.top
  newName i l hi hn := k.newName i l (by rw [h.top]; exact hi) (h.newName i l hi hn)
  froz a := (k.froz a).trans (h.froz a)

/-- The block that the holder of a growing slice may write behind the slice's end. -/
def spare : V → Value → Option Nat
  | .gr _ _ _ _, v => v.ownBlock
  | _, _ => none

/-- What the holder of a growing slice knows. -/
def Claim (g : Gh) (w : World) (base : Nat) : V → Value → Prop
  | .gr e _ sz xs, v => (∃ vals, w.ownsRow base e sz v xs.length vals) ∧ ∀ b, v.ownBlock = some b → (∀ k, xs.length * sz ≤ k → g.M b k = none) ∧ ∀ i k, g.loc i k ≠ some b
  | _, _ => True

theorem Claim.of_not {g : Gh} {w : World} {base : Nat} {x : V} {v : Value} (h : x.isGr = false) : Claim g w base x v := by
  cases x <;> first | trivial | (simp [V.isGr] at h)

theorem spare_not {x : V} {v : Value} (h : x.isGr = false) : spare x v = none := by
  cases x <;> first | rfl | (simp [V.isGr] at h)

structure Sim (g₀ : Gh) (w₀ : World) (N : Nat) (g : Gh) (σ : Nat → V) (S : St) (a : Act) (w : World) : Prop where
  ext : Ext g₀ w₀ g w
  sim : SimW g S w
  size : a.tmps.size = N
  dfr : a.defers = []
  rep : ∀ t, Rep g (σ t) (a.tmps.getD t undef)
  claim : ∀ t, Claim g w w₀.heap.size (σ t) (a.tmps.getD t undef)
  sep : ∀ t t' b, spare (σ t) (a.tmps.getD t undef) = some b → spare (σ t') (a.tmps.getD t' undef) = some b → t = t'
  low : g₀.top ≤ S.b ∧ S.b < S.n
  none0 : ∀ i k, g₀.top ≤ i → g₀.loc i k = none

def upd (σ : Nat → V) (d : Nat) (v : V) : Nat → V := fun t => if t = d then v else σ t

@[simp] theorem upd_same (σ : Nat → V) (d : Nat) (v : V) : upd σ d v d = v := by simp [upd]
theorem upd_ne (σ : Nat → V) {d t : Nat} (v : V) (h : t ≠ d) : upd σ d v t = σ t := by simp [upd, h]

theorem getD_put (a : Act) (d : Nat) (v : Value) (t : Nat) (hd : d < a.tmps.size) :
    (a.put (some d) v).tmps.getD t undef = if t = d then v else a.tmps.getD t undef := by
  simp only [Act.put]
  by_cases h : t = d
  · subst h; simp [hd]
  · simp [h, Array.getElem?_setIfInBounds_ne (Ne.symm h)]

/-- A value is laid into a temporary; the state around it is another, but no claim is touched. -/
theorem Sim.put' {g₀ g g' : Gh} {w₀ w w' : World} {N : Nat} {σ : Nat → V} {S S' : St} {a : Act} (h : Sim g₀ w₀ N g σ S a w) {d : Nat} {x : V} {v : Value} (hd : d < N)
    (hext : Ext g₀ w₀ g' w') (hsim : SimW g' S' w') (hle : Le g g') (hr : Rep g' x v)
    (hcl : ∀ t, t ≠ d → Claim g w w₀.heap.size (σ t) (a.tmps.getD t undef) → Claim g' w' w₀.heap.size (σ t) (a.tmps.getD t undef))
    (hc : Claim g' w' w₀.heap.size x v) (hs : ∀ t b, t ≠ d → spare (σ t) (a.tmps.getD t undef) = some b → spare x v ≠ some b) (hlow : S.n ≤ S'.n := by exact Nat.le_refl _) (hbb : S'.b = S.b := by rfl) :
    Sim g₀ w₀ N g' (upd σ d x) S' (a.put (some d) v) w' where
  ext := hext
  sim := hsim
  size := by simp [Act.put, h.size]
  dfr := h.dfr
  rep t := by
    rw [getD_put a d v t (by rw [h.size]; exact hd)]
    by_cases ht : t = d
    · subst ht; simpa using hr
    · simp only [upd, ht, if_false]; exact (h.rep t).mono hle
  claim t := by
    rw [getD_put a d v t (by rw [h.size]; exact hd)]
    by_cases ht : t = d
    · subst ht; simpa using hc
    · simp only [upd, ht, if_false]; exact hcl t ht (h.claim t)
  sep t t' b h1 h2 := by
    rw [getD_put a d v t (by rw [h.size]; exact hd)] at h1
    rw [getD_put a d v t' (by rw [h.size]; exact hd)] at h2
    by_cases ht : t = d <;> by_cases ht' : t' = d <;> simp only [upd, ht, ht', if_true, if_false] at h1 h2
    · rw [ht, ht']
    · exact absurd h1 (hs t' b ht' h2)
    · exact absurd h2 (hs t b ht h1)
    · exact h.sep t t' b h1 h2
  low := by have := h.low; omega
  none0 := h.none0

/-- A plain value is laid into a temporary, the world as it is. -/
theorem Sim.put {g₀ g : Gh} {w₀ w : World} {N : Nat} {σ : Nat → V} {S : St} {a : Act} (h : Sim g₀ w₀ N g σ S a w) {d : Nat} {x : V} {v : Value} (hd : d < N)
    (hr : Rep g x v) (hg : x.isGr = false) : Sim g₀ w₀ N g (upd σ d x) S (a.put (some d) v) w :=
  h.put' hd h.ext h.sim (.refl g) hr (fun _ _ c => c) (.of_not hg) (fun _ _ _ _ => by rw [spare_not hg]; simp)

/-- Less may be known of a temporary. -/
theorem Sim.weaken {g₀ g : Gh} {w₀ w : World} {N : Nat} {σ σ' : Nat → V} {S : St} {a : Act} (h : Sim g₀ w₀ N g σ S a w)
    (hw : ∀ t, σ' t = σ t ∨ σ' t = .any ∨ σ' t = (σ t).plain) : Sim g₀ w₀ N g σ' S a w where
  ext := h.ext
  sim := h.sim
  size := h.size
  dfr := h.dfr
  rep t := by
    rcases hw t with e | e | e <;> rw [e]
    · exact h.rep t
    · exact .any _
    · exact (h.rep t).toPlain
  claim t := by
    rcases hw t with e | e | e <;> rw [e]
    · exact h.claim t
    · trivial
    · exact .of_not (by cases σ t <;> rfl)
  sep t t' b h1 h2 := by
    have key : ∀ t b, spare (σ' t) (a.tmps.getD t undef) = some b → spare (σ t) (a.tmps.getD t undef) = some b := by
      intro t b h1
      rcases hw t with e | e | e <;> rw [e] at h1
      · exact h1
      · simp [spare] at h1
      · rw [spare_not (by cases σ t <;> rfl)] at h1; cases h1
    exact h.sep t t' b (key t b h1) (key t' b h2)
  low := h.low
  none0 := h.none0

/-- Drawn orders. -/
theorem Sim.drew {g₀ g : Gh} {w₀ w : World} {N : Nat} {σ : Nat → V} {S : St} {a : Act} (h : Sim g₀ w₀ N g σ S a w) (n : Nat) :
    Sim g₀ w₀ N g σ S a { w with drawn := n } where
  ext := ⟨h.ext.le, h.ext.os, h.ext.tape, h.ext.output, h.ext.size, h.ext.block, h.ext.newLoc, h.ext.newM, h.ext.top, h.ext.newName, h.ext.froz⟩
  sim := ⟨h.sim.mem, h.sim.box, h.sim.inj, h.sim.boxM, h.sim.locB, h.sim.fresh⟩
  size := h.size
  dfr := h.dfr
  rep := h.rep
  claim := h.claim
  sep := h.sep
  low := h.low
  none0 := h.none0

/-! ### A new block -/

def Gh.addM (g : Gh) (b : Nat) (cs : Array Value) : Gh := { g with M := fun b' o => if b' = b then cs[o]? else g.M b' o }

theorem Le.addM {g : Gh} {S : St} {w : World} (h : SimW g S w) (cs : Array Value) : Le g (g.addM w.heap.size cs) where
  M b o v hv := by
    have : b ≠ w.heap.size := by
      have := World.block_lt_of_cell? _ _ (h.mem b o v hv)
      simp at this; omega
    simp [Gh.addM, this, hv]
  loc _ _ _ h := h

theorem heap_alloc_lt (w : World) (o : Obj) (k : Nat) (h : k < w.heap.size) : (w.alloc o).heap[k]? = w.heap[k]? := by
  show (w.heap.push o)[k]? = _
  rw [Array.getElem?_push, if_neg (by omega)]

theorem heap_alloc_new (w : World) (o : Obj) : (w.alloc o).heap[w.heap.size]? = some o := by
  show (w.heap.push o)[w.heap.size]? = _
  simp

/-- A new block of cells that nobody will write (but perhaps behind those that are told). -/
theorem SimW.addM {g : Gh} {S : St} {w : World} (h : SimW g S w) (all : Array Value) (cs : Array Value) (e : TypeId)
    (hcs : ∀ (i : Nat) (v : Value), cs[i]? = some v → all[i]? = some v) : SimW (g.addM w.heap.size cs) S (w.alloc (.cells all e)) where
  mem b o v hv := by
    by_cases hb : b = w.heap.size
    · subst hb
      simp only [Gh.addM, if_true] at hv
      rw [World.cell?_alloc_new]; exact hcs _ _ hv
    · simp only [Gh.addM, hb, if_false] at hv
      rw [World.cell?_alloc_old _ _ _ (by simpa using hb)]; exact h.mem b o v hv
  box i l x hx := by
    obtain ⟨b, c, e', h1, h2, h3⟩ := h.box i l x hx
    refine ⟨b, c, e', h1, ?_, h3.mono (Le.addM h cs)⟩
    rw [heap_alloc_lt _ _ _ (h.locB i l b h1)]; exact h2
  inj := h.inj
  boxM i l b hi o := by
    have := h.locB i l b hi
    simp only [Gh.addM]
    rw [if_neg (by omega)]; exact h.boxM i l b hi o
  locB i l b hi := by have := h.locB i l b hi; simp; omega
  fresh := h.fresh

theorem Ext.addM {g₀ g : Gh} {w₀ w : World} {S : St} (h : Ext g₀ w₀ g w) (hs : SimW g S w) (all cs : Array Value) (e : TypeId) :
    Ext g₀ w₀ (g.addM w.heap.size cs) (w.alloc (.cells all e)) where
  le := h.le.trans (Le.addM hs cs)
  os := h.os
  tape := h.tape
  output := h.output
  size := by have := h.size; simp; omega
  block b hb hn := by rw [heap_alloc_lt _ _ _ (by have := h.size; omega)]; exact h.block b hb hn
  newLoc := h.newLoc
  newM b o v hv := by
    by_cases hb : b = w.heap.size
    · exact .inr (by rw [hb]; exact h.size)
    · simp only [Gh.addM, hb, if_false] at hv; exact h.newM b o v hv
  top := h.top
  newName := h.newName
  froz a := (frozen_alloc _ _ _ a).trans (h.froz a)

/-- The claims outlive a step that leaves their blocks alone. -/
theorem Claim.step {g g' : Gh} {w w' : World} {base : Nat} {x : V} {v : Value} (h : Claim g w base x v)
    (hB : ∀ b, spare x v = some b → b < w.heap.size → (∀ i k, g.loc i k ≠ some b) → w'.heap[b]? = w.heap[b]?)
    (hM : ∀ b k, spare x v = some b → b < w.heap.size → g.M b k = none → g'.M b k = none) (hL : ∀ i k b, b < w.heap.size → g.loc i k ≠ some b → g'.loc i k ≠ some b) : Claim g' w' base x v := by
  unfold Claim at *
  split at h
  · rename_i e nl sz xs v
    obtain ⟨⟨vals, h1⟩, h2⟩ := h
    refine ⟨⟨vals, h1.1, ?_⟩, fun b hb => ?_⟩
    · rcases h1.2 with h3 | ⟨gb, cap, cur, rfl, hb, hg, rest⟩
      · exact .inl h3
      · refine .inr ⟨gb, cap, cur, rfl, hb, ?_, rest⟩
        have hlt : gb < w.heap.size := (Array.getElem?_eq_some_iff.1 hg).1
        rw [hB gb rfl hlt (h2 gb rfl).2]; exact hg
    · have hlt := (h1.lt b hb).2
      exact ⟨fun k hk => hM b k hb hlt ((h2 b hb).1 k hk), fun i l => hL i l b hlt ((h2 b hb).2 i l)⟩
  · trivial

theorem Claim.lt {g : Gh} {w : World} {base : Nat} {x : V} {v : Value} (h : Claim g w base x v) {b : Nat} (hb : spare x v = some b) : base ≤ b ∧ b < w.heap.size ∧ ∀ i k, g.loc i k ≠ some b := by
  unfold Claim at h
  split at h
  · rename_i e nl sz xs v
    obtain ⟨⟨vals, h1⟩, h2⟩ := h
    exact ⟨(h1.lt b hb).1, (h1.lt b hb).2, (h2 b hb).2⟩
  · rename_i hne
    cases x with
    | gr e nl sz xs => exact (hne e nl sz xs rfl).elim
    | _ => simp [spare] at hb

/-! ### A new box -/

def Gh.addBox (g : Gh) (i l b : Nat) : Gh := { g with loc := fun j m => if j = i ∧ m = l then some b else g.loc j m }
def St.set (S : St) (i l : Nat) (x : V) : St := { S with H := upd2 S.O S.H i l x }
def St.add (S : St) (x : V) : St := { S with H := upd2 S.O S.H S.b S.c x, c := S.c + 1 }

theorem upd2_eq {O : Ops} (hO : O = Ops.std) (H : Nat → Nat → Option V) (b k : Nat) (x : V) (b' k' : Nat) : upd2 O H b k x b' k' = if b' = b ∧ k' = k then some x else H b' k' := by
  subst hO
  unfold upd2
  have e : ∀ m n : Nat, Nat.beq m n = decide (m = n) := fun m n => by
    by_cases h : m = n
    · subst h; simp
    · have : Nat.beq m n = false := by
        cases hb : Nat.beq m n with
        | false => rfl
        | true => exact absurd (Nat.eq_of_beq_eq_true hb) h
      simp [this, h]
  have e2 : Ops.std.same b' b = decide (b' = b) := rfl
  rw [e, e2]
  by_cases h1 : k' = k <;> by_cases h2 : b' = b <;> simp [h1, h2]

theorem Le.addBox {g : Gh} {i l b : Nat} (h : g.loc i l = none) : Le g (g.addBox i l b) where
  M _ _ _ h := h
  loc j m c hj := by
    have : ¬ (j = i ∧ m = l) := fun e => by rw [e.1, e.2, h] at hj; cases hj
    simp [Gh.addBox, this, hj]

theorem SimW.addBox {g : Gh} {S S' : St} {w : World} (h : SimW g S w) (i l : Nat) (x : V) (hf : g.loc i l = none) (hH : S'.H = upd2 S.O S.H i l x) (hk : S'.ok i l = true) (hn : ∀ j m, S'.ok j m = false → S.ok j m = false)
    (cs : Array Value) (e : TypeId) (hr : Cells g x.cells cs) : SimW (g.addBox i l w.heap.size) S' (w.alloc (.cells cs e)) := by
  have hle : Le g (g.addBox i l w.heap.size) := Le.addBox hf
  constructor
  · intro b o v hv
    have := World.block_lt_of_cell? _ _ (h.mem b o v hv)
    rw [World.cell?_alloc_lt _ _ _ this]; exact h.mem b o v hv
  · intro j m y hy
    rw [hH, upd2_eq S.hO] at hy
    by_cases hi : j = i ∧ m = l
    · obtain ⟨rfl, rfl⟩ := hi
      simp only [and_self, if_true, Option.some.injEq] at hy
      subst hy
      exact ⟨w.heap.size, cs, e, by simp [Gh.addBox], heap_alloc_new _ _, hr.mono hle⟩
    · rw [if_neg hi] at hy
      obtain ⟨b, c, e', h1, h2, h3⟩ := h.box j m y hy
      exact ⟨b, c, e', hle.loc _ _ _ h1, by rw [heap_alloc_lt _ _ _ (h.locB j m b h1)]; exact h2, h3.mono hle⟩
  · intro j m j' m' b hi hj
    simp only [Gh.addBox] at hi hj
    split at hi <;> split at hj
    · rename_i e1 e2; exact ⟨e1.1.trans e2.1.symm, e1.2.trans e2.2.symm⟩
    · have := h.locB j' m' b hj; simp only [Option.some.injEq] at hi; omega
    · have := h.locB j m b hi; simp only [Option.some.injEq] at hj; omega
    · exact h.inj j m j' m' b hi hj
  · intro j m b hi o
    simp only [Gh.addBox] at hi
    split at hi
    · simp only [Option.some.injEq] at hi
      cases hm : g.M b o with
      | none => exact hm
      | some v => have := World.block_lt_of_cell? _ _ (h.mem b o v hm); simp at this; omega
    · exact h.boxM j m b hi o
  · intro j m b hi
    simp only [Gh.addBox] at hi
    split at hi
    · simp only [Option.some.injEq] at hi; simp; omega
    · have := h.locB j m b hi; simp; omega
  · intro j m hi
    simp only [Gh.addBox]
    rw [if_neg (fun e => by rw [e.1, e.2, hk] at hi; cases hi)]; exact h.fresh j m (hn j m hi)

theorem Ext.addBox {g₀ g : Gh} {w₀ w : World} (h : Ext g₀ w₀ g w) {i l : Nat} (hf : g.loc i l = none) (hk : g₀.top ≤ i) (c : Array Value) (t : TypeId) : Ext g₀ w₀ (g.addBox i l w.heap.size) (w.alloc (.cells c t)) where
  le := h.le.trans (Le.addBox hf)
  os := h.os
  tape := h.tape
  output := h.output
  size := by have := h.size; simp; omega
  block b hb hn := by rw [heap_alloc_lt _ _ _ (by have := h.size; omega)]; exact h.block b hb hn
  newLoc j m b hi := by
    simp only [Gh.addBox] at hi
    split at hi
    · simp only [Option.some.injEq] at hi; exact .inr (by have := h.size; omega)
    · exact h.newLoc j m b hi
  newM := h.newM
  top := h.top
  newName j m hi hn := by
    simp only [Gh.addBox]
    rw [if_neg (by omega)]; exact h.newName j m hi hn
  froz a := (frozen_alloc _ _ _ a).trans (h.froz a)

end Go.Pl
