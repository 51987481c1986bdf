/- The operations that only compute: what each yields on abstract values. -/
import Derived.Test.YtllbopmdpmjcpaaGreatDoorPlSim
import Derived.Great.FillDense
import Derived.Great.BuildSlice
set_option linter.unusedSimpArgs false
set_option linter.unusedVariables false
set_option linter.unusedSectionVars false
namespace Go.Pl

inductive X where
  | t (n : Nat)
  | k (v : V)
  deriving Inhabited

def X.ev (σ : Nat → V) : X → V
  | .t n => (σ n).plain
  | .k v => v

def absL : List Value → Option (List V)
  | [] => some []
  | v :: r => match absS v, absL r with
    | some x, some l => some (x :: l)
    | _, _ => none

def absV : Value → Option V
  | .agg vs => match absL vs.toList with
    | some l => some (.agg l)
    | none => none
  | v => absS v

theorem absS_rep {v : Value} {x : V} (h : absS v = some x) (g : Gh) : Rep g x v ∧ x.isGr = false ∧ v.oneCell' = true ∧ x.plain = x := by
  unfold absS at h
  split at h <;> cases h
  · exact ⟨.bool _, rfl, rfl, rfl⟩
  · exact ⟨.int _ _, rfl, rfl, rfl⟩
  · exact ⟨by rename_i s; have := Rep.str (g := g) s.data.toList; simpa using this, rfl, rfl, rfl⟩
  · exact ⟨.nilp, rfl, rfl, rfl⟩
  · exact ⟨.slNil _, rfl, rfl, rfl⟩
  · exact ⟨.nilfn, rfl, rfl, rfl⟩
  · exact ⟨.niliface, rfl, rfl, rfl⟩

theorem absL_rep : ∀ {l : List Value} {r : List V}, absL l = some r → ∀ (g : Gh), r.length = l.length ∧ ∀ (j : Nat) (y : V) (v : Value), r[j]? = some y → l[j]? = some v → Rep g y v ∧ v.oneCell' = true
  | [], r, h, g => by cases h; simp
  | v :: l, r, h, g => by
    unfold absL at h
    split at h
    · rename_i x l' h1 h2
      cases h
      have ih := absL_rep h2 g
      refine ⟨by simp [ih.1], fun j y u hy hu => ?_⟩
      cases j with
      | zero => simp at hy hu; subst hy; subst hu; have := absS_rep h1 g; exact ⟨this.1, this.2.2.1⟩
      | succ j => exact ih.2 j y u (by simpa using hy) (by simpa using hu)
    · cases h

theorem absV_rep {v : Value} {x : V} (h : absV v = some x) (g : Gh) : Rep g x v ∧ x.isGr = false ∧ x.plain = x := by
  unfold absV at h
  split at h
  · rename_i vs
    split at h <;> cases h
    rename_i l hl
    have := absL_rep hl g
    refine ⟨.agg l vs (by simpa using this.1) (fun j v hv => ?_) (fun j y v hy hv => (this.2 j y v hy (by simpa using hv)).1), rfl, rfl⟩
    have hlt : j < l.length := by rw [this.1]; simpa using (Array.getElem?_eq_some_iff.1 hv).1
    exact (this.2 j l[j] v (by simp [hlt]) (by simpa using hv)).2
  · have := absS_rep h g
    exact ⟨this.1, this.2.1, this.2.2.2⟩

def compX : Operand → Option X
  | .tmp t => some (.t t)
  | .const v => match absV v with
    | some x => some (.k x)
    | none => none
  | .func f => some (.k (.fn f []))
  | .global _ => none

theorem plain_isGr (x : V) : x.plain.isGr = false := by cases x <;> rfl

theorem compX_rep {o : Operand} {x : X} (h : compX o = some x) {g : Gh} {σ : Nat → V} {a : Act} (hr : ∀ t, Rep g (σ t) (a.tmps.getD t undef)) :
    Rep g (x.ev σ) (a.eval o) ∧ (x.ev σ).isGr = false := by
  cases o with
  | tmp t => simp only [compX, Option.some.injEq] at h; subst h; exact ⟨(hr t).toPlain, plain_isGr _⟩
  | const v =>
    simp only [compX] at h
    split at h <;> cases h
    rename_i x hx
    have := absV_rep hx g
    exact ⟨this.1, this.2.1⟩
  | func f =>
    simp only [compX, Option.some.injEq] at h; subst h
    exact ⟨.fn f [] #[] rfl (by simp), rfl⟩
  | global n => simp [compX] at h

def compXs : List Operand → Option (List X)
  | [] => some []
  | o :: r => match compX o, compXs r with
    | some x, some l => some (x :: l)
    | _, _ => none

theorem compXs_reps : ∀ {os : List Operand} {xs : List X}, compXs os = some xs → ∀ {g : Gh} {σ : Nat → V} {a : Act}, (∀ t, Rep g (σ t) (a.tmps.getD t undef)) →
    (xs.length = os.length) ∧ ∀ (j : Nat) (y : V) (v : Value), (xs.map (·.ev σ))[j]? = some y → (os.map a.eval)[j]? = some v → Rep g y v ∧ y.isGr = false
  | [], xs, h, g, σ, a, hr => by cases h; simp
  | o :: os, xs, h, g, σ, a, hr => by
    unfold compXs at h
    split at h
    · rename_i x l h1 h2
      cases h
      have ih := compXs_reps h2 hr
      refine ⟨by simp [ih.1], fun j y v hy hv => ?_⟩
      cases j with
      | zero => simp at hy hv; subst hy; subst hv; exact compX_rep h1 hr
      | succ j => exact ih.2 j y v (by simpa using hy) (by simpa using hv)
    · cases h

/-- The operations, their types resolved. -/
inductive M where
  | mv (x : X)
  | asg (x : X)
  | pick (c a b : X)
  | new (z : V)
  | box (x : X)
  | mk (z : List V) (parts : List (Nat × Nat × X))
  | mks (e sz : Nat) (xs : List X)
  | ld (sz : Nat) (ag : Bool) (x : X)
  | st (sz : Nat) (x y : X)
  | fa (off sz : Nat) (ag : Bool) (x : X)
  | fld (off sz : Nat) (ag : Bool) (x : X)
  | ia (sz : Nat) (x i : X)
  | ix (x i : X)
  | bin (op : BinOp) (x y : X)
  | eqb (neg : Bool) (x y : X)
  | isnil (neg : Bool) (x : X)
  | un (op : UnOp) (x : X)
  | cvi (k : IntKind) (x : X)
  | cvs (x : X)
  | slc (sz : Nat) (x : X) (lo hi mx : Option X)
  | sls (x : X) (lo hi : Option X)
  | fun_ (f : Nat) (caps : List X)
  | ext (x : X) (i : Nat)
  | len (x : X)
  | lns (x : X)
  | nck (x : X)
  | mnx (mx : Bool) (x : X) (l : List X)
  | mki (t : Nat) (x : X)
  | app (t e sz bytes : Nat) (x y : X)
  | call (f : Nat) (args : List X)
  | callv (x : X) (args : List X)
  deriving Inhabited

/-- A part of a value: one cell, or a struct's row of cells. -/
def V.part (x : V) (off sz : Nat) (ag : Bool) : Option V :=
  if ag then (if off + sz ≤ x.cells.length then some (.agg ((x.cells.drop off).take sz)) else none) else x.cells[off]?

def V.isAgg : V → Bool
  | .agg _ => true
  | _ => false

/-- Cells laid over cells from a place on. -/
def setAll : List V → Nat → List V → List V
  | l, _, [] => l
  | l, i, c :: r => setAll (l.set i c) (i + 1) r

def fillV : List V → List (Nat × Nat × V) → Option (List V)
  | l, [] => some l
  | l, (off, size, x) :: r => if x.cells.length = size ∧ off + size ≤ l.length ∧ x.data = true then fillV (setAll l off x.cells) r else none

def V.int? : V → Option (IntKind × Int)
  | .int k n => some (k, n)
  | _ => none

def V.str? : V → Option (List UInt8)
  | .str s => some s
  | _ => none

def V.bool? : V → Option Bool
  | .bool b => some b
  | _ => none

def binI (O : Ops) (op : BinOp) (k : IntKind) (a : Int) (k' : IntKind) (b : Int) : Option V :=
  if k = k' then (match op with
  | .eql => some (.bool (O.ieq a b))
  | .neq => some (.bool (bif O.ieq a b then false else true))
  | .lss => some (.bool (O.ilt a b))
  | .leq => some (.bool (O.ile a b))
  | .gtr => some (.bool (O.ilt b a))
  | .geq => some (.bool (O.ile b a))
  | op => O.iop op k a k' b) else none

def binS (O : Ops) (op : BinOp) (a b : List UInt8) : Option V :=
  match op with
  | .eql => some (.bool (O.seq a b))
  | .neq => some (.bool (bif O.seq a b then false else true))
  | .lss => some (.bool (O.slt a b))
  | .leq => some (.bool (bif O.slt a b then true else O.seq a b))
  | .gtr => some (.bool (bif O.slt a b then false else (bif O.seq a b then false else true)))
  | .geq => some (.bool (bif O.slt a b then false else true))
  | .add => match O.scat a b with
    | some c => some (.str c)
    | none => none
  | _ => none

/-- Two numbers, or two strings, under an operator. -/
def binV (O : Ops) (op : BinOp) (x y : V) : Option V :=
  match x.int? with
  | some p => match y.int? with
    | some q => binI O op p.1 p.2 q.1 q.2
    | none => none
  | none => match x.str? with
    | some a => match y.str? with
      | some b => binS O op a b
      | none => none
    | none => none

def optInt (σ : Nat → V) (d : Int) : Option X → Option Int
  | none => some d
  | some x => match (x.ev σ).int? with
    | some p => some p.2
    | none => none

/-- The least, or the greatest, of numbers. -/
def mnxV (O : Ops) (mx : Bool) (σ : Nat → V) (v : V) : List X → Option V
  | [] => match v.int? with
    | some p => some (.int p.1 p.2)
    | none => none
  | x :: l => match v.int? with
    | some p => match (x.ev σ).int? with
      | some q => mnxV O mx σ (.int p.1 (bif mx then (bif O.ilt p.2 q.2 then q.2 else p.2) else (bif O.ilt q.2 p.2 then q.2 else p.2))) l
      | none => none
    | none => none

/-- What an operation that only computes yields. -/
def M.val (σ : Nat → V) (S : St) : M → Option V
  | .mv x => some (x.ev σ)
  | .pick c a b => match (c.ev σ).bool? with
    | some t => some (bif t then a.ev σ else b.ev σ)
    | none => none
  | .mk z parts => match fillV z (parts.map fun p => (p.1, p.2.1, p.2.2.ev σ)) with
    | some l => some (.agg l)
    | none => none
  | .ld sz ag x => match x.ev σ with
    | .ro y => if y.cells.length = sz ∧ ag = y.isAgg ∧ y.isGr = false then some y else none
    | .ref i k off => match S.H i k with
      | some y => match y.part off sz ag with
        | some r => if r.isGr then none else some r
        | none => none
      | none => none
    | _ => none
  | .fa off sz ag x => match x.ev σ with
    | .ro y => match y.part off sz ag with
      | some r => if r.isGr then none else some (.ro r)
      | none => none
    | .ref i k o => some (.ref i k (o + off))
    | _ => none
  | .fld off sz ag x => match x.ev σ with
    | .agg cs => match (V.agg cs).part off sz ag with
      | some r => if r.isGr then none else some r
      | none => none
    | _ => none
  | .ia sz x i => match x.ev σ with
    | .sl _ sz' xs => match (i.ev σ).int? with
      | some p => if sz' = sz then (match S.O.get xs p.2 with
        | some y => some (.ro y)
        | none => none) else none
      | none => none
    | _ => none
  | .ix x i => match (x.ev σ).str? with
    | some s => match (i.ev σ).int? with
      | some p => match S.O.sget s p.2 with
        | some b => some (.int .u8 b)
        | none => none
      | none => none
    | none => none
  | .bin op x y => binV S.O op (x.ev σ) (y.ev σ)
  | .eqb neg x y => match (x.ev σ).bool? with
    | some a => match (y.ev σ).bool? with
      | some b => some (.bool (bif neg then (bif a then (bif b then false else true) else b) else (bif a then b else (bif b then false else true))))
      | none => none
    | none => none
  | .isnil neg x => match x.ev σ with
    | .sl nl _ _ => some (.bool (bif neg then (bif nl then false else true) else nl))
    | _ => none
  | .un op x => match op with
    | .not => match (x.ev σ).bool? with
      | some b => some (.bool (bif b then false else true))
      | none => none
    | .neg => match (x.ev σ).int? with
      | some p => some (.int p.1 (S.O.neg p.1 p.2))
      | none => none
    | _ => none
  | .cvi k x => match (x.ev σ).int? with
    | some p => some (.int k (S.O.wrap k p.2))
    | none => none
  | .cvs x => match (x.ev σ).str? with
    | some s => some (.str s)
    | none => none
  | .slc sz x lo hi none => match x.ev σ with
    | .sl nl sz' xs => if sz' = sz ∨ nl = true then (match optInt σ (S.O.len xs) hi with
      | some h => match optInt σ 0 lo with
        | some l => match S.O.cut xs l h with
          | some ys => some (.sl nl sz' ys)
          | none => none
        | none => none
      | none => none) else none
    | _ => none
  | .sls x lo hi => match (x.ev σ).str? with
    | some s => match optInt σ (S.O.slen s) hi with
      | some h => match optInt σ 0 lo with
        | some l => match S.O.scut s l h with
          | some u => some (.str u)
          | none => none
        | none => none
      | none => none
    | none => none
  | .fun_ f caps => some (.fn f (caps.map (·.ev σ)))
  | .ext x i => match x.ev σ with
    | .tup cs => match cs[i]? with
      | some y => if y.isGr then none else some y
      | none => none
    | _ => none
  | .len x => match x.ev σ with
    | .sl _ _ xs => some (.int .i64 (S.O.len xs))
    | _ => none
  | .lns x => match (x.ev σ).str? with
    | some s => some (.int .i64 (S.O.slen s))
    | none => none
  | .nck x => match x.ev σ with
    | .nilp | .niliface | .nilfn | .any => none
    | .iface _ _ => none
    | .fn f c => some (.fn f c)
    | .ref i k o => some (.ref i k o)
    | .ro y => some (.ro y)
    | _ => none
  | .mnx mx x l => mnxV S.O mx σ (x.ev σ) l
  | .mki t x => if (x.ev σ).data then some (.iface t (x.ev σ)) else none
  | _ => none

end Go.Pl
