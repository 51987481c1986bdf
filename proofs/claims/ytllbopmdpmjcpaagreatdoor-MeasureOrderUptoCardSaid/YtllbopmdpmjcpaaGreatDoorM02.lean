import Derived.Test.YtllbopmdpmjcpaaGreatDoorM01
import Derived.Great.FillDense
import Derived.Great.BuildSlice
set_option linter.unusedSimpArgs false
set_option linter.unusedVariables false
set_option linter.unusedSectionVars false
section
namespace Go.Pl
inductive X where
 | t (n : Nat)
 | k (v : V)
 deriving Inhabited
def X.ev (σ : Nat → V) : X → V
 | .t n => (σ n).plain
 | .k v => v
def absL : List Value → Option (List V)
 | [] => some []
 | v :: r => match absS v, absL r with
  | some x, some l => some (x :: l)
  | _, _ => none
def absV : Value → Option V
 | .agg vs => match absL vs.toList with
  | some l => some (.agg l)
  | none => none
 | v => absS v
theorem absS_rep {v : Value} {x : V} (h : absS v = some x) (g : Gh) : Rep g x v ∧ x.isGr = false ∧ v.oneCell' = true ∧ x.plain = x := by
 unfold absS at h
 split at h <;> cases h
 ·exact ⟨.bool _, rfl, rfl, rfl⟩
 ·exact ⟨.int _ _, rfl, rfl, rfl⟩
 ·exact ⟨by rename_i s; have := Rep.str (g := g) s.data.toList; simpa using this, rfl, rfl, rfl⟩
 ·exact ⟨.nilp, rfl, rfl, rfl⟩
 ·exact ⟨.slNil _, rfl, rfl, rfl⟩
 ·exact ⟨.nilfn, rfl, rfl, rfl⟩
 ·exact ⟨.niliface, rfl, rfl, rfl⟩
 ·exact ⟨.nilmap, rfl, rfl, rfl⟩
theorem absL_rep : ∀ {l : List Value} {r : List V}, absL l = some r → ∀ (g : Gh), r.length = l.length ∧ ∀ (j : Nat) (y : V) (v : Value), r[j]? = some y → l[j]? = some v → Rep g y v ∧ v.oneCell' = true
 | [], r, h, g => by cases h; simp
 | v :: l, r, h, g => by
  unfold absL at h
  split at h
  ·rename_i x l' h1 h2
   cases h
   have ih := absL_rep h2 g
   refine ⟨by simp [ih.1], fun j y u hy hu => ?_⟩
   cases j with
   | zero => simp at hy hu; subst hy; subst hu; have := absS_rep h1 g; exact ⟨this.1, this.2.2.1⟩
   | succ j => exact ih.2 j y u (by simpa using hy) (by simpa using hu)
  ·cases h
theorem absV_rep {v : Value} {x : V} (h : absV v = some x) (g : Gh) : Rep g x v ∧ x.isGr = false ∧ x.plain = x := by
 unfold absV at h
 split at h
 ·rename_i vs
  split at h <;> cases h
  rename_i l hl
  have := absL_rep hl g
  refine ⟨.agg l vs (by simpa using this.1) (fun j v hv => ?_) (fun j y v hy hv => (this.2 j y v hy (by simpa using hv)).1), rfl, rfl⟩
  have hlt : j < l.length := by rw [this.1]; simpa using (Array.getElem?_eq_some_iff.1 hv).1
  exact (this.2 j l[j] v (by simp [hlt]) (by simpa using hv)).2
 ·have := absS_rep h g
  exact ⟨this.1, this.2.1, this.2.2.2⟩
def compX : Operand → Option X
 | .tmp t => some (.t t)
 | .const v => match absV v with
  | some x => some (.k x)
  | none => none
 | .func f => some (.k (.fn f []))
 | .global _ => none
theorem plain_isGr (x : V) : x.plain.isGr = false := by cases x <;> rfl
theorem compX_rep {o : Operand} {x : X} (h : compX o = some x) {g : Gh} {σ : Nat → V} {a : Act} (hr : ∀ t, Rep g (σ t) (a.tmps.getD t undef)) :
  Rep g (x.ev σ) (a.eval o) ∧ (x.ev σ).isGr = false := by
 cases o with
 | tmp t => simp only [compX, Option.some.injEq] at h; subst h; exact ⟨(hr t).toPlain, plain_isGr _⟩
 | const v =>
  simp only [compX] at h
  split at h <;> cases h
  rename_i x hx
  have := absV_rep hx g
  exact ⟨this.1, this.2.1⟩
 | func f =>
  simp only [compX, Option.some.injEq] at h; subst h
  exact ⟨.fn f [] #[] rfl (by simp), rfl⟩
 | global n => simp [compX] at h
def compXs : List Operand → Option (List X)
 | [] => some []
 | o :: r => match compX o, compXs r with
  | some x, some l => some (x :: l)
  | _, _ => none
theorem compXs_reps : ∀ {os : List Operand} {xs : List X}, compXs os = some xs → ∀ {g : Gh} {σ : Nat → V} {a : Act}, (∀ t, Rep g (σ t) (a.tmps.getD t undef)) →
  (xs.length = os.length) ∧ ∀ (j : Nat) (y : V) (v : Value), (xs.map (·.ev σ))[j]? = some y → (os.map a.eval)[j]? = some v → Rep g y v ∧ y.isGr = false
 | [], xs, h, g, σ, a, hr => by cases h; simp
 | o :: os, xs, h, g, σ, a, hr => by
  unfold compXs at h
  split at h
  ·rename_i x l h1 h2
   cases h
   have ih := compXs_reps h2 hr
   refine ⟨by simp [ih.1], fun j y v hy hv => ?_⟩
   cases j with
   | zero => simp at hy hv; subst hy; subst hv; exact compX_rep h1 hr
   | succ j => exact ih.2 j y v (by simpa using hy) (by simpa using hv)
  ·cases h
inductive M where
 | mv (x : X)
 | asg (x : X)
 | pick (c a b : X)
 | new (z : V)
 | box (x : X)
 | boxr (x : X)
 | boxs (sz : Nat) (x : X)
 | clr (sz : Nat) (z : V) (x : X)
 | mk (z : List V) (parts : List (Nat × Nat × X))
 | mks (e sz : Nat) (xs : List X)
 | ld (sz : Nat) (ag : Bool) (x : X)
 | st (sz : Nat) (x y : X)
 | fa (off sz : Nat) (ag : Bool) (x : X)
 | fld (off sz : Nat) (ag : Bool) (x : X)
 | ia (sz : Nat) (x i : X)
 | ix (x i : X)
 | bin (op : BinOp) (x y : X)
 | eqb (neg : Bool) (x y : X)
 | isnil (neg : Bool) (x : X)
 | un (op : UnOp) (x : X)
 | cvi (k : IntKind) (x : X)
 | cvs (x : X)
 | slc (sz : Nat) (x : X) (lo hi mx : Option X)
 | sls (x : X) (lo hi : Option X)
 | fun_ (f : Nat) (caps : List X)
 | ext (x : X) (i : Nat)
 | len (x : X)
 | lns (x : X)
 | nck (x : X)
 | mnx (mx : Bool) (x : X) (l : List X)
 | mki (t : Nat) (x : X)
 | app (t e sz bytes : Nat) (x y : X)
 | call (f : Nat) (args : List X)
 | callv (x : X) (args : List X)
 | mlk (kt ok : Bool) (z : V) (x k : X)
 | mln (x : X)
 | tas (t : Nat) (ok : Bool) (z : V) (x : X)
 | inil (neg : Bool) (x : X)
 | mmk
 | mup (kt : Bool) (x k v : X)
 | pan (x : X)
 deriving Inhabited
def V.part0 (x : V) (off sz : Nat) (ag : Bool) : Option V :=
 if ag then (if off + sz ≤ x.cells.length then some (.agg ((x.cells.drop off).take sz)) else none) else x.cells[off]?
def V.part (x : V) (off sz : Nat) (ag : Bool) : Option V := if x.isBig then none else x.part0 off sz ag
theorem part_spec {x r : V} {off sz : Nat} {ag : Bool} (h : x.part off sz ag = some r) : x.isBig = false ∧ x.part0 off sz ag = some r := by
 unfold V.part at h
 split at h
 ·cases h
 ·rename_i hb; exact ⟨by simpa using hb, h⟩
def V.isAgg : V → Bool
 | .agg _ => true
 | _ => false
def setAll : List V → Nat → List V → List V
 | l, _, [] => l
 | l, i, c :: r => setAll (l.set i c) (i + 1) r
def fillV : List V → List (Nat × Nat × V) → Option (List V)
 | l, [] => some l
 | l, (off, size, x) :: r => if x.cells.length = size ∧ off + size ≤ l.length ∧ x.data = true then fillV (setAll l off x.cells) r else none
def V.int? : V → Option (IntKind × Int)
 | .int k n => some (k, n)
 | _ => none
def V.str? : V → Option (List UInt8)
 | .str s => some s
 | _ => none
def V.bool? : V → Option Bool
 | .bool b => some b
 | _ => none
def binI (O : Ops) (op : BinOp) (k : IntKind) (a : Int) (k' : IntKind) (b : Int) : Option V :=
 if k = k' then (match op with
 | .eql => some (.bool (O.ieq a b))
 | .neq => some (.bool (bif O.ieq a b then false else true))
 | .lss => some (.bool (O.ilt a b))
 | .leq => some (.bool (O.ile a b))
 | .gtr => some (.bool (O.ilt b a))
 | .geq => some (.bool (O.ile b a))
 | op => O.iop op k a k' b) else none
def binS (O : Ops) (op : BinOp) (a b : List UInt8) : Option V :=
 match op with
 | .eql => some (.bool (O.seq a b))
 | .neq => some (.bool (bif O.seq a b then false else true))
 | .lss => some (.bool (O.slt a b))
 | .leq => some (.bool (bif O.slt a b then true else O.seq a b))
 | .gtr => some (.bool (bif O.slt a b then false else (bif O.seq a b then false else true)))
 | .geq => some (.bool (bif O.slt a b then false else true))
 | .add => match O.scat a b with
  | some c => some (.str c)
  | none => none
 | _ => none
def binV (O : Ops) (op : BinOp) (x y : V) : Option V :=
 match x.int? with
 | some p => match y.int? with
  | some q => binI O op p.1 p.2 q.1 q.2
  | none => none
 | none => match x.str? with
  | some a => match y.str? with
   | some b => binS O op a b
   | none => none
  | none => none
def optInt (σ : Nat → V) (d : Int) : Option X → Option Int
 | none => some d
 | some x => match (x.ev σ).int? with
  | some p => some p.2
  | none => none
def mnxV (O : Ops) (mx : Bool) (σ : Nat → V) (v : V) : List X → Option V
 | [] => match v.int? with
  | some p => some (.int p.1 p.2)
  | none => none
 | x :: l => match v.int? with
  | some p => match (x.ev σ).int? with
   | some q => mnxV O mx σ (.int p.1 (bif mx then (bif O.ilt p.2 q.2 then q.2 else p.2) else (bif O.ilt q.2 p.2 then q.2 else p.2))) l
   | none => none
  | none => none
def M.val (σ : Nat → V) (S : St) : M → Option V
 | .mv x => some (x.ev σ)
 | .pick c a b => match (c.ev σ).bool? with
  | some t => some (bif t then a.ev σ else b.ev σ)
  | none => none
 | .mk z parts => match fillV z (parts.map fun p => (p.1, p.2.1, p.2.2.ev σ)) with
  | some l => some (.agg l)
  | none => none
 | .ld sz ag x => match x.ev σ with
  | .ro y => if y.cells.length = sz ∧ ag = y.isAgg ∧ y.isGr = false then some y else none
  | .ref i k off => match S.H i k with
   | some y => match y.part off sz ag with
    | some r => if r.isGr then none else some r
    | none => none
   | none => none
  | .eref i k sz' j => match S.H i k with
   | some (.rows sz'' xs) => if sz' = sz ∧ sz'' = sz then (match S.O.get xs j with
    | some r => if r.isGr = false ∧ ag = r.isAgg then some r else none
    | none => none) else none
   | _ => none
  | _ => none
 | .fa off sz ag x => match x.ev σ with
  | .ro y => match y.part off sz ag with
   | some r => if r.isGr then none else some (.ro r)
   | none => none
  | .ref i k o => some (.ref i k (o + off))
  | _ => none
 | .fld off sz ag x => match x.ev σ with
  | .agg cs => match (V.agg cs).part off sz ag with
   | some r => if r.isGr then none else some r
   | none => none
  | _ => none
 | .ia sz x i => match x.ev σ with
  | .sl _ sz' xs => match (i.ev σ).int? with
   | some p => if sz' = sz then (match S.O.get xs p.2 with
    | some y => some (.ro y)
    | none => none) else none
   | none => none
  | .bs n k sz' off ln => match (i.ev σ).int? with
   | some p => if sz' = sz then (match S.O.bidx off ln p.2 with
    | some j => some (.eref n k sz j)
    | none => none) else none
   | none => none
  | _ => none
 | .ix x i => match (x.ev σ).str? with
  | some s => match (i.ev σ).int? with
   | some p => match S.O.sget s p.2 with
    | some b => some (.int .u8 b)
    | none => none
   | none => none
  | none => none
 | .bin op x y => binV S.O op (x.ev σ) (y.ev σ)
 | .eqb neg x y => match (x.ev σ).bool? with
  | some a => match (y.ev σ).bool? with
   | some b => some (.bool (bif neg then (bif a then (bif b then false else true) else b) else (bif a then b else (bif b then false else true))))
   | none => none
  | none => none
 | .isnil neg x => match x.ev σ with
  | .sl nl _ _ => some (.bool (bif neg then (bif nl then false else true) else nl))
  | .bs _ _ _ _ _ => some (.bool neg)
  | _ => none
 | .un op x => match op with
  | .not => match (x.ev σ).bool? with
   | some b => some (.bool (bif b then false else true))
   | none => none
  | .neg => match (x.ev σ).int? with
   | some p => some (.int p.1 (S.O.neg p.1 p.2))
   | none => none
  | _ => none
 | .cvi k x => match (x.ev σ).int? with
  | some p => some (.int k (S.O.wrap k p.2))
  | none => none
 | .cvs x => match (x.ev σ).str? with
  | some s => some (.str s)
  | none => none
 | .slc sz x lo hi none => match x.ev σ with
  | .sl nl sz' xs => if sz' = sz ∨ nl = true then (match optInt σ (S.O.len xs) hi with
   | some h => match optInt σ 0 lo with
    | some l => match S.O.cut xs l h with
     | some ys => some (.sl nl sz' ys)
     | none => none
    | none => none
   | none => none) else none
  | .bs n k sz' off ln => if sz' = sz then (match optInt σ ln hi with
   | some h => match optInt σ 0 lo with
    | some l => match S.O.bcut off ln l h with
     | some p => some (.bs n k sz p.1 p.2)
     | none => none
    | none => none
   | none => none) else none
  | _ => none
 | .sls x lo hi => match (x.ev σ).str? with
  | some s => match optInt σ (S.O.slen s) hi with
   | some h => match optInt σ 0 lo with
    | some l => match S.O.scut s l h with
     | some u => some (.str u)
     | none => none
    | none => none
   | none => none
  | none => none
 | .fun_ f caps => some (.fn f (caps.map (·.ev σ)))
 | .ext x i => match x.ev σ with
  | .tup cs => match cs[i]? with
   | some y => if y.isGr then none else some y
   | none => none
  | _ => none
 | .len x => match x.ev σ with
  | .sl _ _ xs => some (.int .i64 (S.O.len xs))
  | .bs _ _ _ _ ln => some (.int .i64 ln)
  | _ => none
 | .lns x => match (x.ev σ).str? with
  | some s => some (.int .i64 (S.O.slen s))
  | none => none
 | .nck x => match x.ev σ with
  | .nilp | .niliface | .nilfn | .any => none
  | .iface _ _ => none
  | .fn f c => some (.fn f c)
  | .ref i k o => some (.ref i k o)
  | .ro y => some (.ro y)
  | _ => none
 | .mnx mx x l => mnxV S.O mx σ (x.ev σ) l
 | .mki t x => if (x.ev σ).data then some (.iface t (x.ev σ)) else none
 | .mlk kt ok z x k => match x.ev σ with
  | .mref i j => match S.H i j with
   | some (.mapv ks vs) => match S.O.mfind kt ks vs (k.ev σ) with
    | some (some v) => if v.isGr then none else some (bif ok then .tup [v, .bool true] else v)
    | some none => some (bif ok then .tup [z, .bool false] else z)
    | none => none
   | _ => none
  | .nilmap => match keyEq kt (k.ev σ) (k.ev σ) with
   | some _ => some (bif ok then .tup [z, .bool false] else z)
   | none => none
  | _ => none
 | .mln x => match x.ev σ with
  | .mref i j => match S.H i j with
   | some (.mapv ks _) => some (.int .i64 (S.O.len ks))
   | _ => none
  | .nilmap => some (.int .i64 0)
  | _ => none
 | .tas t ok z x => match x.ev σ with
  | .iface t' y => bif Nat.beq t' t then (if y.isGr then none else some (bif ok then .tup [y, .bool true] else y)) else (bif ok then some (.tup [z, .bool false]) else none)
  | .niliface => bif ok then some (.tup [z, .bool false]) else none
  | _ => none
 | .inil neg x => match x.ev σ with
  | .iface _ _ => some (.bool neg)
  | .niliface => some (.bool (bif neg then false else true))
  | _ => none
 | _ => none
end Go.Pl
end
section
namespace Go.Pl
def aggOf (P : Program) (t : TypeId) : Option Bool :=
 match P.underlying t with
 | some (.struct _) | some (.array _ _) => some true
 | some _ => some false
 | none => none
def compParts (fs : Array Field) (P : Program) : List (Nat × Operand) → Option (List (Nat × Nat × X))
 | [] => some []
 | (i, o) :: r => match fs[i]?, compX o, compParts fs P r with
  | some f, some x, some l => match P.info? f.type with
   | some fi => some ((f.offset, fi.size, x) :: l)
   | none => none
  | _, _, _ => none
def isGo (P : Program) (f : Nat) : Bool :=
 match P.funcs[f]? with
 | some fn => fn.name != "runtime.NumGoroutine" && fn.body.isSome
 | none => false
def compO : Option Operand → Option (Option X)
 | none => some none
 | some o => match compX o with
  | some x => some (some x)
  | none => none
def nilConst : Operand → Bool
 | .const (.slice none 0 0) => true
 | _ => false
def nilIfaceConst : Operand → Bool
 | .const .nilIface => true
 | _ => false
def zeroOf (P : Program) (t : TypeId) : Option V :=
 match P.info? t with
 | some ti => match ti.zero with
  | some z => absV z
  | none => none
 | none => none
def keyKind (P : Program) (t : TypeId) : Option Bool :=
 match P.underlying t with
 | some .string => some true
 | some (.int _) => some false
 | _ => none
def compPure (P : Program) : Op → Option M
 | .move x => (compX x).map .mv
 | .pick c a b => match compX c, compX a, compX b with
  | some c, some a, some b => some (.pick c a b)
  | _, _, _ => none
 | .build t parts => match P.underlying t, P.info? t with
  | some (.struct fs), some ti => match ti.zero with
   | some (.agg z) => match absL z.toList, compParts fs P parts.toList, fs.toList.all (fun f => (P.info? f.type).isSome) with
    | some z, some ps, true => some (.mk z ps)
    | _, _, _ => none
   | _ => none
  | _, _ => none
 | .load t x => match aggOf P t, P.info? t, compX x with
  | some ag, some ti, some x => some (.ld ti.size ag x)
  | _, _, _ => none
 | .fieldAddr t x f => match P.underlying t, compX x with
  | some (.struct fs), some x => match fs[f]? with
   | some fd => match aggOf P fd.type, P.info? fd.type with
    | some ag, some fi => if fi.size = 0 then none else some (.fa fd.offset fi.size ag x)
    | _, _ => none
   | none => none
  | _, _ => none
 | .field t x f => match P.underlying t, compX x with
  | some (.struct fs), some x => match fs[f]? with
   | some fd => match aggOf P fd.type, P.info? fd.type with
    | some ag, some fi => some (.fld fd.offset fi.size ag x)
    | _, _ => none
   | none => none
  | _, _ => none
 | .indexAddr t x i => match P.underlying t, compX x, compX i with
  | some (.slice e), some x, some i => match P.info? e with
   | some ei => some (.ia ei.size x i)
   | none => none
  | _, _, _ => none
 | .index t x i => match P.underlying t, compX x, compX i with
  | some .string, some x, some i => some (.ix x i)
  | _, _, _ => none
 | .binOp op t x y _ => match P.underlying t, op with
  | some (.slice _), .eql => if nilConst y then (compX x).map (.isnil false) else none
  | some (.slice _), .neq => if nilConst y then (compX x).map (.isnil true) else none
  | some (.interface _), .eql => if nilIfaceConst y then (compX x).map (.inil false) else none
  | some (.interface _), .neq => if nilIfaceConst y then (compX x).map (.inil true) else none
  | some .bool, .eql => match compX x, compX y with
   | some x, some y => some (.eqb false x y)
   | _, _ => none
  | some .bool, .neq => match compX x, compX y with
   | some x, some y => some (.eqb true x y)
   | _, _ => none
  | some (.int _), _ | some .string, _ => match compX x, compX y with
   | some x, some y => some (.bin op x y)
   | _, _ => none
  | _, _ => none
 | .unOp op _ x => (compX x).map (.un op)
 | .convert src dst x => match P.underlying src, P.underlying dst with
  | some (.int _), some (.int k) => (compX x).map (.cvi k)
  | some .string, some .string => (compX x).map .cvs
  | _, _ => none
 | .slice t x lo hi none => match P.underlying t, compX x, compO lo, compO hi with
  | some (.slice e), some x, some lo, some hi => match P.info? e with
   | some ei => some (.slc ei.size x lo hi none)
   | none => none
  | some .string, some x, some lo, some hi => some (.sls x lo hi)
  | _, _, _, _ => none
 | .makeFunc (.func f) first caps => if first.isEmpty then (compXs caps.toList).map (.fun_ f) else none
 | .extract x i => (compX x).map (.ext · i)
 | .nilCheck x => (compX x).map .nck
 | .call { callee := .builtin .len, args := args, argTypes := ts } => match args.toList, ts[0]? with
  | [x], some t => match P.underlying t with
   | some (.slice _) => (compX x).map .len
   | some .string => (compX x).map .lns
   | some (.map _ _) => (compX x).map .mln
   | _ => none
  | _, _ => none
 | .call { callee := .builtin .min, args := args, argTypes := _ } => match compXs args.toList with
  | some (x :: l) => some (.mnx false x l)
  | _ => none
 | .call { callee := .builtin .max, args := args, argTypes := _ } => match compXs args.toList with
  | some (x :: l) => some (.mnx true x l)
  | _ => none
 | .makeInterface t x => match P.underlying t with
  | some (.interface _) => none
  | some _ => (compX x).map (.mki t)
  | none => none
 | .lookup t x k ok => match P.underlying t with
  | some (.map kTy e) => match keyKind P kTy, zeroOf P e, compX x, compX k with
   | some kt, some z, some x, some k => some (.mlk kt ok z x k)
   | _, _, _, _ => none
  | _ => none
 | .typeAssert x _ t ok => match P.underlying t with
  | some (.interface _) => none
  | some _ => match zeroOf P t, compX x with
   | some z, some x => some (.tas t ok z x)
   | _, _ => none
  | none => none
 | _ => none
section
variable {P : Program} {g : Gh} {S : St} {w : World} {σ : Nat → V} {a : Act}
theorem part_cells {x r : V} {off sz : Nat} {ag : Bool} (h : x.part off sz ag = some r) (hag : ∀ c ∈ x.cells, c.isAgg = false) :
  ∀ (j : Nat) (y : V), r.cells[j]? = some y → x.cells[off + j]? = some y := by
 replace h := (part_spec h).2
 unfold V.part0 at h
 intro j y hy
 split at h
 ·split at h <;> cases h
  simp only [V.cells] at hy
  rw [List.getElem?_take] at hy
  split at hy
  ·rw [List.getElem?_drop] at hy; exact hy
  ·cases hy
 ·have hm := hag r (List.mem_of_getElem? h)
  have hc : r.cells = [r] := by cases r <;> first | rfl | (simp [V.isAgg] at hm)
  rw [hc] at hy
  cases j with
  | zero => simp at hy; subst hy; simpa using h
  | succ j => simp at hy
theorem Rep.notAgg {y : V} {v : Value} (h : Rep g y v) (h1 : v.oneCell' = true) : y.isAgg = false := by
 cases h <;> first | rfl | (simp [Value.oneCell'] at h1)
theorem Rep.notBig {y : V} {v : Value} (h : Rep g y v) : y.isBig = false := by cases h <;> rfl
theorem cells_one {y : V} (h : y.isAgg = false) : y.cells = [y] := by cases y <;> first | rfl | (simp [V.isAgg] at h)
theorem run_isAgg {t : TypeId} {ag : Bool} (h : aggOf P t = some ag) (w : World) : (isAgg t).run P w = .ok ag w := by
 unfold aggOf at h
 split at h <;> cases h
 ·rename_i h; simp [isAgg, run_underlying h]
 ·rename_i h; simp [isAgg, run_underlying h]
 ·rename_i d h1 h2 h3
  cases d <;> simp [isAgg, run_underlying h3] <;> simp_all
theorem run_sizeOf' {t : TypeId} {i : TypeInfo} (h : P.info? t = some i) (w : World) : (sizeOf t).run P w = .ok i.size w := by
 simp [sizeOf, typeInfo, h]
theorem add_none (b o n : Nat) : (⟨b, o, none⟩ : Addr).add n = ⟨b, o + n, none⟩ := by
 unfold Addr.add; split <;> simp_all
theorem run_load_cells {t : TypeId} {ag : Bool} {ti : TypeInfo} (h1 : aggOf P t = some ag) (h2 : P.info? t = some ti) (b o : Nat) (y : V) (c : Nat → Value)
  (hn : y.isAgg = true → y.cells.length = ti.size) (hag : ag = y.isAgg) (hc : ∀ (j : Nat) (z : V), y.cells[j]? = some z → w.cell? ⟨b, o + j, none⟩ = some (c j))
  (hone : ∀ (j : Nat) (z : V), y.cells[j]? = some z → (c j).oneCell' = true) (hr : ∀ (j : Nat) (z : V), y.cells[j]? = some z → Rep g z (c j)) :
  ∃ val, (Instr.loadAt t (.pointer (some ⟨b, o, none⟩))).run P w = .ok val w ∧ Rep g y val := by
 have get : ∀ j, j < y.cells.length → ∃ z, y.cells[j]? = some z := fun j hj => ⟨y.cells[j], by simp [hj]⟩
 cases y with
 | agg cs =>
  simp only [V.isAgg] at hag; subst hag
  have hn := hn rfl
  have hl := run_loadCells (P := P) w ⟨b, o, none⟩ ti.size c (fun j hj => by
   obtain ⟨z, hz⟩ := get j (by omega)
   rw [add_none]; exact hc j z hz)
  refine ⟨.agg ((List.range ti.size).map c).toArray, ?_, .agg cs _ (by simpa [V.cells] using hn) (fun j v hv => ?_) (fun j z v hz hv => ?_)⟩
  ·simp [Instr.loadAt, Instr.sureAddr, loadVar, run_isAgg h1, run_sizeOf' h2, hl]
  ·simp only [List.getElem?_toArray, List.getElem?_map, Option.map_eq_some_iff] at hv
   obtain ⟨k, hk, rfl⟩ := hv
   obtain ⟨hlt, rfl⟩ := List.getElem?_eq_some_iff.1 hk
   simp only [List.length_range] at hlt
   simp only [List.getElem_range]
   obtain ⟨z, hz⟩ := get j (by omega)
   exact hone j z hz
  ·simp only [List.getElem?_toArray, List.getElem?_map, Option.map_eq_some_iff] at hv
   obtain ⟨k, hk, rfl⟩ := hv
   obtain ⟨hlt, rfl⟩ := List.getElem?_eq_some_iff.1 hk
   simp only [List.getElem_range]
   exact hr j z hz
 | _ =>
  simp only [V.isAgg] at hag; subst hag
  have h0 := hc 0 _ rfl
  refine ⟨c 0, ?_, hr 0 _ rfl⟩
  simp only [Nat.add_zero] at h0
  simp [Instr.loadAt, Instr.sureAddr, loadVar, run_isAgg h1, h0]
theorem part_shape {x r : V} {off sz : Nat} {ag : Bool} (h : x.part off sz ag = some r) (hag : ∀ c ∈ x.cells, c.isAgg = false) :
  r.isAgg = ag ∧ (ag = true → r.cells.length = sz) ∧ (ag = false → r.cells.length = 1) := by
 replace h := (part_spec h).2
 unfold V.part0 at h
 split at h
 ·rename_i h1
  split at h <;> cases h
  rename_i h2
  refine ⟨h1.symm, fun _ => ?_, fun h => by simp [h1] at h⟩
  show ((x.cells.drop off).take sz).length = sz
  rw [List.length_take, List.length_drop]; omega
 ·rename_i h1
  have hm := hag r (List.mem_of_getElem? h)
  refine ⟨by rw [hm]; simpa using h1, fun h => absurd h h1, fun _ => by rw [cells_one hm]; rfl⟩
theorem val_ld {t : TypeId} {x : Operand} {ag : Bool} {ti : TypeInfo} {x' : X} (h1 : aggOf P t = some ag) (h2 : P.info? t = some ti) (hx : compX x = some x')
  (hs : SimW g S w) (hr : ∀ t, Rep g (σ t) (a.tmps.getD t undef)) {v : V} (hv : (M.ld ti.size ag x').val σ S = some v) :
  ∃ val, (Instr.loadAt t (a.eval x)).run P w = .ok val w ∧ Rep g v val ∧ v.isGr = false := by
 have hx' := (compX_rep hx hr).1
 simp only [M.val] at hv
 generalize x'.ev σ = y at hx' hv
 generalize a.eval x = pv at hx' ⊢
 cases hx' with
 | ro y b o c hc hone hrc =>
  simp only at hv
  split at hv <;> cases hv
  rename_i hcond
  obtain ⟨val, e1, e2⟩ := run_load_cells (P := P) h1 h2 b o v c (fun _ => hcond.1) hcond.2.1 (fun j z hz => hs.mem _ _ _ (hc j z hz)) hone hrc
  exact ⟨val, e1, e2, hcond.2.2⟩
 | ref i k off b hb =>
  simp only at hv
  split at hv
  ·rename_i y hy
   split at hv
   ·rename_i r hp
    split at hv <;> cases hv
    rename_i hgr
    obtain ⟨b', cs, e, k1, k2, k3⟩ := hs.box' hy (part_spec hp).1
    rw [hb] at k1; cases k1
    have hag : ∀ z ∈ y.cells, z.isAgg = false := fun z hz => by
     obtain ⟨j, hj⟩ := mem_get hz
     have hlt : j < cs.size := by rw [← k3.1.1]; exact (List.getElem?_eq_some_iff.1 hj).1
     exact (k3.1.2 j z cs[j] hj (by simp [hlt])).notAgg (k3.2 j cs[j] (by simp [hlt]))
    have hpc := part_cells hp hag
    have hsh := part_shape hp hag
    have hcell : ∀ j z, v.cells[j]? = some z → cs[off + j]? = some (cs.getD (off + j) undef) := fun j z hz => by
     have := hpc j z hz
     have hlt : off + j < cs.size := by rw [← k3.1.1]; exact (List.getElem?_eq_some_iff.1 this).1
     simp [hlt]
    obtain ⟨val, e1, e2⟩ := run_load_cells (P := P) (w := w) (g := g) h1 h2 b off v (fun j => cs.getD (off + j) undef) (fun h => hsh.2.1 (by rw [← hsh.1]; exact h)) hsh.1.symm
     (fun j z hz => by simp only [World.cell?, k2]; simpa using hcell j z hz)
     (fun j z hz => k3.2 _ _ (hcell j z hz)) (fun j z hz => k3.1.2 _ _ _ (hpc j z hz) (hcell j z hz))
    exact ⟨val, e1, e2, by simpa using hgr⟩
   ·cases hv
  ·cases hv
 | eref i k sz' j b hb h0 =>
  simp only at hv
  split at hv
  ·rename_i sz'' xs hH
   split at hv
   case isFalse => cases hv
   rename_i hsz
   obtain ⟨rfl, rfl⟩ := hsz
   split at hv
   ·rename_i r hg
    split at hv <;> cases hv
    rename_i hcond
    obtain ⟨b', cs, e, k1, k2, k3⟩ := hs.arr hH
    rw [hb] at k1; cases k1
    rw [S.hO] at hg
    simp only [Ops.std] at hg
    split at hg
    case isFalse => cases hg
    have hsh := k3.shape _ _ hg
    have hcell : ∀ (q : Nat) z, v.cells[q]? = some z → cs[j.toNat * ti.size + q]? = some (cs.getD (j.toNat * ti.size + q) undef) ∧ Rep g z (cs.getD (j.toNat * ti.size + q) undef) ∧ (cs.getD (j.toNat * ti.size + q) undef).oneCell' = true := fun q z hz => by
     obtain ⟨c, c1, c2, c3⟩ := k3.cell _ _ q z hg hz
     have hc : cs.getD (j.toNat * ti.size + q) undef = c := by simp [c1]
     rw [hc]; exact ⟨c1, c2, c3⟩
    obtain ⟨val, e1, e2⟩ := run_load_cells (P := P) (w := w) (g := g) h1 h2 b (j.toNat * ti.size) v (fun q => cs.getD (j.toNat * ti.size + q) undef) (fun _ => hsh.2) hcond.2
     (fun q z hz => by simp only [World.cell?, k2]; simpa using (hcell q z hz).1)
     (fun q z hz => (hcell q z hz).2.2) (fun q z hz => (hcell q z hz).2.1)
    exact ⟨val, e1, e2, hcond.1⟩
   ·cases hv
  ·cases hv
 | _ => simp at hv
end
end Go.Pl
end
