/- The operations that make or write memory. -/
import Derived.Test.YtllbopmdpmjcpaaGreatDoorPlMk
set_option linter.unusedSimpArgs false
set_option linter.unusedVariables false
set_option linter.unusedSectionVars false
namespace Go.Pl

/-- A block whose first cells are told (new, or one whose cells were told before). -/
theorem Le.tell {g : Gh} {b : Nat} {cs : Array Value} (hM : ∀ k c, g.M b k = some c → cs[k]? = some c) : Le g (g.addM b cs) where
  M b' o v hv := by
    by_cases h : b' = b
    · subst h; simp only [Gh.addM, if_true]; exact hM o v hv
    · simp only [Gh.addM, h, if_false]; exact hv
  loc _ _ _ h := h

theorem SimW.tell {g : Gh} {S : St} {w w' : World} {b : Nat} {cs cur : Array Value} {e : TypeId} (h : SimW g S w) (hM : ∀ k c, g.M b k = some c → cs[k]? = some c)
    (hb : w'.heap[b]? = some (.cells cur e (0, 0))) (hcs : ∀ (k : Nat) (c : Value), cs[k]? = some c → cur[k]? = some c) (hl : ∀ i k, g.loc i k ≠ some b) (hsz : w.heap.size ≤ w'.heap.size)
    (ho : ∀ k, k ≠ b → k < w.heap.size → w'.heap[k]? = w.heap[k]?) : SimW (g.addM b cs) S w' where
  mem b' o v hv := by
    by_cases h' : b' = b
    · subst h'
      simp only [Gh.addM, if_true] at hv
      rw [cell_of_row _ _ _ _ _ _ hb]; exact hcs _ _ hv
    · simp only [Gh.addM, h', if_false] at hv
      have hm := h.mem b' o v hv
      have := World.block_lt_of_cell? _ _ hm
      rw [World.cell?_of_block (w := w) (w' := w') (a := ⟨b', o, none⟩) (ho b' h' this)]; exact hm
  box i l x hx := by
    obtain ⟨b', c, e', h1, h2, h3⟩ := h.box i l x hx
    exact ⟨b', c, e', h1, by rw [ho b' (fun e => hl i l (e ▸ h1)) (h.locB i l b' h1)]; exact h2, h3.mono (.tell hM)⟩
  inj := h.inj
  boxM i l b' hi o := by
    have : b' ≠ b := fun e => hl i l (e ▸ hi)
    simp only [Gh.addM, this, if_false]; exact h.boxM i l b' hi o
  locB i l b' hi := Nat.lt_of_lt_of_le (h.locB i l b' hi) hsz
  fresh := h.fresh

theorem Ext.tell {g₀ g : Gh} {w₀ w w' : World} {b : Nat} {cs : Array Value} (h : Ext g₀ w₀ g w) (hM : ∀ k c, g.M b k = some c → cs[k]? = some c) (hb : w₀.heap.size ≤ b)
    (hos : w'.os = w.os) (htape : w'.tape = w.tape) (hout : w'.output = w.output) (hsz : w.heap.size ≤ w'.heap.size)
    (ho : ∀ k, k ≠ b → k < w.heap.size → w'.heap[k]? = w.heap[k]?) (hfz : ∀ a, w'.frozen? a = w.frozen? a) : Ext g₀ w₀ (g.addM b cs) w' where
  le := h.le.trans (.tell hM)
  os := hos.trans h.os
  tape := htape.trans h.tape
  output := hout.trans h.output
  size := Nat.le_trans h.size hsz
  block k hk hn := by rw [ho k (by omega) (by have := h.size; omega)]; exact h.block k hk hn
  newLoc := h.newLoc
  newM b' o v hv := by
    by_cases h' : b' = b
    · exact .inr (by omega)
    · simp only [Gh.addM, h', if_false] at hv; exact h.newM b' o v hv
  top := h.top
  newName := h.newName
  froz a := (hfz a).trans (h.froz a)

theorem spare_gr {e : Nat} {nl : Bool} {sz : Nat} {xs : List V} {v : Value} : spare (.gr e nl sz xs) v = v.ownBlock := rfl

/-- A growing slice is laid into a temporary: its block is new, or it was the block of a holder who gives it up. -/
theorem Sim.tell {g₀ g : Gh} {w₀ w w' : World} {N : Nat} {σ : Nat → V} {S : St} {a : Act} (h : Sim g₀ w₀ N g σ S a w) {d b cap e sz : Nat} {cs cur : Array Value} {xs : List V} (hd : d < N)
    (hM : ∀ k c, g.M b k = some c → cs[k]? = some c) (hbase : w₀.heap.size ≤ b)
    (hb : w'.heap[b]? = some (.cells cur e (0, 0))) (hl : ∀ i k, g.loc i k ≠ some b)
    (hos : w'.os = w.os) (htape : w'.tape = w.tape) (hout : w'.output = w.output) (hsz : w.heap.size ≤ w'.heap.size) (ho : ∀ k, k ≠ b → k < w.heap.size → w'.heap[k]? = w.heap[k]?) (hfz : ∀ a, w'.frozen? a = w.frozen? a)
    (hfree : ∀ t, t ≠ d → spare (σ t) (a.tmps.getD t undef) ≠ some b)
    (hown : w'.ownsRow w₀.heap.size e sz (.slice (some ⟨b, 0, none⟩) xs.length cap) xs.length cs.toList)
    (c : Nat → Nat → Value) (hx1 : ∀ (i : Nat) (x : V), xs[i]? = some x → x.cells.length = sz) (hx2 : ∀ (i : Nat) (x : V) (j : Nat) (y : V), xs[i]? = some x → x.cells[j]? = some y → cs[i * sz + j]? = some (c i j))
    (hx3 : ∀ (i : Nat) (x : V) (j : Nat) (y : V), xs[i]? = some x → x.cells[j]? = some y → (c i j).oneCell' = true) (hx4 : ∀ (i : Nat) (x : V) (j : Nat) (y : V), xs[i]? = some x → x.cells[j]? = some y → Rep g y (c i j)) :
    Sim g₀ w₀ N (g.addM b cs) (upd σ d (.gr e false sz xs)) S (a.put (some d) (.slice (some ⟨b, 0, none⟩) xs.length cap)) w' := by
  have hcs : ∀ (k : Nat) (c : Value), cs[k]? = some c → cur[k]? = some c := by
    intro k c hk
    have hlt : k < xs.length * sz := by
      have := hown.1
      have h2 : k < cs.size := (Array.getElem?_eq_some_iff.1 hk).1
      simp at this; omega
    have h1 := hown.cellAt k hlt
    rw [cell_of_row _ _ _ _ _ _ hb] at h1
    rw [h1]; simpa using hk
  have hcap : xs.length ≤ cap := by
    rcases hown.2 with ⟨h', _⟩ | ⟨g', cap', cur', h', _, _, hle, _⟩
    · simp at h'
    · simp only [Value.slice.injEq, true_and] at h'; omega
  have hle := Le.tell (g := g) hM
  have hlen : cs.size = xs.length * sz := by have := hown.1; simpa using this
  refine h.put' hd (h.ext.tell hM hbase hos htape hout hsz ho hfz) (h.sim.tell hM hb hcs hl hsz ho) hle ?_ ?_ ?_ ?_
  · refine .gr e false sz xs _ (.sl sz xs b 0 cap c hcap hx1 (fun i x j y hx hy => ?_) hx3 (fun i x j y hx hy => (hx4 i x j y hx hy).mono hle))
    simp only [Gh.addM, if_true, Nat.zero_add]
    exact hx2 i x j y hx hy
  · intro t ht hc
    refine hc.step (fun b' hb' hlt _ => ho b' (fun e => hfree t ht (e ▸ hb')) hlt) (fun b' k hb' hlt hk => ?_) (fun i l b' _ hi => hi)
    have : b' ≠ b := fun e => hfree t ht (e ▸ hb')
    simp only [Gh.addM, this, if_false]; exact hk
  · refine ⟨⟨_, hown⟩, fun b' hb' => ?_⟩
    simp only [Value.ownBlock, Option.some.injEq] at hb'
    subst hb'
    refine ⟨fun k hk => ?_, hl⟩
    simp only [Gh.addM, if_true]
    exact Array.getElem?_eq_none (by omega)
  · intro t b' ht hs
    simp only [spare_gr, Value.ownBlock]
    intro h'
    simp only [Option.some.injEq] at h'
    subst h'
    exact hfree t ht hs

/-- A holder gives his claim up. -/
theorem Sim.down {g₀ g : Gh} {w₀ w : World} {N : Nat} {σ : Nat → V} {S : St} {a : Act} (h : Sim g₀ w₀ N g σ S a w) (t : Nat) : Sim g₀ w₀ N g (upd σ t (σ t).plain) S a w :=
  h.weaken fun u => by
    by_cases hu : u = t
    · subst hu; exact .inr (.inr (upd_same _ _ _))
    · exact .inl (upd_ne _ _ hu)

/-! ### What the operations make -/

/-- A box's value with other cells. -/
def V.withCells : V → List V → V
  | .agg _, l => .agg l
  | _, [y] => y
  | _, _ => .any

def X.raw (σ : Nat → V) : X → V
  | .t n => σ n
  | .k v => v

/-- The frame behind an operation that takes the holder's claim. -/
def X.down (σ : Nat → V) : X → Nat → V
  | .t n => upd σ n (σ n).plain
  | .k _ => σ

/-- What may be appended to. -/
def growOf (e sz : Nat) : V → Option (Bool × List V)
  | .gr e' nl sz' xs => if e' = e ∧ sz' = sz then some (nl, xs) else none
  | .sl nl _ xs => match nl with
    | true => match xs with
      | [] => some (true, [])
      | _ => none
    | false => none
  | _ => none

/-- A slice and what is put behind it. -/
def appV (O : Ops) (e sz bytes : Nat) (x y : V) : Option V :=
  match growOf e sz x with
  | some p => match y with
    | .sl nl' sz' ys => if sz' = sz ∨ nl' = true then (match O.fit bytes p.2 ys with
      | true => some (.gr e (bif p.1 then O.emp ys else false) sz (O.app p.2 ys))
      | false => none) else none
    | _ => none
  | none => none

/-- An operation that makes or writes memory: its value, the frame and the boxes behind it. -/
def M.eff (σ : Nat → V) (S : St) : M → Option (V × (Nat → V) × St)
  | .asg x => some (x.raw σ, x.down σ, S)
  | .new z => some (.ref S.b S.c 0, σ, S.add z)
  | .box x => if (x.ev σ).data then some (.ref S.b S.c 0, σ, S.add (x.ev σ)) else none
  | .mks e sz xs => match S.O.good sz (xs.map (·.ev σ)) with
    | true => some (.gr e false sz (xs.map (·.ev σ)), σ, S)
    | false => none
  | .app _ e sz bytes x y => match appV S.O e sz bytes (x.raw σ) (y.ev σ) with
    | some v => some (v, x.down σ, S)
    | none => none
  | .st sz x y => match x.ev σ with
    | .ref i k off => match S.H i k with
      | some c => if (y.ev σ).data = true ∧ (y.ev σ).cells.length = sz ∧ off + sz ≤ c.cells.length ∧ (c.isAgg = true ∨ (y.ev σ).isAgg = false) then
          some (.any, σ, S.set i k (c.withCells (setAll c.cells off (y.ev σ).cells))) else none
      | none => none
    | _ => none
  | _ => none

/-- The operations that make or write memory. -/
def compEff (P : Program) : Op → Option M
  | .assign x => (compX x).map .asg
  | .alloc t => match P.info? t with
    | some ti => match ti.zero with
      | some z => (absV z).map .new
      | none => none
    | none => none
  | .box _ x => (compX x).map .box
  | .buildSlice t len parts => match P.underlying t with
    | some (.slice e) => match P.info? e, compXs (parts.toList.map (·.2)) with
      | some ei, some xs => if parts.toList.map (·.1) = List.range len ∧ ei.size ≠ 0 ∧ (ei.zero.map (·.cells.size)) = some ei.size then some (.mks e ei.size xs) else none
      | _, _ => none
    | _ => none
  | .store t x y => match P.info? t, compX x, compX y with
    | some ti, some x, some y => some (.st ti.size x y)
    | _, _, _ => none
  | .call { callee := .builtin .append, args := args, argTypes := ts } => match args.toList, ts.toList with
    | [x, y], [t, t'] => if t = t' then (match P.underlying t with
      | some (.slice e) => match P.info? e, compX x, compX y with
        | some ei, some x, some y => if ei.size ≠ 0 ∧ (ei.zero.map (·.cells.size)) = some ei.size then some (.app t e ei.size ei.bytes x y) else none
        | _, _, _ => none
      | _ => none) else none
    | _, _ => none
  | _ => none

theorem absV_data {v : Value} {x : V} (h : absV v = some x) : x.data = true := by
  unfold absV at h
  split at h
  · split at h <;> cases h; rfl
  · unfold absS at h
    split at h <;> cases h <;> rfl

section
variable {P : Program} {g₀ g : Gh} {w₀ : World} {N : Nat} {S S' : St} {w : World} {σ σ' : Nat → V} {a : Act}

/-- The boxes behind a new one. -/
structure Boxed (S : St) (i l : Nat) (x : V) (S' : St) : Prop where
  H : S'.H = upd2 S.O S.H i l x
  ok : S'.ok i l = true
  mono : ∀ j m, S'.ok j m = false → S.ok j m = false
  n : S.n ≤ S'.n
  b : S'.b = S.b

/-- A plain value that is a reference to a new box. -/
theorem Sim.box (h : Sim g₀ w₀ N g σ S a w) {d : Nat} (hd : d < N) {i l : Nat} {x : V} (hB : Boxed S i l x S') (hf : g.loc i l = none) (ht : g₀.top ≤ i) (cs : Array Value) (e : TypeId) (hr : Cells g x.cells cs) :
    Sim g₀ w₀ N (g.addBox i l w.heap.size) (upd σ d (.ref i l 0)) S' (a.put (some d) (.pointer (some ⟨w.heap.size, 0, none⟩))) (w.alloc (.cells cs e)) := by
  refine h.put' hd (h.ext.addBox hf ht _ _) (h.sim.addBox i l x hf hB.H hB.ok hB.mono cs e hr) (.addBox hf) (.ref _ _ _ _ (by simp [Gh.addBox])) ?_ (.of_not rfl) (fun _ _ _ _ => by simp [spare]) hB.n hB.b
  intro t _ hc
  refine hc.step (fun b _ hlt _ => heap_alloc_lt _ _ _ hlt) (fun b k _ _ hk => hk) (fun i k b hlt hi => ?_)
  simp only [Gh.addBox]
  split
  · intro e; simp only [Option.some.injEq] at e; omega
  · exact hi

theorem plain_of_not {x : V} (h : x.isGr = false) : x.plain = x := by cases x <;> first | rfl | (simp [V.isGr] at h)

theorem down_sim (h : Sim g₀ w₀ N g σ S a w) (x : X) : Sim g₀ w₀ N g (x.down σ) S a w := by
  cases x with
  | t n => exact h.down n
  | k v => exact h

/-- What an operand that may hold a claim is, and that nobody else holds it once the operand has given it up. -/
theorem raw_rep (h : Sim g₀ w₀ N g σ S a w) {o : Operand} {x : X} (hx : compX o = some x) :
    Rep g (x.raw σ) (a.eval o) ∧ Claim g w w₀.heap.size (x.raw σ) (a.eval o) ∧ ∀ t b, spare (x.down σ t) (a.tmps.getD t undef) = some b → spare (x.raw σ) (a.eval o) ≠ some b := by
  cases o with
  | tmp n =>
    simp only [compX, Option.some.injEq] at hx; subst hx
    refine ⟨h.rep n, h.claim n, fun t b h1 h2 => ?_⟩
    by_cases ht : t = n
    · subst ht
      simp only [X.down, upd_same] at h1
      rw [spare_not (plain_isGr _)] at h1; cases h1
    · simp only [X.down, upd_ne _ _ ht] at h1
      exact ht (h.sep t n b h1 h2)
  | const v =>
    have hc := compX_rep hx h.rep
    simp only [compX] at hx
    split at hx <;> cases hx
    refine ⟨hc.1, .of_not hc.2, fun t b _ h2 => ?_⟩
    have : spare (X.raw σ (.k _)) (a.eval (.const v)) = none := spare_not hc.2
    rw [this] at h2; cases h2
  | func f =>
    have hc := compX_rep hx h.rep
    simp only [compX, Option.some.injEq] at hx; subst hx
    exact ⟨hc.1, .of_not hc.2, fun t b _ h2 => by simp [X.raw, spare] at h2⟩
  | global n => simp [compX] at hx

/-- Carried out, an operation leaves this. -/
def Leaves (P : Program) (o : Oper) (a : Act) (w : World) (a' : Act) (w' : World) : Prop :=
  (∃ val, (execOp a.eval o).run P w = .ok (.value val) w' ∧ a' = a.put o.dst val) ∨ ((execOp a.eval o).run P w = .ok .skip w' ∧ a' = a.put o.dst undef)

theorem Leaves.wp {o : Oper} {a' : Act} {w' : World} (h : Leaves P o a w a' w') {K : Act → World → Prop} {Q : Exit → Act → World → Prop} (hK : K a' w') : o.wp P a w K Q := by
  unfold Oper.wp
  rcases h with ⟨val, h1, rfl⟩ | ⟨h1, rfl⟩ <;> rw [h1] <;> exact hK

theorem leaves_asg {o : Oper} {x : Operand} {x' : X} {d : Nat} (ho : o.op = .assign x) (hx : compX x = some x') (hdst : o.dst = some d) (hd : d < N) (h : Sim g₀ w₀ N g σ S a w) :
    ∃ a', Leaves P o a w a' w ∧ Sim g₀ w₀ N g (upd (x'.down σ) d (x'.raw σ)) S a' w := by
  obtain ⟨h1, h2, h3⟩ := raw_rep h hx
  refine ⟨_, .inl ⟨a.eval x, by simp [execOp, ho], rfl⟩, ?_⟩
  rw [hdst]
  exact (down_sim h x').put' hd h.ext h.sim (.refl g) h1 (fun _ _ c => c) h2 (fun t b _ hs => h3 t b hs)

theorem leaves_box {o : Oper} {t : TypeId} {x : Operand} {x' : X} {d : Nat} (ho : o.op = .box t x) (hx : compX x = some x') (hdst : o.dst = some d) (hd : d < N) (h : Sim g₀ w₀ N g σ S a w)
    (hdata : (x'.ev σ).data = true) {i l : Nat} (hB : Boxed S i l (x'.ev σ) S') (hf : g.loc i l = none) (ht : g₀.top ≤ i) :
    ∃ a' w', Leaves P o a w a' w' ∧ Sim g₀ w₀ N (g.addBox i l w.heap.size) (upd σ d (.ref i l 0)) S' a' w' := by
  have hr := (compX_rep hx h.rep).1
  refine ⟨_, _, .inl ⟨.pointer (some ⟨w.heap.size, 0, none⟩), by simp [execOp, ho, Instr.box, newVar, newRow]; rfl, rfl⟩, ?_⟩
  rw [hdst]
  exact h.box hd hB hf ht _ t (hr.cells hdata)

theorem leaves_new {o : Oper} {t : TypeId} {ti : TypeInfo} {z : Value} {z' : V} {d : Nat} (ho : o.op = .alloc t) (hi : P.info? t = some ti) (hz : ti.zero = some z) (hz' : absV z = some z')
    (hdst : o.dst = some d) (hd : d < N) (h : Sim g₀ w₀ N g σ S a w) {i l : Nat} (hB : Boxed S i l z' S') (hf : g.loc i l = none) (ht : g₀.top ≤ i) :
    ∃ a' w', Leaves P o a w a' w' ∧ Sim g₀ w₀ N (g.addBox i l w.heap.size) (upd σ d (.ref i l 0)) S' a' w' := by
  have hr := (absV_rep hz' g).1
  refine ⟨_, _, .inl ⟨.pointer (some ⟨w.heap.size, 0, none⟩), by simp [execOp, ho, Instr.alloc, zeroValue, typeInfo, hi, hz, newVar, newRow]; rfl, rfl⟩, ?_⟩
  rw [hdst]
  exact h.box hd hB hf ht _ t (hr.cells (absV_data hz'))

/-- Flat cells of elements of one size. -/
theorem flat_cells {xs : List V} {vs : List Value} {sz : Nat} (h0 : 0 < sz) (hl : xs.length = vs.length) (h1 : ∀ (i : Nat) (x : V) (v : Value), xs[i]? = some x → vs[i]? = some v → Cells g x.cells v.cells ∧ x.cells.length = sz) :
    (∀ v ∈ vs, v.cells.size = sz) ∧ ∀ (i : Nat) (x : V) (j : Nat) (y : V), xs[i]? = some x → x.cells[j]? = some y →
      (vs.flatMap fun v => v.cells.toList)[i * sz + j]? = some (((vs.getD i undef).cells).getD j undef) ∧ Rep g y (((vs.getD i undef).cells).getD j undef) ∧ (((vs.getD i undef).cells).getD j undef).oneCell' = true := by
  have hsz : ∀ v ∈ vs, v.cells.size = sz := fun v hv => by
    obtain ⟨i, hi, rfl⟩ := List.mem_iff_getElem.1 hv
    have := h1 i xs[i] vs[i] (by simp [hl, hi]) (by simp [hi])
    rw [← this.2]; exact this.1.1.1.symm
  refine ⟨hsz, fun i x j y hx hy => ?_⟩
  have hi : i < vs.length := by rw [← hl]; exact (List.getElem?_eq_some_iff.1 hx).1
  have hc := h1 i x vs[i] hx (by simp [hi])
  have hj : j < sz := by rw [← hc.2]; exact (List.getElem?_eq_some_iff.1 hy).1
  have hjs : j < vs[i].cells.size := by rw [hsz _ (List.getElem_mem hi)]; exact hj
  have e1 : vs.getD i undef = vs[i] := by simp [hi]
  have e2 : vs[i].cells.getD j undef = vs[i].cells[j] := by simp [hjs]
  rw [e1, e2]
  refine ⟨?_, hc.1.1.2 j y _ hy (by simp [hjs]), hc.1.2 j _ (by simp [hjs])⟩
  rw [Great.flat_get h0 vs hsz]
  have hdiv : (i * sz + j) / sz = i := by rw [Nat.mul_comm, Nat.mul_add_div h0, Nat.div_eq_of_lt hj]; simp
  have hmod : (i * sz + j) % sz = j := by rw [Nat.mul_comm, Nat.mul_add_mod, Nat.mod_eq_of_lt hj]
  rw [hdiv, hmod]
  simp [hi, hjs]

theorem zip_parts (a : Act) : ∀ (ps : List (Nat × Operand)) (k : Nat), ps.map (·.1) = List.range' k ps.length →
    (ps.map fun (i, x) => (i, a.eval x)) = ((ps.map fun p => a.eval p.2).zipIdx k).map fun x => (x.2, x.1)
  | [], _, _ => rfl
  | (i, o) :: r, k, h => by
    simp only [List.map_cons, List.length_cons, List.range'_succ, List.cons.injEq] at h
    obtain ⟨rfl, h2⟩ := h
    simp only [List.map_cons, List.zipIdx_cons, List.cons.injEq, true_and]
    exact zip_parts a r _ h2

theorem leaves_mks {o : Oper} {t e len : Nat} {parts : Array (Nat × Operand)} {ei : TypeInfo} {xs : List X} {d : Nat} (ho : o.op = .buildSlice t len parts) (hu : P.underlying t = some (.slice e))
    (he : P.info? e = some ei) (hx : compXs (parts.toList.map (·.2)) = some xs) (hp : parts.toList.map (·.1) = List.range len) (h0 : ei.size ≠ 0) (hz : (ei.zero.map (·.cells.size)) = some ei.size)
    (hdst : o.dst = some d) (hd : d < N) (h : Sim g₀ w₀ N g σ S a w) (hall : ∀ x ∈ xs.map (·.ev σ), x.data = true ∧ x.cells.length = ei.size) (hsm : xs.length * ei.size ≤ 16777216) :
    ∃ g' a' w', g'.loc = g.loc ∧ Leaves P o a w a' w' ∧ Sim g₀ w₀ N g' (upd σ d (.gr e false ei.size (xs.map (·.ev σ)))) S a' w' := by
  obtain ⟨z, hz1, hz2⟩ := Option.map_eq_some_iff.1 hz
  have hreps := compXs_reps hx h.rep
  have hlen : parts.toList.length = len := by have := congrArg List.length hp; simpa using this
  have hxl : xs.length = len := by rw [hreps.1]; simpa using hlen
  let vs : List Value := parts.toList.map fun p => a.eval p.2
  have hvl : (xs.map (·.ev σ)).length = vs.length := by simp [vs, hxl]; simpa using hlen.symm
  have hpos : 0 < ei.size := Nat.pos_of_ne_zero h0
  have hfc := flat_cells (g := g) (xs := xs.map (·.ev σ)) (vs := vs) hpos hvl (fun i x v hx' hv => by
    have hd' := hall x (List.mem_of_getElem? hx')
    have := hreps.2 i x v hx' (by simpa [vs, Function.comp_def] using hv)
    exact ⟨this.1.cells hd'.1, hd'.2⟩)
  have hflen : (vs.flatMap fun v => v.cells.toList).length = vs.length * ei.size := by
    have : ∀ (l : List Value), (∀ v ∈ l, v.cells.size = ei.size) → (l.flatMap fun v => v.cells.toList).length = l.length * ei.size := by
      intro l
      induction l with
      | nil => simp
      | cons v l ih =>
        intro hl
        simp only [List.flatMap_cons, List.length_append, Array.length_toList, hl v List.mem_cons_self, ih (fun v hv => hl v (List.mem_cons_of_mem _ hv)), List.length_cons]
        rw [Nat.add_mul]; omega
    exact this vs hfc.1
  have hvlen : vs.length = len := by rw [← hvl]; simpa using hxl
  have hfill : Instr.fill (fun i => some (i * ei.size, ei.size)) ((Array.range (len * ei.size)).map (z.cells[· % z.cells.size]!)) (parts.map fun (i, x) => (i, a.eval x)).toList =
      some (vs.flatMap fun v => v.cells.toList).toArray := by
    have e1 : (parts.map fun (i, x) => (i, a.eval x)).toList = (vs.zipIdx 0).map fun x => (x.2, x.1) := by
      rw [Array.toList_map]
      exact zip_parts a parts.toList 0 (by rw [hp, List.range_eq_range', hlen])
    rw [e1]
    exact Great.fill_whole hpos vs _ hfc.1 (by simp [hvlen])
  have hrun : (Instr.buildSlice t len (parts.map fun (i, x) => (i, a.eval x))).run P w = .ok (.slice (some ⟨w.heap.size, 0, none⟩) len len) (w.alloc (.cells (vs.flatMap fun v => v.cells.toList).toArray e)) := by
    by_cases hl0 : len * ei.size = 0
    · have hl0' : len = 0 := by rcases Nat.mul_eq_zero.1 hl0 with h' | h'; exact h'; exact absurd h' h0
      subst hl0'
      have hp0 : parts = #[] := by apply Array.ext'; simpa using hlen
      subst hp0
      simp [Instr.buildSlice, run_underlying hu, run_sizeOf' he, Instr.fill, newRow, vs, show Array.range 0 = #[] from rfl]
    · exact run_buildSlice w t e len _ _ ei z hu he hz1 (by rw [← hxl]; omega) hl0 hfill
  refine ⟨g.addM w.heap.size (vs.flatMap fun v => v.cells.toList).toArray, _, _, rfl, .inl ⟨_, by simp only [execOp, ho, Sem.run_bind, hrun, Result.andThen_ok]; rfl, rfl⟩, ?_⟩
  rw [hdst]
  have hM : ∀ k c, g.M w.heap.size k = some c → (vs.flatMap fun v => v.cells.toList).toArray[k]? = some c := fun k c hk => by
    have := World.block_lt_of_cell? _ _ (h.sim.mem _ _ _ hk)
    simp at this
  have hL : ∀ i k, g.loc i k ≠ some w.heap.size := fun i k hi => by have := h.sim.locB _ _ _ hi; omega
  have hlx : (xs.map (·.ev σ)).length = len := by simpa using hxl
  have hown : (w.alloc (.cells (vs.flatMap fun v => v.cells.toList).toArray e)).ownsRow w₀.heap.size e ei.size (.slice (some ⟨w.heap.size, 0, none⟩) len len) len (vs.flatMap fun v => v.cells.toList).toArray.toList :=
    World.ownsRow_lit w _ len h.ext.size (by
      have h1 : len ≤ len * ei.size := Nat.le_mul_of_pos_right _ hpos
      rw [hxl] at hsm
      simp only [maxLen]; omega) (by simp only [List.size_toArray, hflen, hvlen])
  rw [← hlx] at hown ⊢
  exact h.tell hd hM h.ext.size (heap_alloc_new _ _) hL rfl rfl rfl (by simp) (fun k hk hlt => heap_alloc_lt _ _ _ hlt) (frozen_alloc _ _ _)
    (fun t _ hs => by have := (h.claim t).lt hs; omega) hown (fun i j => ((vs.getD i undef).cells).getD j undef) (fun i x hx' => (hall x (List.mem_of_getElem? hx')).2)
    (fun i x j y hx' hy => by simpa using (hfc.2 i x j y hx' hy).1) (fun i x j y hx' hy => (hfc.2 i x j y hx' hy).2.2) (fun i x j y hx' hy => (hfc.2 i x j y hx' hy).2.1)

theorem withCells_cells {c : V} {l : List V} (hl : l.length = c.cells.length) (hagg : c.isAgg = true ∨ ∀ y ∈ l, y.isAgg = false) : (c.withCells l).cells = l := by
  cases c with
  | agg cs => rfl
  | _ =>
    rcases hagg with h | h
    · simp [V.isAgg] at h
    · match l, hl with
      | [y], _ =>
        have := h y (by simp)
        simp only [V.withCells]
        exact cells_one this

theorem setAll_mem {y : V} : ∀ (r l : List V) (i : Nat), y ∈ setAll l i r → y ∈ l ∨ y ∈ r
  | [], _, _, h => .inl h
  | c :: r, l, i, h => by
    simp only [setAll] at h
    rcases setAll_mem r _ _ h with h | h
    · rcases List.mem_or_eq_of_mem_set h with h | h
      · exact .inl h
      · exact .inr (by simp [h])
    · exact .inr (by simp [h])

theorem leaves_st {o : Oper} {t : TypeId} {ti : TypeInfo} {x y : Operand} {x' y' : X} (ho : o.op = .store t x y) (hi : P.info? t = some ti) (hx : compX x = some x') (hy : compX y = some y')
    (hdst : o.dst = none) (h : Sim g₀ w₀ N g σ S a w) {i l off : Nat} (hxe : x'.ev σ = .ref i l off) {c : V} (hH : S.H i l = some c) (hdata : (y'.ev σ).data = true) (hcl : (y'.ev σ).cells.length = ti.size)
    (hfit : off + ti.size ≤ c.cells.length) (hagg : c.isAgg = true ∨ (y'.ev σ).isAgg = false) :
    ∃ a' w', Leaves P o a w a' w' ∧ Sim g₀ w₀ N g σ (S.set i l (c.withCells (setAll c.cells off (y'.ev σ).cells))) a' w' := by
  have hx' := (compX_rep hx h.rep).1
  have hy' := (compX_rep hy h.rep).1.cells hdata
  rw [hxe] at hx'
  generalize hex : a.eval x = pv at hx'
  cases hx' with
  | ref _ _ _ b hb =>
    obtain ⟨b', cs, e, k1, k2, k3⟩ := h.sim.box i l c hH
    rw [hb] at k1; cases k1
    have hlen : c.cells.length = cs.size := k3.1.1
    have hvl : (a.eval y).cells.size = ti.size := by rw [← hcl]; exact hy'.1.1.symm
    have hone : ∀ v ∈ (a.eval y).cells.toList, v.oneCell' = true := fun v hv => by
      obtain ⟨j, hj, rfl⟩ := List.mem_iff_getElem.1 hv
      exact hy'.2 j _ (by simp at hj; simp [hj])
    have hst := run_storeCells_at P b off e (a.eval y).cells.toList 0 cs w k2 (by simp only [Array.length_toList]; omega) hone
    simp only [Nat.add_zero, Array.length_toList] at hst
    let cs' : Array Value := (cs.toList.take off ++ (a.eval y).cells.toList ++ cs.toList.drop (off + (a.eval y).cells.size)).toArray
    have hrun : (execOp a.eval o).run P w = .ok .skip (w.setRow b cs') := by
      simp only [execOp, ho, hex, Instr.storeAt, Instr.sureAddr, storeVar, Sem.run_bind, Sem.run_pure, Result.andThen_ok, run_sizeOf' hi]
      rw [if_neg (by simp [hvl])]
      simp only [hst, Result.andThen_ok]
      rfl
    refine ⟨_, _, .inr ⟨hrun, rfl⟩, ?_⟩
    rw [hdst]
    have hget : ∀ k, cs'[k]? = if off ≤ k ∧ k < off + ti.size then (a.eval y).cells[k - off]? else cs[k]? := fun k => by
      simp only [cs', List.getElem?_toArray]
      by_cases h1 : k < off
      · rw [if_neg (by omega), List.append_assoc, List.getElem?_append_left (by simp; omega), List.getElem?_take, if_pos h1]; simp
      · by_cases h2 : k < off + ti.size
        · rw [if_pos ⟨by omega, h2⟩, List.append_assoc, List.getElem?_append_right (by simp; omega), List.getElem?_append_left (by simp; omega)]
          have : min off cs.size = off := by omega
          simp [this]
        · rw [if_neg (by omega), List.getElem?_append_right (by simp; omega), List.getElem?_drop]
          simp only [List.length_append, List.length_take, Array.length_toList, Array.getElem?_toList]
          congr 1; omega
    have hsz' : cs'.size = cs.size := by
      simp only [cs', List.size_toArray, List.length_append, List.length_take, List.length_drop, Array.length_toList]; omega
    have hnew : Cells g (setAll c.cells off (y'.ev σ).cells) cs' := by
      refine ⟨⟨by rw [setAll_length, hlen, hsz'], fun j z v hz hv => ?_⟩, fun j v hv => ?_⟩
      · rw [setAll_get, hcl] at hz
        rw [hget] at hv
        split at hz
        · rename_i hc; rw [if_pos ⟨hc.1, hc.2.1⟩] at hv; exact hy'.1.2 _ _ _ hz hv
        · rename_i hc
          by_cases hc' : off ≤ j ∧ j < off + ti.size
          · exact absurd ⟨hc'.1, hc'.2, by omega⟩ hc
          · rw [if_neg hc'] at hv; exact k3.1.2 _ _ _ hz hv
      · rw [hget] at hv
        split at hv
        · exact hy'.2 _ _ hv
        · exact k3.2 _ _ hv
    have hwc : (c.withCells (setAll c.cells off (y'.ev σ).cells)).cells = setAll c.cells off (y'.ev σ).cells := by
      refine withCells_cells (setAll_length _ _ _) ?_
      rcases hagg with h1 | h1
      · exact .inl h1
      · refine .inr fun z hz => ?_
        obtain ⟨j, hj⟩ := mem_get hz
        have hlt : j < cs'.size := by rw [← hnew.1.1]; exact (List.getElem?_eq_some_iff.1 hj).1
        exact (hnew.1.2 j z cs'[j] hj (by simp [hlt])).notAgg (hnew.2 j _ (by simp [hlt]))
    have hlb := h.sim.locB i l b hb
    have hoth : ∀ k, k ≠ b → (w.setRow b cs').heap[k]? = w.heap[k]? := fun k hk => setRow_other w b k cs' hk
    have hhsz : (w.setRow b cs').heap.size = w.heap.size := by simp [World.setRow]
    constructor
    · refine ⟨h.ext.le, h.ext.os, h.ext.tape, h.ext.output, by rw [hhsz]; exact h.ext.size, fun k hk hn => ?_, h.ext.newLoc, h.ext.newM, h.ext.top, h.ext.newName, fun a => (frozen_of k2 (setRow_heap w b cs cs' e (0, 0) k2) hoth a).trans (h.ext.froz a)⟩
      rw [hoth k (fun e' => ?_)]
      · exact h.ext.block k hk hn
      · subst e'
        rcases h.ext.newLoc i l k hb with h' | h'
        · exact hn i l h'
        · omega
    · constructor
      · intro b' o' v hv
        have hne : b' ≠ b := fun e' => by subst e'; rw [h.sim.boxM i l b' hb o'] at hv; cases hv
        rw [World.cell?_of_block (w := w) (a := ⟨b', o', none⟩) (hoth b' hne)]; exact h.sim.mem _ _ _ hv
      · intro j m z hz
        simp only [St.set, upd2_eq S.hO] at hz
        by_cases hj : j = i ∧ m = l
        · obtain ⟨rfl, rfl⟩ := hj
          simp only [and_self, if_true, Option.some.injEq] at hz
          subst hz
          exact ⟨b, cs', e, hb, setRow_heap w b cs cs' e (0, 0) k2, by rw [hwc]; exact hnew⟩
        · rw [if_neg hj] at hz
          obtain ⟨b', cs'', e', m1, m2, m3⟩ := h.sim.box j m z hz
          have hne : b' ≠ b := fun e' => by subst e'; exact hj (h.sim.inj _ _ _ _ _ m1 hb)
          exact ⟨b', cs'', e', m1, by rw [hoth b' hne]; exact m2, m3⟩
      · exact h.sim.inj
      · exact h.sim.boxM
      · intro j m b' hb'; rw [hhsz]; exact h.sim.locB j m b' hb'
      · exact h.sim.fresh
    · exact h.size
    · exact h.dfr
    · exact h.rep
    · intro t
      refine (h.claim t).step (fun b' _ hlt hL => hoth b' fun e' => ?_) (fun _ _ _ _ hk => hk) (fun _ _ _ _ hi => hi)
      subst e'; exact hL i l hb
    · exact h.sep
    · exact h.low
    · exact h.none0

end
end Go.Pl
