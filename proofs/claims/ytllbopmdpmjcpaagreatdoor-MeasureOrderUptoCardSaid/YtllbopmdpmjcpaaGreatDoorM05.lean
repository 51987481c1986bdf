import Derived.Test.YtllbopmdpmjcpaaGreatDoorM04
set_option linter.unusedSimpArgs false
set_option linter.unusedVariables false
set_option linter.unusedSectionVars false
namespace Go.Pl
theorem Le.tell {g : Gh} {b : Nat} {cs : Array Value} (hM : ∀ k c, g.M b k = some c → cs[k]? = some c) : Le g (g.addM b cs) where
 M b' o v hv := by
  by_cases h : b' = b
  ·subst h; simp only [Gh.addM, if_true]; exact hM o v hv
  ·simp only [Gh.addM, h, if_false]; exact hv
 loc _ _ _ h := h
theorem SimW.tell {g : Gh} {S : St} {w w' : World} {b : Nat} {cs cur : Array Value} {e : TypeId} (h : SimW g S w) (hM : ∀ k c, g.M b k = some c → cs[k]? = some c)
  (hb : w'.heap[b]? = some (.cells cur e (0, 0))) (hcs : ∀ (k : Nat) (c : Value), cs[k]? = some c → cur[k]? = some c) (hl : ∀ i k, g.loc i k ≠ some b) (hsz : w.heap.size ≤ w'.heap.size)
  (ho : ∀ k, k ≠ b → k < w.heap.size → w'.heap[k]? = w.heap[k]?) : SimW (g.addM b cs) S w' where
 mem b' o v hv := by
  by_cases h' : b' = b
  ·subst h'
   simp only [Gh.addM, if_true] at hv
   rw [cell_of_row _ _ _ _ _ _ hb]; exact hcs _ _ hv
  ·simp only [Gh.addM, h', if_false] at hv
   have hm := h.mem b' o v hv
   have := World.block_lt_of_cell? _ _ hm
   rw [World.cell?_of_block (w := w) (w' := w') (a := ⟨b', o, none⟩) (ho b' h' this)]; exact hm
 box i l x hx := by
  obtain ⟨b', o, h1, h2, h3⟩ := h.box i l x hx
  exact ⟨b', o, h1, by rw [ho b' (fun e => hl i l (e ▸ h1)) (h.locB i l b' h1)]; exact h2, h3.mono (.tell hM)⟩
 inj := h.inj
 boxM i l b' hi o := by
  have : b' ≠ b := fun e => hl i l (e ▸ hi)
  simp only [Gh.addM, this, if_false]; exact h.boxM i l b' hi o
 locB i l b' hi := Nat.lt_of_lt_of_le (h.locB i l b' hi) hsz
 fresh := h.fresh
theorem Ext.tell {g₀ g : Gh} {w₀ w w' : World} {b : Nat} {cs : Array Value} (h : Ext g₀ w₀ g w) (hM : ∀ k c, g.M b k = some c → cs[k]? = some c) (hb : w₀.heap.size ≤ b)
  (hos : w'.os = w.os) (htape : w'.tape = w.tape) (hout : w'.output = w.output) (hsz : w.heap.size ≤ w'.heap.size)
  (ho : ∀ k, k ≠ b → k < w.heap.size → w'.heap[k]? = w.heap[k]?) : Ext g₀ w₀ (g.addM b cs) w' where
 le := h.le.trans (.tell hM)
 os := hos.trans h.os
 tape := htape.trans h.tape
 output := hout.trans h.output
 size := Nat.le_trans h.size hsz
 block k hk hn := by rw [ho k (by omega) (by have := h.size; omega)]; exact h.block k hk hn
 newLoc := h.newLoc
 newM b' o v hv := by
  by_cases h' : b' = b
  ·exact .inr (by omega)
  ·simp only [Gh.addM, h', if_false] at hv; exact h.newM b' o v hv
 top := h.top
 newName := h.newName
theorem spare_gr {e : Nat} {nl : Bool} {sz : Nat} {xs : List V} {v : Value} : spare (.gr e nl sz xs) v = v.ownBlock := rfl
theorem Sim.tell {g₀ g : Gh} {w₀ w w' : World} {N : Nat} {σ : Nat → V} {S : St} {a : Act} (h : Sim g₀ w₀ N g σ S a w) {d b cap e sz : Nat} {cs cur : Array Value} {xs : List V} (hd : d < N)
  (hM : ∀ k c, g.M b k = some c → cs[k]? = some c) (hbase : w₀.heap.size ≤ b)
  (hb : w'.heap[b]? = some (.cells cur e (0, 0))) (hl : ∀ i k, g.loc i k ≠ some b)
  (hos : w'.os = w.os) (htape : w'.tape = w.tape) (hout : w'.output = w.output) (hsz : w.heap.size ≤ w'.heap.size) (ho : ∀ k, k ≠ b → k < w.heap.size → w'.heap[k]? = w.heap[k]?)
  (hfree : ∀ t, t ≠ d → spare (σ t) (a.tmps.getD t undef) ≠ some b)
  (hown : w'.ownsRow w₀.heap.size e sz (.slice (some ⟨b, 0, none⟩) xs.length cap) xs.length cs.toList)
  (c : Nat → Nat → Value) (hx1 : ∀ (i : Nat) (x : V), xs[i]? = some x → x.cells.length = sz) (hx2 : ∀ (i : Nat) (x : V) (j : Nat) (y : V), xs[i]? = some x → x.cells[j]? = some y → cs[i * sz + j]? = some (c i j))
  (hx3 : ∀ (i : Nat) (x : V) (j : Nat) (y : V), xs[i]? = some x → x.cells[j]? = some y → (c i j).oneCell' = true) (hx4 : ∀ (i : Nat) (x : V) (j : Nat) (y : V), xs[i]? = some x → x.cells[j]? = some y → Rep g y (c i j)) :
  Sim g₀ w₀ N (g.addM b cs) (upd σ d (.gr e false sz xs)) S (a.put (some d) (.slice (some ⟨b, 0, none⟩) xs.length cap)) w' := by
 have hcs : ∀ (k : Nat) (c : Value), cs[k]? = some c → cur[k]? = some c := by
  intro k c hk
  have hlt : k < xs.length * sz := by
   have := hown.1
   have h2 : k < cs.size := (Array.getElem?_eq_some_iff.1 hk).1
   simp at this; omega
  have h1 := hown.cellAt k hlt
  rw [cell_of_row _ _ _ _ _ _ hb] at h1
  rw [h1]; simpa using hk
 have hcap : xs.length ≤ cap := by
  rcases hown.2 with ⟨h', _⟩ | ⟨g', cap', cur', h', _, _, hle, _⟩
  ·simp at h'
  ·simp only [Value.slice.injEq, true_and] at h'; omega
 have hle := Le.tell (g := g) hM
 have hlen : cs.size = xs.length * sz := by have := hown.1; simpa using this
 refine h.put' hd (h.ext.tell hM hbase hos htape hout hsz ho) (h.sim.tell hM hb hcs hl hsz ho) hle ?_ ?_ ?_ ?_
 ·refine .gr e false sz xs _ (.sl sz xs b 0 cap c hcap hx1 (fun i x j y hx hy => ?_) hx3 (fun i x j y hx hy => (hx4 i x j y hx hy).mono hle))
  simp only [Gh.addM, if_true, Nat.zero_add]
  exact hx2 i x j y hx hy
 ·intro t ht hc
  refine hc.step (fun b' hb' hlt _ => ho b' (fun e => hfree t ht (e ▸ hb')) hlt) (fun b' k hb' hlt hk => ?_) (fun i l b' _ hi => hi)
  have : b' ≠ b := fun e => hfree t ht (e ▸ hb')
  simp only [Gh.addM, this, if_false]; exact hk
 ·refine ⟨⟨_, hown⟩, fun b' hb' => ?_⟩
  simp only [Value.ownBlock, Option.some.injEq] at hb'
  subst hb'
  refine ⟨fun k hk => ?_, hl⟩
  simp only [Gh.addM, if_true]
  exact Array.getElem?_eq_none (by omega)
 ·intro t b' ht hs
  simp only [spare_gr, Value.ownBlock]
  intro h'
  simp only [Option.some.injEq] at h'
  subst h'
  exact hfree t ht hs
theorem Sim.down {g₀ g : Gh} {w₀ w : World} {N : Nat} {σ : Nat → V} {S : St} {a : Act} (h : Sim g₀ w₀ N g σ S a w) (t : Nat) : Sim g₀ w₀ N g (upd σ t (σ t).plain) S a w :=
 h.weaken fun u => by
  by_cases hu : u = t
  ·subst hu; exact .inr (.inr (upd_same _ _ _))
  ·exact .inl (upd_ne _ _ hu)
def V.withCells : V → List V → V
 | .agg _, l => .agg l
 | _, [y] => y
 | _, _ => .any
def X.raw (σ : Nat → V) : X → V
 | .t n => σ n
 | .k v => v
def X.down (σ : Nat → V) : X → Nat → V
 | .t n => upd σ n (σ n).plain
 | .k _ => σ
def growOf (e sz : Nat) : V → Option (Bool × List V)
 | .gr e' nl sz' xs => if e' = e ∧ sz' = sz then some (nl, xs) else none
 | .sl nl _ xs => match nl with
  | true => match xs with
   | [] => some (true, [])
   | _ => none
  | false => none
 | _ => none
def appV (O : Ops) (e sz bytes : Nat) (x y : V) : Option V :=
 match growOf e sz x with
 | some p => match y with
  | .sl nl' sz' ys => if sz' = sz ∨ nl' = true then (match O.fit bytes p.2 ys with
   | true => some (.gr e (bif p.1 then O.emp ys else false) sz (O.app p.2 ys))
   | false => none) else none
  | _ => none
 | none => none
def clrL (xs : List V) (off ln : Nat) (z : V) : List V := xs.take off ++ (List.replicate ln z ++ xs.drop (off + ln))
def clrE (S : St) (sz : Nat) (z x : V) : Option St := match x with
 | .bs n k sz' off ln => match S.H n k with
  | some (.rows sz'' xs) => if sz' = sz ∧ sz'' = sz ∧ z.data = true ∧ z.cells.length = sz ∧ 0 ≤ off ∧ 0 ≤ ln ∧ off + ln ≤ xs.length then some (S.set n k (.rows sz (clrL xs off.toNat ln.toNat z))) else none
  | _ => none
 | .sl _ _ [] => some S
 | _ => none
def M.eff (σ : Nat → V) (S : St) : M → Option (V × (Nat → V) × St)
 | .asg x => some (x.raw σ, x.down σ, S)
 | .new z => some (.ref S.b S.c 0, σ, S.add z)
 | .box x => if (x.ev σ).data then some (.ref S.b S.c 0, σ, S.add (x.ev σ)) else none
 | .boxr x => if (x.ev σ).data then some (.ro (x.ev σ), σ, S) else none
 | .clr sz z x => match clrE S sz z (x.ev σ) with
  | some S' => some (.any, σ, S')
  | none => none
 | .boxs sz x => if (x.ev σ).data ∧ (x.ev σ).cells.length = sz then some (.ro (x.ev σ), σ, S) else none
 | .mks e sz xs => match S.O.good sz (xs.map (·.ev σ)) with
  | true => some (.gr e false sz (xs.map (·.ev σ)), σ, S)
  | false => none
 | .app _ e sz bytes x y => match appV S.O e sz bytes (x.raw σ) (y.ev σ) with
  | some v => some (v, x.down σ, S)
  | none => none
 | .st sz x y => match x.ev σ with
  | .ref i k off => match S.H i k with
   | some c => if c.isBig = false ∧ (y.ev σ).data = true ∧ (y.ev σ).cells.length = sz ∧ off + sz ≤ c.cells.length ∧ (c.isAgg = true ∨ (y.ev σ).isAgg = false) then
     some (.any, σ, S.set i k (c.withCells (setAll c.cells off (y.ev σ).cells))) else none
   | none => none
  | .eref i k sz' j => match S.H i k with
   | some (.rows sz'' xs) => if sz' = sz ∧ sz'' = sz ∧ (y.ev σ).data = true ∧ (y.ev σ).cells.length = sz then (match S.O.put xs j (y.ev σ) with
    | some xs' => some (.any, σ, S.set i k (.rows sz xs'))
    | none => none) else none
   | _ => none
  | _ => none
 | .mmk => some (.mref S.b S.c, σ, S.add (.mapv [] []))
 | .mup kt x k v => match x.ev σ with
  | .mref i j => match S.H i j with
   | some (.mapv ks vs) => match S.O.mput kt ks vs (k.ev σ) (v.ev σ) with
    | some p => some (.any, σ, S.set i j (.mapv p.1 p.2))
    | none => none
   | _ => none
  | _ => none
 | _ => none
def compEff (P : Program) (ro : Bool) : Op → Option M
 | .assign x => (compX x).map .asg
 | .alloc t => match P.info? t with
  | some ti => match ti.zero with
   | some z => (absV z).map .new
   | none => none
  | none => none
 | .box _ x => if ro then (compX x).map .boxr else (compX x).map .box
 | .buildSlice t len parts => match P.underlying t with
  | some (.slice e) => match P.info? e, compXs (parts.toList.map (·.2)) with
   | some ei, some xs => if parts.toList.map (·.1) = List.range len ∧ ei.size ≠ 0 ∧ (ei.zero.map (·.cells.size)) = some ei.size then some (.mks e ei.size xs) else none
   | _, _ => none
  | _ => none
 | .store t x y => match P.info? t, compX x, compX y with
  | some ti, some x, some y => some (.st ti.size x y)
  | _, _, _ => none
 | .call { callee := .builtin .append, args := args, argTypes := ts } => match args.toList, ts.toList with
  | [x, y], [t, t'] => if t = t' then (match P.underlying t with
   | some (.slice e) => match P.info? e, compX x, compX y with
    | some ei, some x, some y => if ei.size ≠ 0 ∧ (ei.zero.map (·.cells.size)) = some ei.size then some (.app t e ei.size ei.bytes x y) else none
    | _, _, _ => none
   | _ => none) else none
  | _, _ => none
 | .call { callee := .builtin .clear, args := args, argTypes := ts } => match args.toList, ts.toList with
  | [x], [t] => match P.underlying t with
   | some (.slice e) => match P.info? e, compX x with
    | some ei, some x => match ei.zero with
     | some z => match absV z with
      | some z' => some (.clr ei.size z' x)
      | none => none
     | none => none
    | _, _ => none
   | _ => none
  | _, _ => none
 | .makeMap _ none => some .mmk
 | .mapUpdate t x k y => match P.underlying t with
  | some (.map kTy _) => match keyKind P kTy, compX x, compX k, compX y with
   | some kt, some x, some k, some y => some (.mup kt x k y)
   | _, _, _, _ => none
  | _ => none
 | .insert t x k y => match P.underlying t with
  | some (.map kTy _) => match keyKind P kTy, compX x, compX k, compX y with
   | some kt, some x, some k, some y => some (.mup kt x k y)
   | _, _, _, _ => none
  | _ => none
 | _ => none
theorem absV_data {v : Value} {x : V} (h : absV v = some x) : x.data = true := by
 unfold absV at h
 split at h
 ·split at h <;> cases h; rfl
 ·unfold absS at h
  split at h <;> cases h <;> rfl
section
variable {P : Program} {g₀ g : Gh} {w₀ : World} {N : Nat} {S S' : St} {w : World} {σ σ' : Nat → V} {a : Act}
structure Boxed (S : St) (i l : Nat) (x : V) (S' : St) : Prop where
 H : S'.H = upd2 S.O S.H i l x
 ok : S'.ok i l = true
 mono : ∀ j m, S'.ok j m = false → S.ok j m = false
 n : S.n ≤ S'.n
 b : S'.b = S.b
theorem Sim.boxO (h : Sim g₀ w₀ N g σ S a w) {d : Nat} (hd : d < N) {i l : Nat} {x : V} (hB : Boxed S i l x S') (hf : g.loc i l = none) (ht : g₀.top ≤ i) (o : Obj) (hr : ObjRep g x o) {r : V} {val : Value}
  (hv : Rep (g.addBox i l w.heap.size) r val) (hg : r.isGr = false) :
  Sim g₀ w₀ N (g.addBox i l w.heap.size) (upd σ d r) S' (a.put (some d) val) (w.alloc o) := by
 refine h.put' hd (h.ext.addBox hf ht _) (h.sim.addBox i l x hf hB.H hB.ok hB.mono o hr) (.addBox hf) hv ?_ (.of_not hg) (fun _ _ _ _ => by simp [spare_not hg]) hB.n hB.b
 intro t _ hc
 refine hc.step (fun b _ hlt _ => heap_alloc_lt _ _ _ hlt) (fun b k _ _ hk => hk) (fun i k b hlt hi => ?_)
 simp only [Gh.addBox]
 split
 ·intro e; simp only [Option.some.injEq] at e; omega
 ·exact hi
theorem V.isBig_of_data {x : V} (h : x.data = true) : x.isBig = false := by cases x <;> first | rfl | (simp [V.data] at h)
theorem Sim.box (h : Sim g₀ w₀ N g σ S a w) {d : Nat} (hd : d < N) {i l : Nat} {x : V} (hB : Boxed S i l x S') (hf : g.loc i l = none) (ht : g₀.top ≤ i) (hbig : x.isBig = false) (cs : Array Value) (e : TypeId) (hr : Cells g x.cells cs) :
  Sim g₀ w₀ N (g.addBox i l w.heap.size) (upd σ d (.ref i l 0)) S' (a.put (some d) (.pointer (some ⟨w.heap.size, 0, none⟩))) (w.alloc (.cells cs e)) :=
 h.boxO hd hB hf ht _ (.cells x cs e hbig hr) (.ref _ _ _ _ (by simp [Gh.addBox])) rfl
theorem down_sim (h : Sim g₀ w₀ N g σ S a w) (x : X) : Sim g₀ w₀ N g (x.down σ) S a w := by
 cases x with
 | t n => exact h.down n
 | k v => exact h
theorem raw_rep (h : Sim g₀ w₀ N g σ S a w) {o : Operand} {x : X} (hx : compX o = some x) :
  Rep g (x.raw σ) (a.eval o) ∧ Claim g w w₀.heap.size (x.raw σ) (a.eval o) ∧ ∀ t b, spare (x.down σ t) (a.tmps.getD t undef) = some b → spare (x.raw σ) (a.eval o) ≠ some b := by
 cases o with
 | tmp n =>
  simp only [compX, Option.some.injEq] at hx; subst hx
  refine ⟨h.rep n, h.claim n, fun t b h1 h2 => ?_⟩
  by_cases ht : t = n
  ·subst ht
   simp only [X.down, upd_same] at h1
   rw [spare_not (plain_isGr _)] at h1; cases h1
  ·simp only [X.down, upd_ne _ _ ht] at h1
   exact ht (h.sep t n b h1 h2)
 | const v =>
  have hc := compX_rep hx h.rep
  simp only [compX] at hx
  split at hx <;> cases hx
  refine ⟨hc.1, .of_not hc.2, fun t b _ h2 => ?_⟩
  have : spare (X.raw σ (.k _)) (a.eval (.const v)) = none := spare_not hc.2
  rw [this] at h2; cases h2
 | func f =>
  have hc := compX_rep hx h.rep
  simp only [compX, Option.some.injEq] at hx; subst hx
  exact ⟨hc.1, .of_not hc.2, fun t b _ h2 => by simp [X.raw, spare] at h2⟩
 | global n => simp [compX] at hx
def Leaves (P : Program) (o : Oper) (a : Act) (w : World) (a' : Act) (w' : World) : Prop :=
 (∃ val, (execOp a.eval o).run P w = .ok (.value val) w' ∧ a' = a.put o.dst val) ∨ ((execOp a.eval o).run P w = .ok .skip w' ∧ a' = a.put o.dst undef)
theorem Leaves.wp {o : Oper} {a' : Act} {w' : World} (h : Leaves P o a w a' w') {K : Act → World → Prop} {Q : Exit → Act → World → Prop} (hK : K a' w') : o.wp P a w K Q := by
 unfold Oper.wp
 rcases h with ⟨val, h1, rfl⟩ | ⟨h1, rfl⟩ <;> rw [h1] <;> exact hK
theorem leaves_asg {o : Oper} {x : Operand} {x' : X} {d : Nat} (ho : o.op = .assign x) (hx : compX x = some x') (hdst : o.dst = some d) (hd : d < N) (h : Sim g₀ w₀ N g σ S a w) :
  ∃ a', Leaves P o a w a' w ∧ Sim g₀ w₀ N g (upd (x'.down σ) d (x'.raw σ)) S a' w := by
 obtain ⟨h1, h2, h3⟩ := raw_rep h hx
 refine ⟨_, .inl ⟨a.eval x, by simp [execOp, ho], rfl⟩, ?_⟩
 rw [hdst]
 exact (down_sim h x').put' hd h.ext h.sim (.refl g) h1 (fun _ _ c => c) h2 (fun t b _ hs => h3 t b hs)
theorem leaves_box {o : Oper} {t : TypeId} {x : Operand} {x' : X} {d : Nat} (ho : o.op = .box t x) (hx : compX x = some x') (hdst : o.dst = some d) (hd : d < N) (h : Sim g₀ w₀ N g σ S a w)
  (hdata : (x'.ev σ).data = true) {i l : Nat} (hB : Boxed S i l (x'.ev σ) S') (hf : g.loc i l = none) (ht : g₀.top ≤ i) :
  ∃ a' w', Leaves P o a w a' w' ∧ Sim g₀ w₀ N (g.addBox i l w.heap.size) (upd σ d (.ref i l 0)) S' a' w' := by
 have hr := (compX_rep hx h.rep).1
 refine ⟨_, _, .inl ⟨.pointer (some ⟨w.heap.size, 0, none⟩), by simp [execOp, ho, Instr.box, newVar, newRow]; rfl, rfl⟩, ?_⟩
 rw [hdst]
 exact h.box hd hB hf ht (V.isBig_of_data hdata) _ t (hr.cells hdata)
theorem leaves_boxr {o : Oper} {t : TypeId} {x : Operand} {x' : X} {d : Nat} (ho : o.op = .box t x) (hx : compX x = some x') (hdst : o.dst = some d) (hd : d < N) (h : Sim g₀ w₀ N g σ S a w)
  (hdata : (x'.ev σ).data = true) :
  ∃ g' a' w', g'.loc = g.loc ∧ Leaves P o a w a' w' ∧ Sim g₀ w₀ N g' (upd σ d (.ro (x'.ev σ))) S a' w' := by
 have hr := (compX_rep hx h.rep).1
 have hc := hr.cells hdata
 generalize x'.ev σ = y at hr hc
 generalize hev : a.eval x = pv at hr hc
 have hM : ∀ k c, g.M w.heap.size k = some c → pv.cells[k]? = some c := fun k c hk => by
  have := World.block_lt_of_cell? _ _ (h.sim.mem _ _ _ hk)
  simp at this
 have hL : ∀ i k, g.loc i k ≠ some w.heap.size := fun i k hi => by have := h.sim.locB _ _ _ hi; omega
 refine ⟨g.addM w.heap.size pv.cells, _, _, rfl, .inl ⟨.pointer (some ⟨w.heap.size, 0, none⟩), by simp [execOp, ho, Instr.box, newVar, newRow, hev]; rfl, rfl⟩, ?_⟩
 rw [hdst]
 have hle := Le.tell (g := g) hM
 refine h.put' hd (h.ext.tell hM h.ext.size rfl rfl rfl (by simp) fun k hk hlt => heap_alloc_lt _ _ _ hlt)
  (h.sim.tell (w' := w.alloc (.cells pv.cells t)) (cur := pv.cells) (e := t) hM (heap_alloc_new _ _) (fun k c hk => hk) hL (by simp) (fun k hk hlt => heap_alloc_lt _ _ _ hlt)) hle ?_ ?_ (.of_not rfl) (fun _ _ _ _ => by rw [spare_not rfl]; simp)
 ·refine .ro y w.heap.size 0 (fun j => pv.cells.getD j undef) (fun j z hz => ?_) (fun j z hz => ?_) (fun j z hz => ?_)
  all_goals
   have hlt : j < pv.cells.size := by rw [← hc.1.1]; exact (List.getElem?_eq_some_iff.1 hz).1
   have e : pv.cells.getD j undef = pv.cells[j] := by simp [hlt]
   rw [e]
  ·simp [Gh.addM, hlt]
  ·exact hc.2 j _ (by simp [hlt])
  ·exact (hc.1.2 j z _ hz (by simp [hlt])).mono hle
 ·intro t _ hcl
  refine hcl.step (fun b _ hlt _ => heap_alloc_lt _ _ _ hlt) (fun b' k hb' hlt hk => ?_) (fun i l b' _ hi => hi)
  have : b' ≠ w.heap.size := fun e => by omega
  simp only [Gh.addM, this, if_false]; exact hk
theorem leaves_new {o : Oper} {t : TypeId} {ti : TypeInfo} {z : Value} {z' : V} {d : Nat} (ho : o.op = .alloc t) (hi : P.info? t = some ti) (hz : ti.zero = some z) (hz' : absV z = some z')
  (hdst : o.dst = some d) (hd : d < N) (h : Sim g₀ w₀ N g σ S a w) {i l : Nat} (hB : Boxed S i l z' S') (hf : g.loc i l = none) (ht : g₀.top ≤ i) :
  ∃ a' w', Leaves P o a w a' w' ∧ Sim g₀ w₀ N (g.addBox i l w.heap.size) (upd σ d (.ref i l 0)) S' a' w' := by
 have hr := (absV_rep hz' g).1
 refine ⟨_, _, .inl ⟨.pointer (some ⟨w.heap.size, 0, none⟩), by simp [execOp, ho, Instr.alloc, zeroValue, typeInfo, hi, hz, newVar, newRow]; rfl, rfl⟩, ?_⟩
 rw [hdst]
 exact h.box hd hB hf ht (V.isBig_of_data (absV_data hz')) _ t (hr.cells (absV_data hz'))
theorem flat_cells {xs : List V} {vs : List Value} {sz : Nat} (h0 : 0 < sz) (hl : xs.length = vs.length) (h1 : ∀ (i : Nat) (x : V) (v : Value), xs[i]? = some x → vs[i]? = some v → Cells g x.cells v.cells ∧ x.cells.length = sz) :
  (∀ v ∈ vs, v.cells.size = sz) ∧ ∀ (i : Nat) (x : V) (j : Nat) (y : V), xs[i]? = some x → x.cells[j]? = some y →
   (vs.flatMap fun v => v.cells.toList)[i * sz + j]? = some (((vs.getD i undef).cells).getD j undef) ∧ Rep g y (((vs.getD i undef).cells).getD j undef) ∧ (((vs.getD i undef).cells).getD j undef).oneCell' = true := by
 have hsz : ∀ v ∈ vs, v.cells.size = sz := fun v hv => by
  obtain ⟨i, hi, rfl⟩ := List.mem_iff_getElem.1 hv
  have := h1 i xs[i] vs[i] (by simp [hl, hi]) (by simp [hi])
  rw [← this.2]; exact this.1.1.1.symm
 refine ⟨hsz, fun i x j y hx hy => ?_⟩
 have hi : i < vs.length := by rw [← hl]; exact (List.getElem?_eq_some_iff.1 hx).1
 have hc := h1 i x vs[i] hx (by simp [hi])
 have hj : j < sz := by rw [← hc.2]; exact (List.getElem?_eq_some_iff.1 hy).1
 have hjs : j < vs[i].cells.size := by rw [hsz _ (List.getElem_mem hi)]; exact hj
 have e1 : vs.getD i undef = vs[i] := by simp [hi]
 have e2 : vs[i].cells.getD j undef = vs[i].cells[j] := by simp [hjs]
 rw [e1, e2]
 refine ⟨?_, hc.1.1.2 j y _ hy (by simp [hjs]), hc.1.2 j _ (by simp [hjs])⟩
 rw [Great.flat_get h0 vs hsz]
 have hdiv : (i * sz + j) / sz = i := by rw [Nat.mul_comm, Nat.mul_add_div h0, Nat.div_eq_of_lt hj]; simp
 have hmod : (i * sz + j) % sz = j := by rw [Nat.mul_comm, Nat.mul_add_mod, Nat.mod_eq_of_lt hj]
 rw [hdiv, hmod]
 simp [hi, hjs]
theorem zip_parts (a : Act) : ∀ (ps : List (Nat × Operand)) (k : Nat), ps.map (·.1) = List.range' k ps.length →
  (ps.map fun (i, x) => (i, a.eval x)) = ((ps.map fun p => a.eval p.2).zipIdx k).map fun x => (x.2, x.1)
 | [], _, _ => rfl
 | (i, o) :: r, k, h => by
  simp only [List.map_cons, List.length_cons, List.range'_succ, List.cons.injEq] at h
  obtain ⟨rfl, h2⟩ := h
  simp only [List.map_cons, List.zipIdx_cons, List.cons.injEq, true_and]
  exact zip_parts a r _ h2
theorem leaves_mks {o : Oper} {t e len : Nat} {parts : Array (Nat × Operand)} {ei : TypeInfo} {xs : List X} {d : Nat} (ho : o.op = .buildSlice t len parts) (hu : P.underlying t = some (.slice e))
  (he : P.info? e = some ei) (hx : compXs (parts.toList.map (·.2)) = some xs) (hp : parts.toList.map (·.1) = List.range len) (h0 : ei.size ≠ 0) (hz : (ei.zero.map (·.cells.size)) = some ei.size)
  (hdst : o.dst = some d) (hd : d < N) (h : Sim g₀ w₀ N g σ S a w) (hall : ∀ x ∈ xs.map (·.ev σ), x.data = true ∧ x.cells.length = ei.size) (hsm : xs.length * ei.size ≤ 16777216) :
  ∃ g' a' w', g'.loc = g.loc ∧ Leaves P o a w a' w' ∧ Sim g₀ w₀ N g' (upd σ d (.gr e false ei.size (xs.map (·.ev σ)))) S a' w' := by
 obtain ⟨z, hz1, hz2⟩ := Option.map_eq_some_iff.1 hz
 have hreps := compXs_reps hx h.rep
 have hlen : parts.toList.length = len := by have := congrArg List.length hp; simpa using this
 have hxl : xs.length = len := by rw [hreps.1]; simpa using hlen
 let vs : List Value := parts.toList.map fun p => a.eval p.2
 have hvl : (xs.map (·.ev σ)).length = vs.length := by simp [vs, hxl]; simpa using hlen.symm
 have hpos : 0 < ei.size := Nat.pos_of_ne_zero h0
 have hfc := flat_cells (g := g) (xs := xs.map (·.ev σ)) (vs := vs) hpos hvl (fun i x v hx' hv => by
  have hd' := hall x (List.mem_of_getElem? hx')
  have := hreps.2 i x v hx' (by simpa [vs, Function.comp_def] using hv)
  exact ⟨this.1.cells hd'.1, hd'.2⟩)
 have hflen : (vs.flatMap fun v => v.cells.toList).length = vs.length * ei.size := by
  have : ∀ (l : List Value), (∀ v ∈ l, v.cells.size = ei.size) → (l.flatMap fun v => v.cells.toList).length = l.length * ei.size := by
   intro l
   induction l with
   | nil => simp
   | cons v l ih =>
    intro hl
    simp only [List.flatMap_cons, List.length_append, Array.length_toList, hl v List.mem_cons_self, ih (fun v hv => hl v (List.mem_cons_of_mem _ hv)), List.length_cons]
    rw [Nat.add_mul]; omega
  exact this vs hfc.1
 have hvlen : vs.length = len := by rw [← hvl]; simpa using hxl
 have hfill : Instr.fill (fun i => some (i * ei.size, ei.size)) ((Array.range (len * ei.size)).map (z.cells[· % z.cells.size]!)) (parts.map fun (i, x) => (i, a.eval x)).toList =
   some (vs.flatMap fun v => v.cells.toList).toArray := by
  have e1 : (parts.map fun (i, x) => (i, a.eval x)).toList = (vs.zipIdx 0).map fun x => (x.2, x.1) := by
   rw [Array.toList_map]
   exact zip_parts a parts.toList 0 (by rw [hp, List.range_eq_range', hlen])
  rw [e1]
  exact Great.fill_whole hpos vs _ hfc.1 (by simp [hvlen])
 have hrun : (Instr.buildSlice t len (parts.map fun (i, x) => (i, a.eval x))).run P w = .ok (.slice (some ⟨w.heap.size, 0, none⟩) len len) (w.alloc (.cells (vs.flatMap fun v => v.cells.toList).toArray e)) := by
  by_cases hl0 : len * ei.size = 0
  ·have hl0' : len = 0 := by rcases Nat.mul_eq_zero.1 hl0 with h' | h'; exact h'; exact absurd h' h0
   subst hl0'
   have hp0 : parts = #[] := by apply Array.ext'; simpa using hlen
   subst hp0
   simp [Instr.buildSlice, run_underlying hu, run_sizeOf' he, Instr.fill, newRow, vs, show Array.range 0 = #[] from rfl]
  ·exact run_buildSlice w t e len _ _ ei z hu he hz1 (by rw [← hxl]; omega) hl0 hfill
 refine ⟨g.addM w.heap.size (vs.flatMap fun v => v.cells.toList).toArray, _, _, rfl, .inl ⟨_, by simp only [execOp, ho, Sem.run_bind, hrun, Result.andThen_ok]; rfl, rfl⟩, ?_⟩
 rw [hdst]
 have hM : ∀ k c, g.M w.heap.size k = some c → (vs.flatMap fun v => v.cells.toList).toArray[k]? = some c := fun k c hk => by
  have := World.block_lt_of_cell? _ _ (h.sim.mem _ _ _ hk)
  simp at this
 have hL : ∀ i k, g.loc i k ≠ some w.heap.size := fun i k hi => by have := h.sim.locB _ _ _ hi; omega
 have hlx : (xs.map (·.ev σ)).length = len := by simpa using hxl
 have hown : (w.alloc (.cells (vs.flatMap fun v => v.cells.toList).toArray e)).ownsRow w₀.heap.size e ei.size (.slice (some ⟨w.heap.size, 0, none⟩) len len) len (vs.flatMap fun v => v.cells.toList).toArray.toList :=
  World.ownsRow_lit w _ len h.ext.size (by
   have h1 : len ≤ len * ei.size := Nat.le_mul_of_pos_right _ hpos
   rw [hxl] at hsm
   simp only [maxLen]; omega) (by simp only [List.size_toArray, hflen, hvlen])
 rw [← hlx] at hown ⊢
 exact h.tell hd hM h.ext.size (heap_alloc_new _ _) hL rfl rfl rfl (by simp) (fun k hk hlt => heap_alloc_lt _ _ _ hlt)
  (fun t _ hs => by have := (h.claim t).lt hs; omega) hown (fun i j => ((vs.getD i undef).cells).getD j undef) (fun i x hx' => (hall x (List.mem_of_getElem? hx')).2)
  (fun i x j y hx' hy => by simpa using (hfc.2 i x j y hx' hy).1) (fun i x j y hx' hy => (hfc.2 i x j y hx' hy).2.2) (fun i x j y hx' hy => (hfc.2 i x j y hx' hy).2.1)
theorem withCells_cells {c : V} {l : List V} (hl : l.length = c.cells.length) (hagg : c.isAgg = true ∨ ∀ y ∈ l, y.isAgg = false) : (c.withCells l).cells = l := by
 cases c with
 | agg cs => rfl
 | _ =>
  rcases hagg with h | h
  ·simp [V.isAgg] at h
  ·match l, hl with
   | [y], _ =>
    have := h y (by simp)
    simp only [V.withCells]
    exact cells_one this
theorem Sim.setBox (h : Sim g₀ w₀ N g σ S a w) {i l b : Nat} (hb : g.loc i l = some b) {x : V} {o' : Obj} {w' : World} (hx : ObjRep g x o') (hoth : ∀ k, k ≠ b → w'.heap[k]? = w.heap[k]?) (hnew : w'.heap[b]? = some o')
  (hsz : w'.heap.size = w.heap.size) (hos : w'.os = w.os) (htape : w'.tape = w.tape) (hout : w'.output = w.output) : Sim g₀ w₀ N g σ (S.set i l x) a w' := by
 constructor
 ·refine ⟨h.ext.le, hos.trans h.ext.os, htape.trans h.ext.tape, hout.trans h.ext.output, by rw [hsz]; exact h.ext.size, fun k hk hn => ?_, h.ext.newLoc, h.ext.newM, h.ext.top, h.ext.newName⟩
  rw [hoth k (fun e' => ?_)]
  ·exact h.ext.block k hk hn
  ·subst e'
   rcases h.ext.newLoc i l k hb with h' | h'
   ·exact hn i l h'
   ·omega
 ·constructor
  ·intro b' o' v hv
   have hne : b' ≠ b := fun e' => by subst e'; rw [h.sim.boxM i l b' hb o'] at hv; cases hv
   rw [World.cell?_of_block (w := w) (a := ⟨b', o', none⟩) (hoth b' hne)]; exact h.sim.mem _ _ _ hv
  ·intro j m z hz
   simp only [St.set, upd2_eq S.hO] at hz
   by_cases hj : j = i ∧ m = l
   ·obtain ⟨rfl, rfl⟩ := hj
    simp only [and_self, if_true, Option.some.injEq] at hz
    subst hz
    exact ⟨b, o', hb, hnew, hx⟩
   ·rw [if_neg hj] at hz
    obtain ⟨b', o'', m1, m2, m3⟩ := h.sim.box j m z hz
    have hne : b' ≠ b := fun e' => by subst e'; exact hj (h.sim.inj _ _ _ _ _ m1 hb)
    exact ⟨b', o'', m1, by rw [hoth b' hne]; exact m2, m3⟩
  ·exact h.sim.inj
  ·exact h.sim.boxM
  ·intro j m b' hb'; rw [hsz]; exact h.sim.locB j m b' hb'
  ·exact h.sim.fresh
 ·exact h.size
 ·exact h.dfr
 ·exact h.rep
 ·intro t
  refine (h.claim t).step (fun b' _ hlt hL => hoth b' fun e' => ?_) (fun _ _ _ _ hk => hk) (fun _ _ _ _ hi => hi)
  subst e'; exact hL i l hb
 ·exact h.sep
 ·exact h.low
 ·exact h.none0
theorem store_raw {o : Oper} {t : TypeId} {ti : TypeInfo} {x y : Operand} (ho : o.op = .store t x y) (hi : P.info? t = some ti) {b off : Nat} {e : TypeId} {cs : Array Value} (hex : a.eval x = .pointer (some ⟨b, off, none⟩))
  (k2 : w.heap[b]? = some (.cells cs e (0, 0))) (hvl : (a.eval y).cells.size = ti.size) (hone : ∀ v ∈ (a.eval y).cells.toList, v.oneCell' = true) (hfit : off + ti.size ≤ cs.size) :
  ∃ cs' : Array Value, (execOp a.eval o).run P w = .ok .skip (w.setRow b cs') ∧ (∀ k, cs'[k]? = if off ≤ k ∧ k < off + ti.size then (a.eval y).cells[k - off]? else cs[k]?) ∧ cs'.size = cs.size := by
 have hst := run_storeCells_at P b off e (a.eval y).cells.toList 0 cs w k2 (by simp only [Array.length_toList]; omega) hone
 simp only [Nat.add_zero, Array.length_toList] at hst
 refine ⟨(cs.toList.take off ++ (a.eval y).cells.toList ++ cs.toList.drop (off + (a.eval y).cells.size)).toArray, ?_, fun k => ?_, ?_⟩
 ·simp only [execOp, ho, hex, Instr.storeAt, Instr.sureAddr, storeVar, Sem.run_bind, Sem.run_pure, Result.andThen_ok, run_sizeOf' hi]
  rw [if_neg (by simp [hvl])]
  simp only [hst, Result.andThen_ok]
 ·simp only [List.getElem?_toArray]
  by_cases h1 : k < off
  ·rw [if_neg (by omega), List.append_assoc, List.getElem?_append_left (by simp; omega), List.getElem?_take, if_pos h1]; simp
  ·by_cases h2 : k < off + ti.size
   ·rw [if_pos ⟨by omega, h2⟩, List.append_assoc, List.getElem?_append_right (by simp; omega), List.getElem?_append_left (by simp; omega)]
    have : min off cs.size = off := by omega
    simp [this]
   ·rw [if_neg (by omega), List.getElem?_append_right (by simp; omega), List.getElem?_drop]
    simp only [List.length_append, List.length_take, Array.length_toList, Array.getElem?_toList]
    congr 1; omega
 ·simp only [List.size_toArray, List.length_append, List.length_take, List.length_drop, Array.length_toList]; omega
theorem leaves_st {o : Oper} {t : TypeId} {ti : TypeInfo} {x y : Operand} {x' y' : X} (ho : o.op = .store t x y) (hi : P.info? t = some ti) (hx : compX x = some x') (hy : compX y = some y')
  (hdst : o.dst = none) (h : Sim g₀ w₀ N g σ S a w) {i l off : Nat} (hxe : x'.ev σ = .ref i l off) {c : V} (hH : S.H i l = some c) (hbig : c.isBig = false) (hdata : (y'.ev σ).data = true) (hcl : (y'.ev σ).cells.length = ti.size)
  (hfit : off + ti.size ≤ c.cells.length) (hagg : c.isAgg = true ∨ (y'.ev σ).isAgg = false) :
  ∃ a' w', Leaves P o a w a' w' ∧ Sim g₀ w₀ N g σ (S.set i l (c.withCells (setAll c.cells off (y'.ev σ).cells))) a' w' := by
 have hx' := (compX_rep hx h.rep).1
 have hy' := (compX_rep hy h.rep).1.cells hdata
 rw [hxe] at hx'
 generalize hex : a.eval x = pv at hx'
 cases hx' with
 | ref _ _ _ b hb =>
  obtain ⟨b', cs, e, k1, k2, k3⟩ := h.sim.box' hH hbig
  rw [hb] at k1; cases k1
  have hlen : c.cells.length = cs.size := k3.1.1
  have hvl : (a.eval y).cells.size = ti.size := by rw [← hcl]; exact hy'.1.1.symm
  have hone : ∀ v ∈ (a.eval y).cells.toList, v.oneCell' = true := fun v hv => by
   obtain ⟨j, hj, rfl⟩ := List.mem_iff_getElem.1 hv
   exact hy'.2 j _ (by simp at hj; simp [hj])
  obtain ⟨cs', hrun, hget, hsz'⟩ := store_raw ho hi hex k2 hvl hone (by omega)
  refine ⟨_, _, .inr ⟨hrun, rfl⟩, ?_⟩
  rw [hdst]
  have hnew : Cells g (setAll c.cells off (y'.ev σ).cells) cs' := by
   refine ⟨⟨by rw [setAll_length, hlen, hsz'], fun j z v hz hv => ?_⟩, fun j v hv => ?_⟩
   ·rw [setAll_get, hcl] at hz
    rw [hget] at hv
    split at hz
    ·rename_i hc; rw [if_pos ⟨hc.1, hc.2.1⟩] at hv; exact hy'.1.2 _ _ _ hz hv
    ·rename_i hc
     by_cases hc' : off ≤ j ∧ j < off + ti.size
     ·exact absurd ⟨hc'.1, hc'.2, by omega⟩ hc
     ·rw [if_neg hc'] at hv; exact k3.1.2 _ _ _ hz hv
   ·rw [hget] at hv
    split at hv
    ·exact hy'.2 _ _ hv
    ·exact k3.2 _ _ hv
  have hwc : (c.withCells (setAll c.cells off (y'.ev σ).cells)).cells = setAll c.cells off (y'.ev σ).cells := by
   refine withCells_cells (setAll_length _ _ _) ?_
   rcases hagg with h1 | h1
   ·exact .inl h1
   ·refine .inr fun z hz => ?_
    obtain ⟨j, hj⟩ := mem_get hz
    have hlt : j < cs'.size := by rw [← hnew.1.1]; exact (List.getElem?_eq_some_iff.1 hj).1
    exact (hnew.1.2 j z cs'[j] hj (by simp [hlt])).notAgg (hnew.2 j _ (by simp [hlt]))
  have hwb : (c.withCells (setAll c.cells off (y'.ev σ).cells)).isBig = false := by
   have hb1 : ∀ z ∈ setAll c.cells off (y'.ev σ).cells, z.isBig = false := fun z hz => by
    obtain ⟨j, hj⟩ := mem_get hz
    have hlt : j < cs'.size := by rw [← hnew.1.1]; exact (List.getElem?_eq_some_iff.1 hj).1
    exact (hnew.1.2 j z cs'[j] hj (by simp [hlt])).notBig
   generalize setAll c.cells off (y'.ev σ).cells = L at hb1
   cases c with
   | agg => rfl
   | _ =>
    match L with
    | [] => rfl
    | [z] => exact hb1 z (by simp)
    | _ :: _ :: _ => rfl
  exact h.setBox hb (.cells _ cs' e hwb (by rw [hwc]; exact hnew)) (fun k hk => setRow_other w b k cs' hk) (setRow_heap w b cs cs' e (0, 0) k2) (by simp [World.setRow]) rfl rfl rfl
theorem leaves_ste {o : Oper} {t : TypeId} {ti : TypeInfo} {x y : Operand} {x' y' : X} (ho : o.op = .store t x y) (hi : P.info? t = some ti) (hx : compX x = some x') (hy : compX y = some y')
  (hdst : o.dst = none) (h : Sim g₀ w₀ N g σ S a w) {i l : Nat} {j : Int} (hxe : x'.ev σ = .eref i l ti.size j) {xs : List V} (hH : S.H i l = some (.rows ti.size xs)) (hdata : (y'.ev σ).data = true) (hcl : (y'.ev σ).cells.length = ti.size)
  (h0 : 0 ≤ j) (hlt : j < xs.length) :
  ∃ a' w', Leaves P o a w a' w' ∧ Sim g₀ w₀ N g σ (S.set i l (.rows ti.size (xs.set j.toNat (y'.ev σ)))) a' w' := by
 have hx' := (compX_rep hx h.rep).1
 have hy' := (compX_rep hy h.rep).1.cells hdata
 rw [hxe] at hx'
 generalize hex : a.eval x = pv at hx'
 cases hx' with
 | eref _ _ _ _ b hb _ =>
  obtain ⟨b', cs, e, k1, k2, k3⟩ := h.sim.arr hH
  rw [hb] at k1; cases k1
  have hvl : (a.eval y).cells.size = ti.size := by rw [← hcl]; exact hy'.1.1.symm
  have hone : ∀ v ∈ (a.eval y).cells.toList, v.oneCell' = true := fun v hv => by
   obtain ⟨j, hj, rfl⟩ := List.mem_iff_getElem.1 hv
   exact hy'.2 j _ (by simp at hj; simp [hj])
  have hjl : j.toNat < xs.length := by omega
  have hfit : j.toNat * ti.size + ti.size ≤ cs.size := by
   refine Nat.le_trans ?_ k3.size
   rw [← Nat.succ_mul]; exact Nat.mul_le_mul_right _ hjl
  obtain ⟨cs', hrun, hget, hsz'⟩ := store_raw ho hi hex k2 hvl hone hfit
  refine ⟨_, _, .inr ⟨hrun, rfl⟩, ?_⟩
  rw [hdst]
  refine h.setBox hb (.rows _ _ cs' e ⟨by rw [hsz', List.length_set]; exact k3.size, fun q z hz => ?_, fun q z r u hz hu => ?_⟩) (fun k hk => setRow_other w b k cs' hk) (setRow_heap w b cs cs' e (0, 0) k2) (by simp [World.setRow]) rfl rfl rfl
  ·rw [List.getElem?_set] at hz
   split at hz
   ·(try (split at hz)) <;> cases hz
    exact ⟨hdata, hcl⟩
   ·exact k3.shape _ _ hz
  ·rw [List.getElem?_set] at hz
   split at hz
   ·rename_i e1
    (try (split at hz)) <;> cases hz
    subst e1
    have hr : r < ti.size := by rw [← hcl]; exact (List.getElem?_eq_some_iff.1 hu).1
    rw [hget, if_pos ⟨by omega, by omega⟩, show j.toNat * ti.size + r - j.toNat * ti.size = r by omega]
    have hlt' : r < (a.eval y).cells.size := by omega
    exact ⟨(a.eval y).cells[r], by simp [hlt'], hy'.1.2 r u _ hu (by simp [hlt']), hy'.2 r _ (by simp [hlt'])⟩
   ·rename_i e1
    have hsh := (k3.shape _ _ hz).2
    have hr : r < ti.size := by rw [← hsh]; exact (List.getElem?_eq_some_iff.1 hu).1
    rw [hget, if_neg]
    ·exact k3.cell _ _ _ _ hz hu
    ·rintro ⟨a1, a2⟩
     rcases Nat.lt_or_gt_of_ne e1 with h' | h'
     ·have : (j.toNat + 1) * ti.size ≤ q * ti.size := Nat.mul_le_mul_right _ h'
      rw [Nat.succ_mul] at this; omega
     ·have : (q + 1) * ti.size ≤ j.toNat * ti.size := Nat.mul_le_mul_right _ h'
      rw [Nat.succ_mul] at this; omega
theorem clrL_get (xs : List V) (off ln : Nat) (z : V) (h : off + ln ≤ xs.length) (i : Nat) : (clrL xs off ln z)[i]? = if off ≤ i ∧ i < off + ln then some z else xs[i]? := by
 unfold clrL
 by_cases h1 : i < off
 ·rw [if_neg (by omega), List.getElem?_append_left (by simp; omega), List.getElem?_take, if_pos h1]
 ·rw [List.getElem?_append_right (by simp; omega)]
  simp only [List.length_take]
  by_cases h2 : i < off + ln
  ·rw [if_pos ⟨by omega, h2⟩, List.getElem?_append_left (by simp; omega), List.getElem?_replicate, if_pos (by omega)]
  ·rw [if_neg (by omega), List.getElem?_append_right (by simp; omega), List.getElem?_drop]
   simp only [List.length_replicate]
   congr 1; omega
theorem clrL_length (xs : List V) (off ln : Nat) (z : V) (h : off + ln ≤ xs.length) : (clrL xs off ln z).length = xs.length := by
 unfold clrL; simp; omega
theorem leaves_clr {o : Oper} {t e : TypeId} {ei : TypeInfo} {z : Value} {z' : V} {x : Operand} {x' : X} (ho : o.op = .call { callee := .builtin .clear, args := #[x], argTypes := #[t] }) (hu : P.underlying t = some (.slice e))
  (he : P.info? e = some ei) (hz : ei.zero = some z) (hz' : absV z = some z') (hx : compX x = some x') (hdst : o.dst = none) (h : Sim g₀ w₀ N g σ S a w) (hc : clrE S ei.size z' (x'.ev σ) = some S') :
  ∃ a' w', Leaves P o a w a' w' ∧ Sim g₀ w₀ N g σ S' a' w' := by
 have hx' := (compX_rep hx h.rep).1
 have hrz := (absV_rep hz' g).1.cells (absV_data hz')
 have hrun : ∀ w', (Builtin.clear_ #[t] o.type #[a.eval x]).run P w = .ok (.tuple #[]) w' → Leaves P o a w (a.put o.dst (.tuple #[])) w' := fun w' hr =>
  .inl ⟨.tuple #[], by simp [execOp, ho, resolve, invoke, builtin, hr], rfl⟩
 have fin : ∀ (S' : St) (w' : World), (Builtin.clear_ #[t] o.type #[a.eval x]).run P w = .ok (.tuple #[]) w' → Sim g₀ w₀ N g σ S' a w' → ∃ a' w', Leaves P o a w a' w' ∧ Sim g₀ w₀ N g σ S' a' w' := fun S' w' hr hs => by
  refine ⟨_, w', hrun w' hr, ?_⟩
  rw [hdst]
  exact hs
 generalize x'.ev σ = vx at hx' hc
 generalize a.eval x = pv at hx' fin hrun
 unfold clrE at hc
 split at hc
 ·rename_i n k sz' off ln
  split at hc
  ·rename_i sz'' xs hH
   split at hc <;> cases hc
   rename_i hcond
   obtain ⟨rfl, rfl, hzd, hzl, h0, h1, hle⟩ := hcond
   cases hx' with
   | bs _ _ _ _ _ b o' cap hb _ _ ho' hcap =>
    obtain ⟨b', cs, e', k1, k2, k3⟩ := h.sim.arr hH
    rw [hb] at k1; cases k1
    have hlen' : off.toNat + ln.toNat ≤ xs.length := by omega
    have hzs : z.cells.size = ei.size := by rw [← hzl]; exact hrz.1.1.symm
    by_cases hln : ln.toNat = 0
    ·
     have hsame : clrL xs off.toNat ln.toNat z' = xs := by
      apply List.ext_getElem?
      intro i
      rw [clrL_get _ _ _ _ hlen', if_neg (by omega)]
     rw [hsame]
     refine fin _ w (by rw [hln]; simp [Builtin.clear_, run_underlying hu]) ?_
     exact h.setBox hb (.rows _ _ cs e' k3) (fun _ _ => rfl) k2 rfl rfl rfl rfl
    ·have hoff : o' = off.toNat * ei.size := ho' (by omega)
     subst hoff
     have hzc : (Builtin.zeroCells z.cells ln.toNat).size = ln.toNat * ei.size := by rw [size_zeroCells, hzs]
     have hzg : ∀ j, j < ln.toNat * ei.size → ∃ q : Nat, q < ei.size ∧ j % ei.size = q ∧ (Builtin.zeroCells z.cells ln.toNat)[j]? = z.cells[q]? := fun j hj => by
      have hpos : 0 < ei.size := by
       rcases Nat.eq_zero_or_pos ei.size with h | h
       ·rw [h] at hj; simp at hj
       ·exact h
      refine ⟨j % ei.size, Nat.mod_lt _ hpos, rfl, ?_⟩
      have hq : j % ei.size < z.cells.size := by rw [hzs]; exact Nat.mod_lt _ hpos
      simp only [Builtin.zeroCells]
      rw [Array.getElem?_map, Array.getElem?_range, if_pos (by rw [hzs]; exact hj)]
      simp only [Option.map_some, hzs]
      rw [Array.getElem?_eq_getElem hq]
      simp [hq]
     have hone : ∀ v ∈ (Builtin.zeroCells z.cells ln.toNat).toList, v.oneCell' = true := fun v hv => by
      obtain ⟨j, hj, rfl⟩ := List.mem_iff_getElem.1 hv
      have hj' : j < ln.toNat * ei.size := by simpa [hzc] using hj
      obtain ⟨q, _, _, hq⟩ := hzg j hj'
      refine hrz.2 q _ ?_
      rw [← hq]
      simp at hj
      simp [hj]
     have hfit : off.toNat * ei.size + ln.toNat * ei.size ≤ cs.size := by
      refine Nat.le_trans ?_ k3.size
      rw [← Nat.add_mul]; exact Nat.mul_le_mul_right _ hlen'
     have hst := run_storeCells_at P b (off.toNat * ei.size) e' (Builtin.zeroCells z.cells ln.toNat).toList 0 cs w k2 (by simp only [Array.length_toList, hzc]; omega) hone
     simp only [Nat.add_zero, Array.length_toList, hzc] at hst
     generalize hcs' : (cs.toList.take (off.toNat * ei.size) ++ (Builtin.zeroCells z.cells ln.toNat).toList ++ cs.toList.drop (off.toNat * ei.size + ln.toNat * ei.size)).toArray = cs' at hst
     have hget : ∀ k, cs'[k]? = if off.toNat * ei.size ≤ k ∧ k < off.toNat * ei.size + ln.toNat * ei.size then (Builtin.zeroCells z.cells ln.toNat)[k - off.toNat * ei.size]? else cs[k]? := fun k => by
      subst hcs'
      simp only [List.getElem?_toArray]
      by_cases h1 : k < off.toNat * ei.size
      ·rw [if_neg (by omega), List.append_assoc, List.getElem?_append_left (by simp; omega), List.getElem?_take, if_pos h1]; simp
      ·by_cases h2 : k < off.toNat * ei.size + ln.toNat * ei.size
       ·rw [if_pos ⟨by omega, h2⟩, List.append_assoc, List.getElem?_append_right (by simp; omega), List.getElem?_append_left (by simp [hzc]; omega)]
        have : min (off.toNat * ei.size) cs.size = off.toNat * ei.size := by omega
        simp [this]
       ·rw [if_neg (by omega), List.getElem?_append_right (by simp [hzc]; omega), List.getElem?_drop]
        simp only [List.length_append, List.length_take, Array.length_toList, Array.getElem?_toList, hzc]
        congr 1; omega
     have hsz' : cs'.size = cs.size := by
      subst hcs'
      simp only [List.size_toArray, List.length_append, List.length_take, List.length_drop, Array.length_toList, hzc]; omega
     have hn0 : ∃ m, ln.toNat = m + 1 := ⟨ln.toNat - 1, by omega⟩
     obtain ⟨m, hm⟩ := hn0
     refine fin _ (w.setRow b cs') ?_ ?_
     ·rw [hm] at hst ⊢
      simp [Builtin.clear_, run_underlying hu, zeroValue, typeInfo, he, hz, hst]
     refine h.setBox hb (.rows _ _ cs' e' ⟨by rw [clrL_length _ _ _ _ hlen', hsz']; exact k3.size, fun q y hy => ?_, fun q y r u hy hu => ?_⟩) (fun k hk => setRow_other w b k cs' hk) (setRow_heap w b cs cs' e' (0, 0) k2) (by simp [World.setRow]) rfl rfl rfl
     ·rw [clrL_get _ _ _ _ hlen'] at hy
      split at hy
      ·cases hy; exact ⟨hzd, hzl⟩
      ·exact k3.shape _ _ hy
     ·rw [clrL_get _ _ _ _ hlen'] at hy
      split at hy
      ·rename_i hq
       cases hy
       have hr : r < ei.size := by rw [← hzl]; exact (List.getElem?_eq_some_iff.1 hu).1
       have h3 : q * ei.size + r < (off.toNat + ln.toNat) * ei.size := by
        have : (q + 1) * ei.size ≤ (off.toNat + ln.toNat) * ei.size := Nat.mul_le_mul_right _ hq.2
        rw [Nat.succ_mul] at this; omega
       have h4 : off.toNat * ei.size ≤ q * ei.size := Nat.mul_le_mul_right _ hq.1
       rw [Nat.add_mul] at h3
       rw [hget, if_pos ⟨by omega, by omega⟩]
       obtain ⟨q', hq1, hq2, hq3⟩ := hzg (q * ei.size + r - off.toNat * ei.size) (by omega)
       have e5 : q * ei.size + r - off.toNat * ei.size = (q - off.toNat) * ei.size + r := by rw [Nat.sub_mul]; omega
       rw [e5, Nat.mul_comm, Nat.mul_add_mod, Nat.mod_eq_of_lt hr] at hq2
       subst hq2
       rw [hq3]
       have hlt : r < z.cells.size := by omega
       exact ⟨z.cells[r], by simp [hlt], hrz.1.2 r u _ hu (by simp [hlt]), hrz.2 r _ (by simp [hlt])⟩
      ·rename_i hq
       have hsh := (k3.shape _ _ hy).2
       have hr : r < ei.size := by rw [← hsh]; exact (List.getElem?_eq_some_iff.1 hu).1
       rw [hget, if_neg]
       ·exact k3.cell _ _ _ _ hy hu
       ·rintro ⟨a1, a2⟩
        refine hq ⟨?_, ?_⟩
        ·apply Nat.le_of_not_lt
         intro h'
         have : (q + 1) * ei.size ≤ off.toNat * ei.size := Nat.mul_le_mul_right _ h'
         rw [Nat.succ_mul] at this; omega
        ·apply Nat.lt_of_not_le
         intro h'
         have : (off.toNat + ln.toNat) * ei.size ≤ q * ei.size := Nat.mul_le_mul_right _ h'
         rw [Nat.add_mul] at this; omega
  ·cases hc
 ·cases hc
  refine fin S w ?_ h
  cases hx' with
  | slNil => simp [Builtin.clear_, run_underlying hu]
  | slE => simp [Builtin.clear_, run_underlying hu]
  | sl => simp [Builtin.clear_, run_underlying hu]
 ·cases hc
theorem leaves_mmk {o : Oper} {t : TypeId} (ho : o.op = .makeMap t none) {d : Nat} (hdst : o.dst = some d) (hd : d < N) (h : Sim g₀ w₀ N g σ S a w) {i l : Nat} (hB : Boxed S i l (.mapv [] []) S') (hf : g.loc i l = none) (ht : g₀.top ≤ i) :
  ∃ a' w', Leaves P o a w a' w' ∧ Sim g₀ w₀ N (g.addBox i l w.heap.size) (upd σ d (.mref i l)) S' a' w' := by
 refine ⟨_, _, .inl ⟨.map (some w.heap.size), by simp [execOp, ho, Instr.makeMap]; rfl, rfl⟩, ?_⟩
 rw [hdst]
 exact h.boxO hd hB hf ht (.map #[] 0) (.mapv [] [] #[] 0 ⟨rfl, rfl, fun i k e hk => by simp at hk, fun i k e hk => by simp at hk⟩) (.mref _ _ _ (by simp [Gh.addBox])) rfl
theorem putV_find {kt : Bool} {kind : TypeDesc} (hk : kt = true ∧ kind = .string ∨ kt = false ∧ ∃ i, kind = .int i) {key val : V} {kv : Value} (hkey : Rep g key kv) : ∀ (ks vs : List V) (es : List MapEntry) (n : Nat) (p : List V × List V),
  ks.length = es.length → vs.length = es.length → (∀ (i : Nat) (k : V) (e : MapEntry), ks[i]? = some k → es[i]? = some e → Rep g k e.key) → putV kt ks vs key val = some p →
  (∃ i e, Instr.findNow kind kv es n = some (some (n + i, e.val)) ∧ es[i]? = some e ∧ Instr.sameNow kind kv e.key = some true ∧ p = (ks, vs.set i val)) ∨ (Instr.findNow kind kv es n = some none ∧ p = (ks ++ [key], vs ++ [val]))
 | [], vs, [], n, p, _, h2, _, h => by
  simp only [putV, Option.some.injEq] at h; subst h
  have : vs = [] := List.eq_nil_of_length_eq_zero (by simpa using h2)
  subst this
  exact .inr ⟨rfl, rfl⟩
 | [], vs, e :: es, n, p, hl, _, _, h => by simp at hl
 | k :: ks, vs, [], n, p, hl, _, _, h => by simp at hl
 | k :: ks, [], e :: es, n, p, _, hl, _, h => by simp at hl
 | k :: ks, v :: vs, e :: es, n, p, h1, h2, h3, h => by
  simp only [putV] at h
  split at h
  ·rename_i hq
   simp only [Option.some.injEq] at h; subst h
   have := sameNow_key hk hkey (h3 0 k e rfl rfl) hq
   exact .inl ⟨0, e, by simp only [Instr.findNow, this, Nat.add_zero], rfl, this, rfl⟩
  ·rename_i hq
   have := sameNow_key hk hkey (h3 0 k e rfl rfl) hq
   split at h <;> cases h
   rename_i p' hp
   rcases putV_find hk hkey ks vs es (n + 1) p' (by simpa using h1) (by simpa using h2) (fun i k e a b => h3 (i + 1) k e (by simpa using a) (by simpa using b)) hp with ⟨i, e', q1, q2, q3, rfl⟩ | ⟨q1, rfl⟩
   ·refine .inl ⟨i + 1, e', ?_, by simpa using q2, q3, rfl⟩
    simp only [Instr.findNow, this]
    rw [q1, show n + 1 + i = n + (i + 1) by omega]
   ·exact .inr ⟨by simp only [Instr.findNow, this]; exact q1, rfl⟩
  ·cases h
theorem sameBits_of_sameNow {kind : TypeDesc} (hk : kind = .string ∨ ∃ i, kind = .int i) {v u : Value} (h : Instr.sameNow kind v u = some true) : Instr.sameBits 10000 u v = true := by
 rcases hk with rfl | ⟨i, rfl⟩
 ·cases v <;> cases u <;> simp only [Instr.sameNow, reduceCtorEq, Option.some.injEq] at h
  have := (MapKept.bytes_beq _ _).1 h
  simp only [Instr.sameBits, this]
  exact (MapKept.bytes_beq _ _).2 rfl
 ·cases v <;> cases u <;> simp only [Instr.sameNow, reduceCtorEq] at h
  split at h
  ·rename_i e
   simp only [Option.some.injEq, beq_iff_eq] at h
   simp [Instr.sameBits, e, h]
  ·cases h
theorem sameNow_eq {kind : TypeDesc} (hk : kind = .string ∨ ∃ i, kind = .int i) {v u : Value} (h : Instr.sameNow kind v u = some true) : u = v := by
 rcases hk with rfl | ⟨i, rfl⟩
 ·cases v <;> cases u <;> simp only [Instr.sameNow, reduceCtorEq, Option.some.injEq] at h
  rw [(MapKept.bytes_beq _ _).1 h]
 ·cases v <;> cases u <;> simp only [Instr.sameNow, reduceCtorEq] at h
  split at h
  ·rename_i e
   simp only [Option.some.injEq, beq_iff_eq] at h
   rw [e, h]
  ·cases h
theorem leaves_mup {o : Oper} {t kTy e : TypeId} {x k y : Operand} {x' k' y' : X} {kt : Bool} {kind : TypeDesc} (ho : o.op = .mapUpdate t x k y ∨ o.op = .insert t x k y) (hu : P.underlying t = some (.map kTy e)) (hku : P.underlying kTy = some kind)
  (hk : kt = true ∧ kind = .string ∨ kt = false ∧ ∃ i, kind = .int i) (hx : compX x = some x') (hkx : compX k = some k') (hy : compX y = some y')
  (hdst : o.dst = none) (h : Sim g₀ w₀ N g σ S a w) {i l : Nat} (hxe : x'.ev σ = .mref i l) {ks vs : List V} (hH : S.H i l = some (.mapv ks vs)) {p : List V × List V} (hp : putV kt ks vs (k'.ev σ) (y'.ev σ) = some p) :
  ∃ a' w', Leaves P o a w a' w' ∧ Sim g₀ w₀ N g σ (S.set i l (.mapv p.1 p.2)) a' w' := by
 have hx' := (compX_rep hx h.rep).1
 have hk' := (compX_rep hkx h.rep).1
 have hy' := compX_rep hy h.rep
 rw [hxe] at hx'
 generalize hex : a.eval x = pv at hx'
 have hrun : ∀ w', (Instr.mapUpdate t (a.eval x) (a.eval k) (a.eval y)).run P w = .ok () w' → (execOp a.eval o).run P w = .ok .skip w' := by
  intro w' hr
  rcases ho with ho | ho <;> simp [execOp, ho, hr]
 cases hx' with
 | mref _ _ b hb =>
  obtain ⟨b', es, t', k1, k2, k3⟩ := h.sim.map hH
  rw [hb] at k1; cases k1
  have hblt : b < w.heap.size := (Array.getElem?_eq_some_iff.1 k2).1
  have hkl : ks.length = es.toList.length := by simpa using k3.kl
  have hvl : vs.length = es.toList.length := by simpa using k3.vl
  have hobj : (getObj b).run P w = .ok (.map es t') w := MapKept.run_getObj_map k2
  have hset : ∀ ob, (setObj b ob).run P w = .ok () { w with heap := w.heap.setIfInBounds b ob } := fun ob => MapKept.run_setObj_map ob k2
  have hkind : kind = .string ∨ ∃ i, kind = .int i := hk.elim (fun h => .inl h.2) (fun h => .inr h.2)
  have fin : ∀ (es' : Array MapEntry) (t'' : Nat), MapIn g p.1 p.2 es' → (Instr.mapUpdate t (a.eval x) (a.eval k) (a.eval y)).run P w = .ok () { w with heap := w.heap.setIfInBounds b (.map es' t'') } →
    ∃ a' w', Leaves P o a w a' w' ∧ Sim g₀ w₀ N g σ (S.set i l (.mapv p.1 p.2)) a' w' := by
   intro es' t'' hm hr
   refine ⟨_, _, .inr ⟨hrun _ hr, rfl⟩, ?_⟩
   rw [hdst]
   exact h.setBox hb (.mapv _ _ es' t'' hm) (fun k hk => by simp only [Array.getElem?_setIfInBounds]; rw [if_neg (fun e => hk e.symm)]) (by simp [Array.getElem?_setIfInBounds, hblt]) (by simp) rfl rfl rfl
  have hck : (Instr.checkKey false 10000 kTy (a.eval k)).run P w = .ok () w := run_checkKey hku hk false _ w
  rcases putV_find (g := g) (val := y'.ev σ) hk hk' ks vs es.toList 0 p hkl hvl (fun i k e a b => k3.key i k e a (by simpa using b)) hp with ⟨i', e', q1, q2, q3, rfl⟩ | ⟨q1, rfl⟩
  ·have q2' : es[i']? = some e' := by simpa using q2
   have hi' : i' < es.size := (Array.getElem?_eq_some_iff.1 q2').1
   have hsb := sameBits_of_sameNow hkind q3
   simp only [Nat.zero_add] at q1
   refine fin (es.modify i' fun e => { e with key := a.eval k, val := a.eval y }) t' ⟨by simpa using k3.kl, by simpa using k3.vl, fun q kk e hq he => ?_, fun q v e hq he => ?_⟩ ?_
   ·rw [Array.getElem?_modify] at he
    split at he
    ·rename_i e1
     subst e1
     rw [q2'] at he
     simp only [Option.map_some, Option.some.injEq] at he
     subst he
     have := k3.key _ kk e' hq q2'
     have e2 : e'.key = a.eval k := sameNow_eq hkind q3
     rw [e2] at this
     exact this
    ·exact k3.key _ kk e hq he
   ·rw [Array.getElem?_modify] at he
    rw [List.getElem?_set] at hq
    split at he
    ·rename_i e1
     subst e1
     rw [if_pos rfl] at hq
     (try (split at hq)) <;> cases hq
     rw [q2'] at he
     simp only [Option.map_some, Option.some.injEq] at he
     subst he
     exact hy'
    ·rename_i e1
     rw [if_neg e1] at hq
     exact k3.val _ _ _ hq he
   ·rw [hex]
    simp [Instr.mapUpdate, run_underlying hu, hobj, hck, Instr.findKey, run_underlying hku, q1, Instr.keyThatStays, q2', hsb, hset]
  ·refine fin (es.push { key := a.eval k, val := a.eval y, born := t' }) (t' + 1) ⟨by simp [k3.kl], by simp [k3.vl], fun q kk e hq he => ?_, fun q v e hq he => ?_⟩ ?_
   ·rw [Array.getElem?_push] at he
    rw [List.getElem?_append] at hq
    split at he
    ·rename_i e1
     subst e1
     cases he
     rw [if_neg (by rw [k3.kl]; omega), k3.kl, Nat.sub_self] at hq
     simp at hq; subst hq; exact hk'
    ·have hlt : q < es.size := (Array.getElem?_eq_some_iff.1 he).1
     rw [if_pos (by rw [k3.kl]; exact hlt)] at hq
     exact k3.key _ _ _ hq he
   ·rw [Array.getElem?_push] at he
    rw [List.getElem?_append] at hq
    split at he
    ·rename_i e1
     subst e1
     cases he
     rw [if_neg (by rw [k3.vl]; omega), k3.vl, Nat.sub_self] at hq
     simp at hq; subst hq; exact hy'
    ·have hlt : q < es.size := (Array.getElem?_eq_some_iff.1 he).1
     rw [if_pos (by rw [k3.vl]; exact hlt)] at hq
     exact k3.val _ _ _ hq he
   ·rw [hex]
    simp [Instr.mapUpdate, run_underlying hu, hobj, hck, Instr.findKey, run_underlying hku, q1, hset]
end
end Go.Pl
