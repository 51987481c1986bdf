/- The operations of the machine's code as operations on abstract values, and that they yield what is said. -/
import Derived.Test.YtllbopmdpmjcpaaGreatDoorPlOps
set_option linter.unusedSimpArgs false
set_option linter.unusedVariables false
set_option linter.unusedSectionVars false
namespace Go.Pl

/-- Is a type a struct (or an array)? -/
def aggOf (P : Program) (t : TypeId) : Option Bool :=
  match P.underlying t with
  | some (.struct _) | some (.array _ _) => some true
  | some _ => some false
  | none => none

def compParts (fs : Array Field) (P : Program) : List (Nat × Operand) → Option (List (Nat × Nat × X))
  | [] => some []
  | (i, o) :: r => match fs[i]?, compX o, compParts fs P r with
    | some f, some x, some l => match P.info? f.type with
      | some fi => some ((f.offset, fi.size, x) :: l)
      | none => none
    | _, _, _ => none

/-- Has this function a body of ours? -/
def isGo (P : Program) (f : Nat) : Bool :=
  match P.funcs[f]? with
  | some fn => fn.name != "runtime.NumGoroutine" && fn.body.isSome
  | none => false

def compO : Option Operand → Option (Option X)
  | none => some none
  | some o => match compX o with
    | some x => some (some x)
    | none => none

def nilConst : Operand → Bool
  | .const (.slice none 0 0) => true
  | _ => false

def boolConst (P : Program) (t : TypeId) : Bool := match P.underlying t with
  | some .bool => true
  | _ => false

/-- The operations that only compute. -/
def compPure (P : Program) : Op → Option M
  | .move x => (compX x).map .mv
  | .pick c a b => match compX c, compX a, compX b with
    | some c, some a, some b => some (.pick c a b)
    | _, _, _ => none
  | .build t parts => match P.underlying t, P.info? t with
    | some (.struct fs), some ti => match ti.zero with
      | some (.agg z) => match absL z.toList, compParts fs P parts.toList, fs.toList.all (fun f => (P.info? f.type).isSome) with
        | some z, some ps, true => some (.mk z ps)
        | _, _, _ => none
      | _ => none
    | _, _ => none
  | .load t x => match aggOf P t, P.info? t, compX x with
    | some ag, some ti, some x => some (.ld ti.size ag x)
    | _, _, _ => none
  | .fieldAddr t x f => match P.underlying t, compX x with
    | some (.struct fs), some x => match fs[f]? with
      | some fd => match aggOf P fd.type, P.info? fd.type with
        | some ag, some fi => if fi.size = 0 then none else some (.fa fd.offset fi.size ag x)
        | _, _ => none
      | none => none
    | _, _ => none
  | .field t x f => match P.underlying t, compX x with
    | some (.struct fs), some x => match fs[f]? with
      | some fd => match aggOf P fd.type, P.info? fd.type with
        | some ag, some fi => some (.fld fd.offset fi.size ag x)
        | _, _ => none
      | none => none
    | _, _ => none
  | .indexAddr t x i => match P.underlying t, compX x, compX i with
    | some (.slice e), some x, some i => match P.info? e with
      | some ei => some (.ia ei.size x i)
      | none => none
    | _, _, _ => none
  | .index t x i => match P.underlying t, compX x, compX i with
    | some .string, some x, some i => some (.ix x i)
    | _, _, _ => none
  | .binOp op t x y _ => match P.underlying t, op with
    | some (.slice _), .eql => if nilConst y then (compX x).map (.isnil false) else none
    | some (.slice _), .neq => if nilConst y then (compX x).map (.isnil true) else none
    | some .bool, .eql => match compX x, compX y with
      | some x, some y => some (.eqb false x y)
      | _, _ => none
    | some .bool, .neq => match compX x, compX y with
      | some x, some y => some (.eqb true x y)
      | _, _ => none
    | some (.int _), _ | some .string, _ => match compX x, compX y with
      | some x, some y => some (.bin op x y)
      | _, _ => none
    | _, _ => none
  | .unOp op _ x => (compX x).map (.un op)
  | .convert src dst x => match P.underlying src, P.underlying dst with
    | some (.int _), some (.int k) => (compX x).map (.cvi k)
    | some .string, some .string => (compX x).map .cvs
    | _, _ => none
  | .slice t x lo hi none => match P.underlying t, compX x, compO lo, compO hi with
    | some (.slice e), some x, some lo, some hi => match P.info? e with
      | some ei => some (.slc ei.size x lo hi none)
      | none => none
    | some .string, some x, some lo, some hi => some (.sls x lo hi)
    | _, _, _, _ => none
  | .makeFunc (.func f) first caps => if first.isEmpty then (compXs caps.toList).map (.fun_ f) else none
  | .extract x i => (compX x).map (.ext · i)
  | .nilCheck x => (compX x).map .nck
  | .call { callee := .builtin .len, args := args, argTypes := ts } => match args.toList, ts[0]? with
    | [x], some t => match P.underlying t with
      | some (.slice _) => (compX x).map .len
      | some .string => (compX x).map .lns
      | _ => none
    | _, _ => none
  | .call { callee := .builtin .min, args := args, argTypes := _ } => match compXs args.toList with
    | some (x :: l) => some (.mnx false x l)
    | _ => none
  | .call { callee := .builtin .max, args := args, argTypes := _ } => match compXs args.toList with
    | some (x :: l) => some (.mnx true x l)
    | _ => none
  | .makeInterface t x => match P.underlying t with
    | some (.interface _) => none
    | some _ => (compX x).map (.mki t)
    | none => none
  | _ => none

section
variable {P : Program} {g : Gh} {S : St} {w : World} {σ : Nat → V} {a : Act}

/-- A part of a value that is written nowhere else. -/
theorem part_cells {x r : V} {off sz : Nat} {ag : Bool} (h : x.part off sz ag = some r) (hag : ∀ c ∈ x.cells, c.isAgg = false) :
    ∀ (j : Nat) (y : V), r.cells[j]? = some y → x.cells[off + j]? = some y := by
  unfold V.part at h
  intro j y hy
  split at h
  · split at h <;> cases h
    simp only [V.cells] at hy
    rw [List.getElem?_take] at hy
    split at hy
    · rw [List.getElem?_drop] at hy; exact hy
    · cases hy
  · have hm := hag r (List.mem_of_getElem? h)
    have hc : r.cells = [r] := by cases r <;> first | rfl | (simp [V.isAgg] at hm)
    rw [hc] at hy
    cases j with
    | zero => simp at hy; subst hy; simpa using h
    | succ j => simp at hy

theorem Rep.notAgg {y : V} {v : Value} (h : Rep g y v) (h1 : v.oneCell' = true) : y.isAgg = false := by
  cases h <;> first | rfl | (simp [Value.oneCell'] at h1)

theorem cells_one {y : V} (h : y.isAgg = false) : y.cells = [y] := by cases y <;> first | rfl | (simp [V.isAgg] at h)

theorem run_isAgg {t : TypeId} {ag : Bool} (h : aggOf P t = some ag) (w : World) : (isAgg t).run P w = .ok ag w := by
  unfold aggOf at h
  split at h <;> cases h
  · rename_i h; simp [isAgg, run_underlying h]
  · rename_i h; simp [isAgg, run_underlying h]
  · rename_i d h1 h2 h3
    cases d <;> simp [isAgg, run_underlying h3] <;> simp_all

theorem run_sizeOf' {t : TypeId} {i : TypeInfo} (h : P.info? t = some i) (w : World) : (sizeOf t).run P w = .ok i.size w := by
  simp [sizeOf, typeInfo, h]

theorem add_none (b o n : Nat) : (⟨b, o, none⟩ : Addr).add n = ⟨b, o + n, none⟩ := by
  unfold Addr.add; split <;> simp_all

/-- A load through an address whose cells are known. -/
theorem run_load_cells {t : TypeId} {ag : Bool} {ti : TypeInfo} (h1 : aggOf P t = some ag) (h2 : P.info? t = some ti) (b o : Nat) (y : V) (c : Nat → Value)
    (hn : y.isAgg = true → y.cells.length = ti.size) (hag : ag = y.isAgg) (hc : ∀ (j : Nat) (z : V), y.cells[j]? = some z → w.cell? ⟨b, o + j, none⟩ = some (c j))
    (hone : ∀ (j : Nat) (z : V), y.cells[j]? = some z → (c j).oneCell' = true) (hr : ∀ (j : Nat) (z : V), y.cells[j]? = some z → Rep g z (c j)) :
    ∃ val, (Instr.loadAt t (.pointer (some ⟨b, o, none⟩))).run P w = .ok val w ∧ Rep g y val := by
  have get : ∀ j, j < y.cells.length → ∃ z, y.cells[j]? = some z := fun j hj => ⟨y.cells[j], by simp [hj]⟩
  cases y with
  | agg cs =>
    simp only [V.isAgg] at hag; subst hag
    have hn := hn rfl
    have hl := run_loadCells (P := P) w ⟨b, o, none⟩ ti.size c (fun j hj => by
      obtain ⟨z, hz⟩ := get j (by omega)
      rw [add_none]; exact hc j z hz)
    refine ⟨.agg ((List.range ti.size).map c).toArray, ?_, .agg cs _ (by simpa [V.cells] using hn) (fun j v hv => ?_) (fun j z v hz hv => ?_)⟩
    · simp [Instr.loadAt, Instr.sureAddr, loadVar, run_isAgg h1, run_sizeOf' h2, hl]
    · simp only [List.getElem?_toArray, List.getElem?_map, Option.map_eq_some_iff] at hv
      obtain ⟨k, hk, rfl⟩ := hv
      obtain ⟨hlt, rfl⟩ := List.getElem?_eq_some_iff.1 hk
      simp only [List.length_range] at hlt
      simp only [List.getElem_range]
      obtain ⟨z, hz⟩ := get j (by omega)
      exact hone j z hz
    · simp only [List.getElem?_toArray, List.getElem?_map, Option.map_eq_some_iff] at hv
      obtain ⟨k, hk, rfl⟩ := hv
      obtain ⟨hlt, rfl⟩ := List.getElem?_eq_some_iff.1 hk
      simp only [List.getElem_range]
      exact hr j z hz
  | _ =>
    simp only [V.isAgg] at hag; subst hag
    have h0 := hc 0 _ rfl
    refine ⟨c 0, ?_, hr 0 _ rfl⟩
    simp only [Nat.add_zero] at h0
    simp [Instr.loadAt, Instr.sureAddr, loadVar, run_isAgg h1, h0]

theorem part_shape {x r : V} {off sz : Nat} {ag : Bool} (h : x.part off sz ag = some r) (hag : ∀ c ∈ x.cells, c.isAgg = false) :
    r.isAgg = ag ∧ (ag = true → r.cells.length = sz) ∧ (ag = false → r.cells.length = 1) := by
  unfold V.part at h
  split at h
  · rename_i h1
    split at h <;> cases h
    rename_i h2
    refine ⟨h1.symm, fun _ => ?_, fun h => by simp [h1] at h⟩
    show ((x.cells.drop off).take sz).length = sz
    rw [List.length_take, List.length_drop]; omega
  · rename_i h1
    have hm := hag r (List.mem_of_getElem? h)
    refine ⟨by rw [hm]; simpa using h1, fun h => absurd h h1, fun _ => by rw [cells_one hm]; rfl⟩


theorem val_ld {t : TypeId} {x : Operand} {ag : Bool} {ti : TypeInfo} {x' : X} (h1 : aggOf P t = some ag) (h2 : P.info? t = some ti) (hx : compX x = some x')
    (hs : SimW g S w) (hr : ∀ t, Rep g (σ t) (a.tmps.getD t undef)) {v : V} (hv : (M.ld ti.size ag x').val σ S = some v) :
    ∃ val, (Instr.loadAt t (a.eval x)).run P w = .ok val w ∧ Rep g v val ∧ v.isGr = false := by
  have hx' := (compX_rep hx hr).1
  simp only [M.val] at hv
  generalize x'.ev σ = y at hx' hv
  generalize a.eval x = pv at hx' ⊢
  cases hx' with
  | ro y b o c hc hone hrc =>
    simp only at hv
    split at hv <;> cases hv
    rename_i hcond
    obtain ⟨val, e1, e2⟩ := run_load_cells (P := P) h1 h2 b o v c (fun _ => hcond.1) hcond.2.1 (fun j z hz => hs.mem _ _ _ (hc j z hz)) hone hrc
    exact ⟨val, e1, e2, hcond.2.2⟩
  | ref i k off b hb =>
    simp only at hv
    split at hv
    · rename_i y hy
      split at hv
      · rename_i r hp
        split at hv <;> cases hv
        rename_i hgr
        obtain ⟨b', cs, e, k1, k2, k3⟩ := hs.box i k y hy
        rw [hb] at k1; cases k1
        have hag : ∀ z ∈ y.cells, z.isAgg = false := fun z hz => by
          obtain ⟨j, hj⟩ := mem_get hz
          have hlt : j < cs.size := by rw [← k3.1.1]; exact (List.getElem?_eq_some_iff.1 hj).1
          exact (k3.1.2 j z cs[j] hj (by simp [hlt])).notAgg (k3.2 j cs[j] (by simp [hlt]))
        have hpc := part_cells hp hag
        have hsh := part_shape hp hag
        have hcell : ∀ j z, v.cells[j]? = some z → cs[off + j]? = some (cs.getD (off + j) undef) := fun j z hz => by
          have := hpc j z hz
          have hlt : off + j < cs.size := by rw [← k3.1.1]; exact (List.getElem?_eq_some_iff.1 this).1
          simp [hlt]
        obtain ⟨val, e1, e2⟩ := run_load_cells (P := P) (w := w) (g := g) h1 h2 b off v (fun j => cs.getD (off + j) undef) (fun h => hsh.2.1 (by rw [← hsh.1]; exact h)) hsh.1.symm
          (fun j z hz => by simp only [World.cell?, k2]; simpa using hcell j z hz)
          (fun j z hz => k3.2 _ _ (hcell j z hz)) (fun j z hz => k3.1.2 _ _ _ (hpc j z hz) (hcell j z hz))
        exact ⟨val, e1, e2, by simpa using hgr⟩
      · cases hv
    · cases hv
  | _ => simp at hv

end
end Go.Pl
