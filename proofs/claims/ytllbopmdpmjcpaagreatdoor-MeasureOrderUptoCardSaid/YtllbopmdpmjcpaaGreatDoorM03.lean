import Derived.Test.YtllbopmdpmjcpaaGreatDoorM02
import Derived.Laws.Strings
import Derived.MapKept
set_option linter.unusedSimpArgs false
set_option linter.unusedVariables false
set_option linter.unusedSectionVars false
namespace Go.Pl
section
variable {P : Program} {g : Gh} {S : St} {w : World} {σ : Nat → V} {a : Act}
theorem val_fa {t : TypeId} {x : Operand} {f : Nat} {fs : Array Field} {fd : Field} {ag : Bool} {fi : TypeInfo} {x' : X} (hu : P.underlying t = some (.struct fs)) (hf : fs[f]? = some fd)
  (h2 : P.info? fd.type = some fi) (h0 : fi.size ≠ 0) (hx : compX x = some x')
  (hr : ∀ t, Rep g (σ t) (a.tmps.getD t undef)) {v : V} (hv : (M.fa fd.offset fi.size ag x').val σ S = some v) :
  ∃ val, (Instr.fieldAt t (a.eval x) f).run P w = .ok val w ∧ Rep g v val ∧ v.isGr = false := by
 have hx' := (compX_rep hx hr).1
 simp only [M.val, S.hO, Ops.std] at hv
 generalize x'.ev σ = y at hx' hv
 generalize a.eval x = pv at hx' ⊢
 have run : ∀ b o, (Instr.fieldAt t (.pointer (some ⟨b, o, none⟩)) f).run P w = .ok (.pointer (some ⟨b, o + fd.offset, none⟩)) w := by
  intro b o
  simp [Instr.fieldAt, run_underlying hu, hf, Instr.sureAddr, fieldPlace, run_sizeOf' h2, h0, add_none]
 cases hx' with
 | ro y b o c hc hone hrc =>
  simp only [V.int?, V.str?, V.bool?] at hv
  split at hv
  ·rename_i r hp
   split at hv <;> cases hv
   have hag : ∀ z ∈ y.cells, z.isAgg = false := fun z hz => by
    obtain ⟨j, hj⟩ := mem_get hz
    exact (hrc j z hj).notAgg (hone j z hj)
   have hpc := part_cells hp hag
   refine ⟨_, run b o, .ro r b (o + fd.offset) (fun j => c (fd.offset + j)) (fun j z hz => ?_) (fun j z hz => hone _ _ (hpc j z hz)) (fun j z hz => hrc _ _ (hpc j z hz)), rfl⟩
   rw [Nat.add_assoc]; exact hc _ _ (hpc j z hz)
  ·cases hv
 | ref i k off b hb =>
  simp only [V.int?, V.str?, V.bool?, Option.some.injEq] at hv
  subst hv
  exact ⟨_, run b off, .ref i k _ b hb, rfl⟩
 | _ => simp [V.int?, V.str?, V.bool?] at hv
theorem val_fld {t : TypeId} {x : Operand} {f : Nat} {fs : Array Field} {fd : Field} {ag : Bool} {fi : TypeInfo} {x' : X} (hu : P.underlying t = some (.struct fs)) (hf : fs[f]? = some fd)
  (h1 : aggOf P fd.type = some ag) (h2 : P.info? fd.type = some fi) (hx : compX x = some x')
  (hr : ∀ t, Rep g (σ t) (a.tmps.getD t undef)) {v : V} (hv : (M.fld fd.offset fi.size ag x').val σ S = some v) :
  ∃ val, (Instr.field t (a.eval x) f).run P w = .ok val w ∧ Rep g v val ∧ v.isGr = false := by
 have hx' := (compX_rep hx hr).1
 simp only [M.val, S.hO, Ops.std] at hv
 generalize x'.ev σ = y at hx' hv
 generalize a.eval x = pv at hx' ⊢
 cases hx' with
 | agg cs vs hl hone hrc =>
  simp only [V.int?, V.str?, V.bool?] at hv
  split at hv
  ·rename_i r hp
   split at hv <;> cases hv
   rename_i hgr
   refine ⟨if ag then .agg (vs.extract fd.offset (fd.offset + fi.size)) else vs.getD fd.offset undef, ?_, ?_, by simpa using hgr⟩
   ·replace hp := (part_spec hp).2
    unfold V.part0 at hp
    cases ag with
    | true => simp [Instr.field, run_underlying hu, hf, asAgg, part, run_isAgg h1, run_sizeOf' h2]
    | false =>
     simp only [Bool.false_eq_true, if_false, V.cells] at hp
     have hlt : fd.offset < vs.size := by rw [← hl]; exact (List.getElem?_eq_some_iff.1 hp).1
     simp [Instr.field, run_underlying hu, hf, asAgg, part, run_isAgg h1, hlt]
   ·replace hp := (part_spec hp).2
    unfold V.part0 at hp
    cases ag with
    | true =>
     simp only [if_true] at hp
     split at hp <;> cases hp
     rename_i hle
     have hle' : fd.offset + fi.size ≤ cs.length := hle
     refine .agg _ _ (by simp only [V.cells, List.length_take, List.length_drop, Array.size_extract]; omega) (fun j u hu => ?_) (fun j z u hz hu => ?_)
     ·simp only [Array.getElem?_extract] at hu
      split at hu
      ·exact hone _ _ hu
      ·cases hu
     ·simp only [Array.getElem?_extract] at hu
      split at hu
      ·simp only [V.cells] at hz
       rw [List.getElem?_take] at hz
       split at hz
       ·rw [List.getElem?_drop] at hz; exact hrc _ _ _ hz hu
       ·cases hz
      ·cases hu
    | false =>
     simp only [Bool.false_eq_true, if_false, V.cells] at hp
     have hlt : fd.offset < vs.size := by rw [← hl]; exact (List.getElem?_eq_some_iff.1 hp).1
     simp only [Bool.false_eq_true, if_false]
     exact hrc _ _ _ hp (by simp [hlt])
  ·cases hv
 | _ => simp [V.int?, V.str?, V.bool?] at hv
theorem val_ia {t e : TypeId} {x i : Operand} {ei : TypeInfo} {x' i' : X} (hu : P.underlying t = some (.slice e)) (h2 : P.info? e = some ei) (hx : compX x = some x') (hi : compX i = some i')
  (hr : ∀ t, Rep g (σ t) (a.tmps.getD t undef)) {v : V} (hv : (M.ia ei.size x' i').val σ S = some v) :
  ∃ val, (Instr.indexAt t (a.eval x) (a.eval i)).run P w = .ok val w ∧ Rep g v val ∧ v.isGr = false := by
 have hx' := (compX_rep hx hr).1
 have hi' := (compX_rep hi hr).1
 simp only [M.val, S.hO, Ops.std] at hv
 generalize x'.ev σ = y at hx' hv
 generalize a.eval x = pv at hx' ⊢
 generalize i'.ev σ = z at hi' hv
 generalize a.eval i = iv at hi' ⊢
 cases hx' with
 | slNil sz => cases hi' <;> simp [V.int?, V.str?, V.bool?] at hv
 | slE sz ad => cases hi' <;> simp [V.int?, V.str?, V.bool?] at hv
 | sl sz xs b o cap c hcap hsz hc hone hrc =>
  cases hi' with
  | int k n =>
   simp only [V.int?, V.str?, V.bool?] at hv
   split at hv
   ·rename_i hcond
    subst hcond
    split at hv <;> cases hv
    rename_i y hy
    split at hy
    case isFalse => cases hy
    rename_i hcond
    obtain ⟨h0, hlt⟩ := hcond
    refine ⟨.pointer (some ⟨b, o + n.toNat * ei.size, none⟩), ?_, .ro y b _ (c n.toNat) (fun j z hz => hc _ _ j z hy hz) (fun j z hz => hone _ _ j z hy hz) (fun j z hz => hrc _ _ j z hy hz), rfl⟩
    simp [Instr.indexAt, asIntOf, run_underlying hu, h0, hlt, run_sizeOf' h2, add_none]
   ·cases hv
  | _ => simp [V.int?, V.str?, V.bool?] at hv
 | bs n k sz off ln b o cap hb h0 h1 ho hcap =>
  cases hi' with
  | int k' p =>
   simp only [V.int?, V.str?, V.bool?] at hv
   split at hv
   case isFalse => cases hv
   rename_i hsz
   subst hsz
   split at hv <;> cases hv
   rename_i jj hy
   split at hy <;> cases hy
   rename_i hcond
   obtain ⟨q0, q1⟩ := hcond
   have hlt : p < (ln.toNat : Int) := by omega
   refine ⟨.pointer (some ⟨b, o + p.toNat * ei.size, none⟩), ?_, ?_, rfl⟩
   ·have hmax : max ln 0 = ln := by omega
    have hnle : ¬ ln ≤ p := by omega
    simp [Instr.indexAt, asIntOf, run_underlying hu, q0, q1, hmax, hnle, run_sizeOf' h2, add_none]
   ·have e1 : o = off.toNat * ei.size := ho (by omega)
    have e2 : (off + p).toNat = off.toNat + p.toNat := by omega
    have := Rep.eref (g := g) n k ei.size (off + p) b hb (by omega)
    rw [e2, Nat.add_mul, ← e1] at this
    exact this
  | _ => simp [V.int?, V.str?, V.bool?] at hv
 | _ => simp [V.int?, V.str?, V.bool?] at hv
theorem val_ix {t : TypeId} {x i : Operand} {x' i' : X} (hu : P.underlying t = some .string) (hx : compX x = some x') (hi : compX i = some i')
  (hr : ∀ t, Rep g (σ t) (a.tmps.getD t undef)) {v : V} (hv : (M.ix x' i').val σ S = some v) :
  ∃ val, (Instr.index t (a.eval x) (a.eval i)).run P w = .ok val w ∧ Rep g v val ∧ v.isGr = false := by
 have hx' := (compX_rep hx hr).1
 have hi' := (compX_rep hi hr).1
 simp only [M.val, S.hO, Ops.std] at hv
 generalize x'.ev σ = y at hx' hv
 generalize a.eval x = pv at hx' ⊢
 generalize i'.ev σ = z at hi' hv
 generalize a.eval i = iv at hi' ⊢
 cases hx' with
 | str s =>
  cases hi' with
  | int k n =>
   simp only [V.int?, V.str?, V.bool?] at hv
   split at hv <;> cases hv
   ·rename_i m hm
    split at hm
    case isFalse => cases hm
    rename_i h0
    simp only [Option.map_eq_some_iff] at hm
    obtain ⟨b, hb, rfl⟩ := hm
    refine ⟨.int .u8 b.toNat, ?_, .int _ _, rfl⟩
    obtain ⟨hlt, hb'⟩ := List.getElem?_eq_some_iff.1 hb
    have hg : (⟨s.toArray⟩ : ByteArray)[n.toNat]? = some b := by
     rw [getElem?_pos (⟨s.toArray⟩ : ByteArray) n.toNat (by simpa [ByteArray.size] using hlt)]
     simp only [ByteArray.getElem_eq_getElem_data, List.getElem_toArray, hb']
    simp [Instr.index, asIntOf, run_underlying hu, h0, hg]
  | _ => simp [V.int?, V.str?, V.bool?] at hv
 | _ => simp [V.int?, V.str?, V.bool?] at hv
theorem val_len {t e : TypeId} {x : Operand} {x' : X} {ts : Array TypeId} {ty : TypeId} (ht : ts[0]? = some t) (hu : P.underlying t = some (.slice e)) (hx : compX x = some x')
  (hr : ∀ t, Rep g (σ t) (a.tmps.getD t undef)) {v : V} (hv : (M.len x').val σ S = some v) :
  ∃ val, (Builtin.len_ ts ty #[a.eval x]).run P w = .ok val w ∧ Rep g v val ∧ v.isGr = false := by
 have hx' := (compX_rep hx hr).1
 simp only [M.val, S.hO, Ops.std] at hv
 generalize x'.ev σ = y at hx' hv
 generalize a.eval x = pv at hx' ⊢
 cases hx' with
 | slNil sz =>
  simp only [List.length_nil, Option.some.injEq] at hv; subst hv
  exact ⟨.int .i64 0, by simp [Builtin.len_, ht, run_underlying hu, goInt], .int _ _, rfl⟩
 | slE sz ad =>
  simp only [List.length_nil, Option.some.injEq] at hv; subst hv
  exact ⟨.int .i64 0, by simp [Builtin.len_, ht, run_underlying hu, goInt], .int _ _, rfl⟩
 | sl sz xs b o cap c hcap hsz hc hone hrc =>
  simp only [V.int?, V.str?, V.bool?, Option.some.injEq] at hv; subst hv
  exact ⟨.int .i64 xs.length, by simp [Builtin.len_, ht, run_underlying hu, goInt], .int _ _, rfl⟩
 | bs n k sz off ln b o cap hb h0 h1 ho hcap =>
  simp only [V.int?, V.str?, V.bool?, Option.some.injEq] at hv; subst hv
  have e : ((ln.toNat : Nat) : Int) = ln := by omega
  refine ⟨.int .i64 ln.toNat, by simp [Builtin.len_, ht, run_underlying hu, goInt], ?_, rfl⟩
  rw [e]; exact .int _ _
 | _ => simp [V.int?, V.str?, V.bool?] at hv
theorem size_mk (s : List UInt8) : (⟨s.toArray⟩ : ByteArray).size = s.length := rfl
theorem val_lns {t : TypeId} {x : Operand} {x' : X} {ts : Array TypeId} {ty : TypeId} (ht : ts[0]? = some t) (hu : P.underlying t = some .string) (hx : compX x = some x')
  (hr : ∀ t, Rep g (σ t) (a.tmps.getD t undef)) {v : V} (hv : (M.lns x').val σ S = some v) :
  ∃ val, (Builtin.len_ ts ty #[a.eval x]).run P w = .ok val w ∧ Rep g v val ∧ v.isGr = false := by
 have hx' := (compX_rep hx hr).1
 simp only [M.val, S.hO, Ops.std] at hv
 generalize x'.ev σ = y at hx' hv
 generalize a.eval x = pv at hx' ⊢
 cases hx' with
 | str s =>
  simp only [V.int?, V.str?, V.bool?, Option.some.injEq] at hv; subst hv
  exact ⟨.int .i64 s.length, by simp [Builtin.len_, ht, run_underlying hu, goInt, size_mk], .int _ _, rfl⟩
 | _ => simp [V.int?, V.str?, V.bool?] at hv
theorem val_mv {x : Operand} {x' : X} (hx : compX x = some x') (hr : ∀ t, Rep g (σ t) (a.tmps.getD t undef)) {v : V} (hv : (M.mv x').val σ S = some v) :
  Rep g v (a.eval x) ∧ v.isGr = false := by
 simp only [M.val, Option.some.injEq] at hv; subst hv
 exact compX_rep hx hr
theorem val_ext {x : Operand} {i : Nat} {x' : X} (hx : compX x = some x') (hr : ∀ t, Rep g (σ t) (a.tmps.getD t undef)) {v : V} (hv : (M.ext x' i).val σ S = some v) :
  ∃ val, (Instr.extract (a.eval x) i).run P w = .ok val w ∧ Rep g v val ∧ v.isGr = false := by
 have hx' := (compX_rep hx hr).1
 simp only [M.val, S.hO, Ops.std] at hv
 generalize x'.ev σ = y at hx' hv
 generalize a.eval x = pv at hx' ⊢
 cases hx' with
 | tup cs vs hl h =>
  simp only [V.int?, V.str?, V.bool?] at hv
  split at hv
  ·rename_i y hy
   split at hv <;> cases hv
   rename_i hg
   have hlt : i < vs.size := by rw [← hl]; exact (List.getElem?_eq_some_iff.1 hy).1
   exact ⟨vs[i], by simp [Instr.extract, hlt], h i v vs[i] hy (by simp [hlt]), by simpa using hg⟩
  ·cases hv
 | _ => simp [V.int?, V.str?, V.bool?] at hv
theorem val_fun {f : Nat} {caps : Array Operand} {xs : List X} (hx : compXs caps.toList = some xs) (hr : ∀ t, Rep g (σ t) (a.tmps.getD t undef)) {v : V} (hv : (M.fun_ f xs).val σ S = some v) :
  Rep g v (.func (.func f) #[] (caps.map a.eval)) ∧ v.isGr = false := by
 simp only [M.val, Option.some.injEq] at hv; subst hv
 have h := compXs_reps hx hr
 refine ⟨.fn f _ _ (by simpa using h.1) (fun j y u hy hu => (h.2 j y u hy ?_).1), rfl⟩
 rw [← Array.getElem?_toList] at hu
 simpa using hu
theorem val_pick {c x y : Operand} {c' x' y' : X} (hc : compX c = some c') (hx : compX x = some x') (hy : compX y = some y') (hr : ∀ t, Rep g (σ t) (a.tmps.getD t undef)) {v : V}
  (hv : (M.pick c' x' y').val σ S = some v) : ∃ val, ((do pure (.value (if ← asBool (a.eval c) then a.eval x else a.eval y)) : Sem Next)).run P w = .ok (.value val) w ∧ Rep g v val ∧ v.isGr = false := by
 have hc' := (compX_rep hc hr).1
 have hx' := compX_rep hx hr
 have hy' := compX_rep hy hr
 simp only [M.val, S.hO, Ops.std] at hv
 generalize c'.ev σ = z at hc' hv
 generalize a.eval c = pv at hc' ⊢
 cases hc' with
 | bool b =>
  simp only [V.int?, V.str?, V.bool?, Option.some.injEq] at hv; subst hv
  cases b
  ·exact ⟨a.eval y, by simp [asBool], by simpa using hy'⟩
  ·exact ⟨a.eval x, by simp [asBool], by simpa using hx'⟩
 | _ => simp [V.int?, V.str?, V.bool?] at hv
theorem val_cvi {src dst : TypeId} {k k' : IntKind} {x : Operand} {x' : X} (h1 : P.underlying src = some (.int k')) (h2 : P.underlying dst = some (.int k)) (hx : compX x = some x')
  (hr : ∀ t, Rep g (σ t) (a.tmps.getD t undef)) {v : V} (hv : (M.cvi k x').val σ S = some v) :
  ∃ val, (convert src dst (a.eval x)).run P w = .ok val w ∧ Rep g v val ∧ v.isGr = false := by
 have hx' := (compX_rep hx hr).1
 simp only [M.val, S.hO, Ops.std] at hv
 generalize x'.ev σ = y at hx' hv
 generalize a.eval x = pv at hx' ⊢
 cases hx' with
 | int k'' n =>
  simp only [V.int?, V.str?, V.bool?, Option.some.injEq] at hv; subst hv
  exact ⟨.int k (k.wrap n), by simp [convert, run_underlying h1, run_underlying h2, Conv.intToInt], .int _ _, rfl⟩
 | _ => simp [V.int?, V.str?, V.bool?] at hv
theorem val_cvs {src dst : TypeId} {x : Operand} {x' : X} (h1 : P.underlying src = some .string) (h2 : P.underlying dst = some .string) (hx : compX x = some x')
  (hr : ∀ t, Rep g (σ t) (a.tmps.getD t undef)) {v : V} (hv : (M.cvs x').val σ S = some v) :
  ∃ val, (convert src dst (a.eval x)).run P w = .ok val w ∧ Rep g v val ∧ v.isGr = false := by
 have hx' := (compX_rep hx hr).1
 simp only [M.val, S.hO, Ops.std] at hv
 generalize x'.ev σ = y at hx' hv
 generalize a.eval x = pv at hx' ⊢
 cases hx' with
 | str s =>
  simp only [V.int?, V.str?, V.bool?, Option.some.injEq] at hv; subst hv
  exact ⟨_, by simp only [convert, run_underlying h1, run_underlying h2, Sem.run_bind, Result.andThen_ok]; rfl, .str _, rfl⟩
 | _ => simp [V.int?, V.str?, V.bool?] at hv
theorem mnx_run {mx : Bool} : ∀ {l : List Operand} {xs : List X}, compXs l = some xs → (∀ t, Rep g (σ t) (a.tmps.getD t undef)) → ∀ {m v : V} {val : Value}, Rep g m val → mnxV Ops.std mx σ m xs = some v →
  ∃ r, ((l.map a.eval).foldlM (if mx then Builtin.max2 else Builtin.min2) val).run P w = .ok r w ∧ Rep g v r ∧ v.isGr = false
 | [], xs, hx, hr, m, v, val, hm, hv => by
  simp only [compXs, Option.some.injEq] at hx
  subst hx
  cases hm <;> simp only [V.int?, mnxV, reduceCtorEq, Option.some.injEq] at hv
  subst hv
  exact ⟨_, rfl, .int _ _, rfl⟩
 | o :: l, xs, hx, hr, m, v, val, hm, hv => by
  simp only [compXs] at hx
  split at hx <;> cases hx
  rename_i x xs' h1 h2
  have hx' := (compX_rep h1 hr).1
  cases hm with
  | int k n =>
   simp only [V.int?, mnxV] at hv
   generalize x.ev σ = y at hx' hv
   generalize hev : a.eval o = pv at hx'
   cases hx' with
   | int k' n' =>
    simp only [V.int?, V.str?, V.bool?] at hv
    obtain ⟨r, e1, e2⟩ := mnx_run (mx := mx) h2 hr (.int k _) hv
    refine ⟨r, ?_, e2⟩
    rw [List.map_cons, List.foldlM_cons, hev]
    cases mx
    ·have : (if n' < n then n' else n) = bif Ops.std.ilt n' n then n' else n := by simp [Ops.std, Bool.cond_decide]
     simpa [Builtin.min2, this] using e1
    ·have : (if n' > n then n' else n) = bif Ops.std.ilt n n' then n' else n := by simp [Ops.std, Bool.cond_decide]
     simpa [Builtin.max2, this] using e1
   | _ => simp [V.int?, V.str?, V.bool?] at hv
  | _ => simp [mnxV, V.int?] at hv
theorem val_mnx {mx : Bool} {args : Array Operand} {x' : X} {l' : List X} {ts : Array TypeId} {ty : TypeId} (hx : compXs args.toList = some (x' :: l')) (hr : ∀ t, Rep g (σ t) (a.tmps.getD t undef)) {v : V}
  (hv : (M.mnx mx x' l').val σ S = some v) : ∃ val, ((if mx then Builtin.max_ else Builtin.min_) ts ty (args.map a.eval)).run P w = .ok val w ∧ Rep g v val ∧ v.isGr = false := by
 simp only [M.val, S.hO] at hv
 cases hl : args.toList with
 | nil => rw [hl] at hx; simp [compXs] at hx
 | cons o l =>
  rw [hl] at hx
  simp only [compXs] at hx
  split at hx <;> cases hx
  rename_i h1 h2
  obtain ⟨r, e1, e2⟩ := mnx_run (P := P) (w := w) h2 hr (compX_rep h1 hr).1 hv
  refine ⟨r, ?_, e2⟩
  have e : (args.map a.eval).toList = a.eval o :: l.map a.eval := by simp [hl]
  cases mx
  ·simp only [Bool.false_eq_true, if_false, Builtin.min_, e]; exact e1
  ·simp only [if_true, Builtin.max_, e]; exact e1
theorem val_mki {t : TypeId} {d : TypeDesc} {x : Operand} {x' : X} (hu : P.underlying t = some d) (hd : ∀ ms, d ≠ .interface ms) (hx : compX x = some x') (hr : ∀ t, Rep g (σ t) (a.tmps.getD t undef)) {v : V}
  (hv : (M.mki t x').val σ S = some v) : ∃ val, (Instr.makeInterface t (a.eval x)).run P w = .ok val w ∧ Rep g v val ∧ v.isGr = false := by
 simp only [M.val, S.hO, Ops.std] at hv
 split at hv <;> cases hv
 refine ⟨.iface t (a.eval x), ?_, .iface t _ _ (compX_rep hx hr).1, rfl⟩
 cases d <;> first | exact absurd rfl (hd _) | simp [Instr.makeInterface, run_underlying hu]
theorem val_un {op : UnOp} {x : Operand} {x' : X} (hx : compX x = some x') (hr : ∀ t, Rep g (σ t) (a.tmps.getD t undef)) {v : V} (hv : (M.un op x').val σ S = some v) :
  ∃ val, (Op.unary op (a.eval x)).run P w = .ok val w ∧ Rep g v val ∧ v.isGr = false := by
 have hx' := (compX_rep hx hr).1
 simp only [M.val, S.hO, Ops.std] at hv
 generalize x'.ev σ = y at hx' hv
 generalize a.eval x = pv at hx' ⊢
 cases hx' <;> cases op <;> simp only [V.int?, V.str?, V.bool?, Option.some.injEq, reduceCtorEq] at hv <;> subst hv
 ·exact ⟨_, rfl, .bool _, rfl⟩
 ·exact ⟨_, rfl, .int _ _, rfl⟩
theorem val_nck {x : Operand} {x' : X} {o : Oper} (ho : o.op = .nilCheck x) (hx : compX x = some x') (hr : ∀ t, Rep g (σ t) (a.tmps.getD t undef)) {v : V} (hv : (M.nck x').val σ S = some v) :
  ∃ val, (execOp a.eval o).run P w = .ok (.value val) w ∧ Rep g v val ∧ v.isGr = false := by
 have hx' := (compX_rep hx hr).1
 simp only [M.val, S.hO, Ops.std] at hv
 unfold execOp
 simp only [ho]
 generalize x'.ev σ = y at hx' hv
 generalize a.eval x = pv at hx' ⊢
 cases hx' with
 | ro y b o c h1 h2 h3 => simp only [V.int?, V.str?, V.bool?, Option.some.injEq] at hv; subst hv; exact ⟨_, rfl, .ro y b o c h1 h2 h3, rfl⟩
 | ref i k off b h => simp only [V.int?, V.str?, V.bool?, Option.some.injEq] at hv; subst hv; exact ⟨_, rfl, .ref i k off b h, rfl⟩
 | fn f cs vs hl h => simp only [V.int?, V.str?, V.bool?, Option.some.injEq] at hv; subst hv; exact ⟨_, rfl, .fn f cs vs hl h, rfl⟩
 | _ => simp [V.int?, V.str?, V.bool?] at hv
theorem run_equal_bool {t : TypeId} (hu : P.underlying t = some .bool) (b c : Bool) (w : World) : (Op.equal t (.bool b) (.bool c)).run P w = .ok (b == c) w := by
 have : ∀ d, (Op.equalIn (d + 1) t (.bool b) (.bool c)).run P w = .ok (b == c) w := fun d => by simp [Op.equalIn, run_underlying hu]
 exact this 9999
theorem run_equal_nil {t e : TypeId} (hu : P.underlying t = some (.slice e)) (ad : Option Addr) (n k : Nat) (w : World) :
  (Op.equal t (.slice ad n k) (.slice none 0 0)).run P w = .ok ad.isNone w := by
 have : ∀ d, (Op.equalIn (d + 1) t (.slice ad n k) (.slice none 0 0)).run P w = .ok ad.isNone w := fun d => by
  cases ad <;> simp [Op.equalIn, run_underlying hu]
 exact this 9999
theorem val_eqb {op : BinOp} {neg : Bool} {t : TypeId} {x y : Operand} {x' y' : X} (hu : P.underlying t = some .bool) (hop : op = if neg then .neq else .eql) (hx : compX x = some x') (hy : compX y = some y')
  (hr : ∀ t, Rep g (σ t) (a.tmps.getD t undef)) {v : V} (hv : (M.eqb neg x' y').val σ S = some v) :
  ∃ val, ((do eqGuard op t x y (a.eval x) (a.eval y); binOp op t (a.eval x) (a.eval y)) : Sem Value).run P w = .ok val w ∧ Rep g v val ∧ v.isGr = false := by
 have hx' := (compX_rep hx hr).1
 have hy' := (compX_rep hy hr).1
 simp only [M.val, S.hO, Ops.std] at hv
 generalize x'.ev σ = p at hx' hv
 generalize a.eval x = pv at hx' ⊢
 generalize y'.ev σ = q at hy' hv
 generalize a.eval y = qv at hy' ⊢
 cases hx' with
 | bool b =>
  cases hy' with
  | bool c =>
   simp only [V.int?, V.str?, V.bool?, Option.some.injEq] at hv; subst hv; subst hop
   cases neg
   ·exact ⟨.bool (b == c), by simp [eqGuard, binOp, run_equal_bool hu], by cases b <;> cases c <;> exact .bool _, rfl⟩
   ·exact ⟨.bool (!(b == c)), by simp [eqGuard, binOp, run_equal_bool hu], by cases b <;> cases c <;> exact .bool _, rfl⟩
  | _ => simp [V.int?, V.str?, V.bool?] at hv
 | _ => simp [V.int?, V.str?, V.bool?] at hv
theorem val_isnil {op : BinOp} {neg : Bool} {t e : TypeId} {x : Operand} {x' : X} (hu : P.underlying t = some (.slice e)) (hop : op = if neg then .neq else .eql) (hx : compX x = some x')
  (hr : ∀ t, Rep g (σ t) (a.tmps.getD t undef)) {v : V} (hv : (M.isnil neg x').val σ S = some v) (y : Operand) :
  ∃ val, ((do eqGuard op t x y (a.eval x) (.slice none 0 0); binOp op t (a.eval x) (.slice none 0 0)) : Sem Value).run P w = .ok val w ∧ Rep g v val ∧ v.isGr = false := by
 have hx' := (compX_rep hx hr).1
 simp only [M.val, S.hO, Ops.std] at hv
 generalize x'.ev σ = p at hx' hv
 generalize a.eval x = pv at hx' ⊢
 cases hx' with
 | slNil sz =>
  simp only [V.int?, V.str?, V.bool?, Option.some.injEq] at hv; subst hv; subst hop
  cases neg
  ·exact ⟨.bool true, by simp [eqGuard, binOp, run_equal_nil hu], .bool _, rfl⟩
  ·exact ⟨.bool false, by simp [eqGuard, binOp, run_equal_nil hu], .bool _, rfl⟩
 | slE sz ad =>
  simp only [V.int?, V.str?, V.bool?, Option.some.injEq] at hv; subst hv; subst hop
  cases neg
  ·exact ⟨.bool false, by simp [eqGuard, binOp, run_equal_nil hu], .bool _, rfl⟩
  ·exact ⟨.bool true, by simp [eqGuard, binOp, run_equal_nil hu], .bool _, rfl⟩
 | sl sz xs b o cap c h1 h2 h3 h4 h5 =>
  simp only [V.int?, V.str?, V.bool?, Option.some.injEq] at hv; subst hv; subst hop
  cases neg
  ·exact ⟨.bool false, by simp [eqGuard, binOp, run_equal_nil hu], .bool _, rfl⟩
  ·exact ⟨.bool true, by simp [eqGuard, binOp, run_equal_nil hu], .bool _, rfl⟩
 | bs n k sz off ln b o cap hb h0 h1 ho hcap =>
  simp only [V.int?, V.str?, V.bool?, Option.some.injEq] at hv; subst hv; subst hop
  cases neg
  ·exact ⟨.bool false, by simp [eqGuard, binOp, run_equal_nil hu], .bool _, rfl⟩
  ·exact ⟨.bool true, by simp [eqGuard, binOp, run_equal_nil hu], .bool _, rfl⟩
 | _ => simp [V.int?, V.str?, V.bool?] at hv
theorem beq_list (l m : List UInt8) : (l == m) = decide (l = m) := by
 by_cases h : l = m
 ·subst h; simp
 ·simp [h]
theorem sameNow_key {kt : Bool} {kind : TypeDesc} (hk : kt = true ∧ kind = .string ∨ kt = false ∧ ∃ i, kind = .int i) {x y : V} {v u : Value} (hx : Rep g x v) (hy : Rep g y u) {r : Bool} (h : keyEq kt x y = some r) : Instr.sameNow kind v u = some r := by
 rcases hk with ⟨rfl, rfl⟩ | ⟨rfl, i, rfl⟩
 ·cases hx <;> cases hy <;> simp only [keyEq, reduceCtorEq, Option.some.injEq] at h
  subst h
  simp only [Instr.sameNow, Option.some.injEq]
  rename_i a b
  by_cases e : a = b
  ·subst e; simp only [decide_true]; exact (MapKept.bytes_beq _ _).2 rfl
  ·simp only [e, decide_false]
   rw [← Bool.not_eq_true]
   intro h
   apply e
   have := congrArg (fun s : ByteArray => s.data.toList) ((MapKept.bytes_beq _ _).1 h)
   simpa using this
 ·cases hx <;> cases hy <;> simp only [keyEq, reduceCtorEq] at h
  split at h <;> cases h
  rename_i e
  subst e
  rename_i m n
  by_cases e : m = n
  ·simp [Instr.sameNow, e]
  ·simp [Instr.sameNow, e]
theorem findNow_find {kt : Bool} {kind : TypeDesc} (hk : kt = true ∧ kind = .string ∨ kt = false ∧ ∃ i, kind = .int i) {key : V} {kv : Value} (hkey : Rep g key kv) : ∀ (ks vs : List V) (es : List MapEntry) (n : Nat) (r : Option V),
  ks.length = es.length → vs.length = es.length → (∀ (i : Nat) (k : V) (e : MapEntry), ks[i]? = some k → es[i]? = some e → Rep g k e.key) → (∀ (i : Nat) (v : V) (e : MapEntry), vs[i]? = some v → es[i]? = some e → Rep g v e.val) →
  findV kt ks vs key = some r →
  match r with
  | some v => ∃ i e, Instr.findNow kind kv es n = some (some (n + i, e.val)) ∧ es[i]? = some e ∧ vs[i]? = some v ∧ Rep g v e.val
  | none => Instr.findNow kind kv es n = some none
 | [], vs, [], n, r, _, _, _, _, h => by
  simp only [findV, Option.some.injEq] at h; subst h; rfl
 | [], vs, e :: es, n, r, hl, _, _, _, h => by simp at hl
 | k :: ks, vs, [], n, r, hl, _, _, _, h => by simp at hl
 | k :: ks, [], e :: es, n, r, _, hl, _, _, h => by simp at hl
 | k :: ks, v :: vs, e :: es, n, r, h1, h2, h3, h4, h => by
  simp only [findV] at h
  split at h
  ·rename_i hq
   simp only [Option.some.injEq] at h; subst h
   have := sameNow_key hk hkey (h3 0 k e rfl rfl) hq
   exact ⟨0, e, by simp only [Instr.findNow, this, Nat.add_zero], rfl, rfl, h4 0 v e rfl rfl⟩
  ·rename_i hq
   have := sameNow_key hk hkey (h3 0 k e rfl rfl) hq
   have ih := findNow_find hk hkey ks vs es (n + 1) r (by simpa using h1) (by simpa using h2) (fun i k e a b => h3 (i + 1) k e (by simpa using a) (by simpa using b))
    (fun i v e a b => h4 (i + 1) v e (by simpa using a) (by simpa using b)) h
   cases r with
   | none => simp only [Instr.findNow, this]; exact ih
   | some w =>
    obtain ⟨i, e', q1, q2, q3, q4⟩ := ih
    refine ⟨i + 1, e', ?_, by simpa using q2, by simpa using q3, q4⟩
    simp only [Instr.findNow, this]
    rw [q1, show n + 1 + i = n + (i + 1) by omega]
  ·cases h
theorem run_checkKey {kt : Bool} {t : TypeId} {kind : TypeDesc} (hu : P.underlying t = some kind) (hk : kt = true ∧ kind = .string ∨ kt = false ∧ ∃ i, kind = .int i) (em : Bool) (v : Value) (w : World) : (Instr.checkKey em 10000 t v).run P w = .ok () w := by
 have : ∀ n, (Instr.checkKey em (n + 1) t v).run P w = .ok () w := fun n => by
  rcases hk with ⟨_, rfl⟩ | ⟨_, i, rfl⟩ <;> simp [Instr.checkKey, run_underlying hu]
 exact this 9999
theorem val_mlk {t kTy e : TypeId} {ei : TypeInfo} {z : Value} {z' : V} {kind : TypeDesc} {kt ok : Bool} {x k : Operand} {x' k' : X} (hu : P.underlying t = some (.map kTy e)) (hku : P.underlying kTy = some kind)
  (hk : kt = true ∧ kind = .string ∨ kt = false ∧ ∃ i, kind = .int i) (he : P.info? e = some ei) (hz : ei.zero = some z) (hz' : absV z = some z') (hx : compX x = some x') (hkx : compX k = some k') (hs : SimW g S w)
  (hr : ∀ t, Rep g (σ t) (a.tmps.getD t undef)) {v : V} (hv : (M.mlk kt ok z' x' k').val σ S = some v) :
  ∃ val, (Instr.lookup t (a.eval x) (a.eval k) ok).run P w = .ok val w ∧ Rep g v val ∧ v.isGr = false := by
 have hx' := (compX_rep hx hr).1
 have hk' := (compX_rep hkx hr).1
 simp only [M.val] at hv
 generalize x'.ev σ = y at hx' hv
 generalize a.eval x = pv at hx' ⊢
 generalize k'.ev σ = q at hk' hv
 generalize a.eval k = kv at hk' ⊢
 have hzero : (zeroValue e).run P w = .ok z w := by simp [zeroValue, typeInfo, he, hz]
 have zrep := absV_rep hz' g
 have zok : ∀ v', v' = (bif ok then V.tup [z', .bool false] else z') → Rep g v' (if ok then .tuple #[z, .bool false] else z) ∧ v'.isGr = false := by
  rintro _ rfl
  cases ok
  ·exact ⟨zrep.1, zrep.2.1⟩
  ·refine ⟨.tup _ _ rfl fun j y v hy hv => ?_, rfl⟩
   match j with
   | 0 => simp at hy hv; subst hy; subst hv; exact zrep.1
   | 1 => simp at hy hv; subst hy; subst hv; exact .bool _
   | j + 2 => simp at hy
 cases hx' with
 | mref i j b hb =>
  simp only at hv
  split at hv
  ·rename_i ks vs hH
   obtain ⟨b', es, t', k1, k2, k3⟩ := hs.map hH
   rw [hb] at k1; cases k1
   rw [S.hO] at hv
   simp only [Ops.std] at hv
   have hkl : ks.length = es.toList.length := by simpa using k3.kl
   have hvl : vs.length = es.toList.length := by simpa using k3.vl
   have hobj : (getObj b).run P w = .ok (.map es t') w := MapKept.run_getObj_map k2
   have find := fun r hf => findNow_find (g := g) hk hk' ks vs es.toList 0 r hkl hvl (fun i k e a b => k3.key i k e a (by simpa using b)) (fun i v e a b => (k3.val i v e a (by simpa using b)).1) hf
   have base : ∀ r, Instr.findNow kind kv es.toList 0 = some r → (Instr.lookup t (.map (some b)) kv ok).run P w =
     (match r with | some (_, v) => (.ok (if ok then .tuple #[v, .bool true] else v) w : Result Value) | none => .ok (if ok then .tuple #[z, .bool false] else z) w) := by
    intro r hr
    cases r with
    | none => simp [Instr.lookup, run_underlying hu, hobj, run_checkKey hku hk, Instr.findKey, run_underlying hku, hr, hzero]
    | some p => simp [Instr.lookup, run_underlying hu, hobj, run_checkKey hku hk, Instr.findKey, run_underlying hku, hr]
   split at hv
   ·rename_i u hf
    split at hv <;> cases hv
    rename_i hgr
    obtain ⟨i', e', q1, q2, q3, q4⟩ := find _ hf
    refine ⟨_, base _ q1, ?_, ?_⟩
    ·cases ok
     ·exact q4
     ·refine .tup _ _ rfl fun j y v hy hv => ?_
      match j with
      | 0 => simp at hy hv; subst hy; subst hv; exact q4
      | 1 => simp at hy hv; subst hy; subst hv; exact .bool _
      | j + 2 => simp at hy
    ·cases ok
     ·simpa using hgr
     ·rfl
   ·rename_i hf
    simp only [Option.some.injEq] at hv
    exact ⟨_, base _ (find _ hf), zok _ hv.symm⟩
   ·cases hv
  ·cases hv
 | nilmap =>
  simp only at hv
  split at hv <;> cases hv
  refine ⟨_, ?_, zok _ rfl⟩
  simp [Instr.lookup, run_underlying hu, run_checkKey hku hk, Instr.findKey, run_underlying hku, Instr.findNow, hzero]
 | _ => simp at hv
theorem val_mln {t kTy e : TypeId} {x : Operand} {x' : X} {ts : Array TypeId} {ty : TypeId} (ht : ts[0]? = some t) (hu : P.underlying t = some (.map kTy e)) (hx : compX x = some x') (hs : SimW g S w)
  (hr : ∀ t, Rep g (σ t) (a.tmps.getD t undef)) {v : V} (hv : (M.mln x').val σ S = some v) :
  ∃ val, (Builtin.len_ ts ty #[a.eval x]).run P w = .ok val w ∧ Rep g v val ∧ v.isGr = false := by
 have hx' := (compX_rep hx hr).1
 simp only [M.val] at hv
 generalize x'.ev σ = y at hx' hv
 generalize a.eval x = pv at hx' ⊢
 cases hx' with
 | mref i j b hb =>
  simp only at hv
  split at hv <;> cases hv
  rename_i ks vs hH
  obtain ⟨b', es, t', k1, k2, k3⟩ := hs.map hH
  rw [hb] at k1; cases k1
  rw [S.hO]
  simp only [Ops.std, k3.kl]
  exact ⟨.int .i64 es.size, by simp [Builtin.len_, ht, run_underlying hu, goInt, MapKept.run_getObj_map k2], .int _ _, rfl⟩
 | nilmap =>
  simp only [Option.some.injEq] at hv; subst hv
  exact ⟨.int .i64 0, by simp [Builtin.len_, ht, run_underlying hu, goInt], .int _ _, rfl⟩
 | _ => simp at hv
theorem val_tas {xt t : TypeId} {d : TypeDesc} {ti : TypeInfo} {z : Value} {z' : V} {ok : Bool} {x : Operand} {x' : X} (hu : P.underlying t = some d) (hd : ∀ ms, d ≠ .interface ms) (he : P.info? t = some ti) (hz : ti.zero = some z) (hz' : absV z = some z')
  (hx : compX x = some x') (hr : ∀ t, Rep g (σ t) (a.tmps.getD t undef)) {v : V} (hv : (M.tas t ok z' x').val σ S = some v) :
  ∃ val, (Instr.typeAssert (a.eval x) xt t ok).run P w = .ok val w ∧ Rep g v val ∧ v.isGr = false := by
 have hx' := (compX_rep hx hr).1
 simp only [M.val] at hv
 generalize x'.ev σ = y at hx' hv
 generalize a.eval x = pv at hx' ⊢
 have hzero : (zeroValue t).run P w = .ok z w := by simp [zeroValue, typeInfo, he, hz]
 have zrep := absV_rep hz' g
 have ztup : Rep g (.tup [z', .bool false]) (.tuple #[z, .bool false]) := .tup _ _ rfl fun j y v hy hv => by
  match j with
  | 0 => simp at hy hv; subst hy; subst hv; exact zrep.1
  | 1 => simp at hy hv; subst hy; subst hv; exact .bool _
  | j + 2 => simp at hy
 cases hx' with
 | iface t' y u hy =>
  simp only at hv
  cases hb : Nat.beq t' t with
  | true =>
   have e : t' = t := Nat.eq_of_beq_eq_true hb
   subst e
   rw [hb] at hv
   simp only [cond_true] at hv
   split at hv <;> cases hv
   rename_i hgr
   refine ⟨if ok then .tuple #[u, .bool true] else u, ?_, ?_, ?_⟩
   ·cases d <;> first | exact absurd rfl (hd _) | (cases ok <;> simp [Instr.typeAssert, run_underlying hu])
   ·cases ok
    ·exact hy
    ·refine .tup _ _ rfl fun j y v hy' hv => ?_
     match j with
     | 0 => simp at hy' hv; subst hy'; subst hv; exact hy
     | 1 => simp at hy' hv; subst hy'; subst hv; exact .bool _
     | j + 2 => simp at hy'
   ·cases ok
    ·simpa using hgr
    ·rfl
  | false =>
   have e : t' ≠ t := fun e => by rw [e, Nat.beq_refl] at hb; cases hb
   rw [hb] at hv
   cases ok <;> simp only [cond_true, cond_false, reduceCtorEq, Option.some.injEq] at hv
   subst hv
   refine ⟨.tuple #[z, .bool false], ?_, ztup, rfl⟩
   cases d <;> first | exact absurd rfl (hd _) | simp [Instr.typeAssert, run_underlying hu, e, hzero]
 | niliface =>
  cases ok <;> simp only [cond_true, cond_false, reduceCtorEq, Option.some.injEq] at hv
  subst hv
  refine ⟨.tuple #[z, .bool false], ?_, ztup, rfl⟩
  cases d <;> first | exact absurd rfl (hd _) | simp [Instr.typeAssert, run_underlying hu, hzero]
 | _ => simp at hv
theorem run_equal_nilIface {t : TypeId} {ms : Array (String × TypeId)} (hu : P.underlying t = some (.interface ms)) (v : Value) (b : Bool) (hv : (v = .nilIface ∧ b = true) ∨ ((∃ t u, v = .iface t u) ∧ b = false)) (w : World) : (Op.equal t v .nilIface).run P w = .ok b w := by
 have : ∀ d, (Op.equalIn (d + 1) t v .nilIface).run P w = .ok b w := fun d => by
  rcases hv with ⟨rfl, rfl⟩ | ⟨⟨t', u, rfl⟩, rfl⟩ <;> simp [Op.equalIn, run_underlying hu]
 exact this 9999
theorem val_inil {op : BinOp} {neg : Bool} {t : TypeId} {ms : Array (String × TypeId)} {x : Operand} {x' : X} (hu : P.underlying t = some (.interface ms)) (hop : op = if neg then .neq else .eql) (hx : compX x = some x')
  (hr : ∀ t, Rep g (σ t) (a.tmps.getD t undef)) {v : V} (hv : (M.inil neg x').val σ S = some v) :
  ∃ val, ((do eqGuard op t x (.const .nilIface) (a.eval x) .nilIface; binOp op t (a.eval x) .nilIface) : Sem Value).run P w = .ok val w ∧ Rep g v val ∧ v.isGr = false := by
 have hx' := (compX_rep hx hr).1
 simp only [M.val] at hv
 generalize x'.ev σ = p at hx' hv
 generalize a.eval x = pv at hx' ⊢
 cases hx' with
 | iface t' y' u hy =>
  simp only [Option.some.injEq] at hv; subst hv; subst hop
  have he := run_equal_nilIface (P := P) hu (.iface t' u) false (.inr ⟨⟨_, _, rfl⟩, rfl⟩)
  cases neg
  ·exact ⟨.bool false, by simp [eqGuard, binOp, he], .bool _, rfl⟩
  ·exact ⟨.bool true, by simp [eqGuard, binOp, he], .bool _, rfl⟩
 | niliface =>
  simp only [Option.some.injEq] at hv; subst hv; subst hop
  have he := run_equal_nilIface (P := P) hu .nilIface true (.inl ⟨rfl, rfl⟩)
  cases neg
  ·exact ⟨.bool true, by simp [eqGuard, binOp, he], .bool _, rfl⟩
  ·exact ⟨.bool false, by simp [eqGuard, binOp, he], .bool _, rfl⟩
 | _ => simp at hv
theorem binOp_int_any (op : BinOp) (t : TypeId) (k k' : IntKind) (m n : Int) : binOp op t (.int k m) (.int k' n) = binOp op 0 (.int k m) (.int k' n) := by
 cases op <;> simp [binOp]
theorem val_bin {op : BinOp} {t : TypeId} {x y : Operand} {x' y' : X} (hx : compX x = some x') (hy : compX y = some y')
  (hr : ∀ t, Rep g (σ t) (a.tmps.getD t undef)) {v : V} (hv : (M.bin op x' y').val σ S = some v) :
  ∃ val, ((do eqGuard op t x y (a.eval x) (a.eval y); binOp op t (a.eval x) (a.eval y)) : Sem Value).run P w = .ok val w ∧ Rep g v val ∧ v.isGr = false := by
 have hx' := (compX_rep hx hr).1
 have hy' := (compX_rep hy hr).1
 simp only [M.val, S.hO] at hv
 generalize x'.ev σ = p at hx' hv
 generalize a.eval x = pv at hx' ⊢
 generalize y'.ev σ = q at hy' hv
 generalize a.eval y = qv at hy' ⊢
 cases hx' with
 | int k m =>
  cases hy' with
  | int k' n =>
   have hg : (eqGuard op t x y (.int k m) (.int k' n)).run P w = .ok () w := by
    unfold eqGuard; split <;> rfl
   rw [Sem.run_bind, hg, Result.andThen_ok, binOp_int_any]
   have cmp : ∀ b : Bool, binOp op 0 (.int k m) (.int k' n) = pure (.bool b) → v = .bool b → ∃ val, (binOp op 0 (.int k m) (.int k' n)).run P w = .ok val w ∧ Rep g v val ∧ v.isGr = false := by
    rintro b e rfl
    exact ⟨.bool b, by rw [e]; rfl, .bool _, rfl⟩
   have rest : Ops.std.iop op k m k' n = some v → ∃ val, (binOp op 0 (.int k m) (.int k' n)).run P w = .ok val w ∧ Rep g v val ∧ v.isGr = false := by
    intro hv
    simp only [Ops.std] at hv
    split at hv
    ·rename_i u hu
     rw [hu]
     have := absS_rep hv g
     exact ⟨u, rfl, this.1, this.2.1⟩
    ·cases hv
   simp only [binV, binI, V.int?] at hv
   split at hv
   case isFalse => cases hv
   rename_i hk
   subst hk
   have hne : (m != n) = (bif decide (m = n) then false else true) := by by_cases h : m = n <;> simp [h]
   have hee : (m == n) = decide (m = n) := by by_cases h : m = n <;> simp [h]
   cases op <;> simp only [Option.some.injEq] at hv <;> first
    | exact rest hv
    | exact cmp _ (by simp only [binOp, ne_eq, not_true_eq_false, if_false, Op.intCmp, Ops.std, hne, hee, gt_iff_lt, ge_iff_le]) hv.symm
  | _ => simp [binV, V.int?, V.str?] at hv
 | str s =>
  cases hy' with
  | str u =>
   have hg : (eqGuard op t x y (.string ⟨s.toArray⟩) (.string ⟨u.toArray⟩)).run P w = .ok () w := by
    unfold eqGuard; split <;> rfl
   rw [Sem.run_bind, hg, Result.andThen_ok]
   simp only [binV, binI, binS, V.int?, V.str?] at hv
   cases op <;> simp only [reduceCtorEq, Option.some.injEq] at hv
   case add =>
    split at hv <;> cases hv
    rename_i hc
    simp only [Ops.std] at hc
    split at hc <;> cases hc
    rename_i hle
    refine ⟨.string (⟨s.toArray⟩ ++ ⟨u.toArray⟩), ?_, ?_, rfl⟩
    ·have : ¬ (((⟨s.toArray⟩ : ByteArray).size + (⟨u.toArray⟩ : ByteArray).size : Nat) : Int) > 9223372036854775807 := by
      simp only [size_mk]; omega
     simp only [binOp, Op.stringOp, IntKind.max_i64]
     rw [if_neg this]; rfl
    ·have : (⟨s.toArray⟩ ++ ⟨u.toArray⟩ : ByteArray) = ⟨(s ++ u).toArray⟩ := by
      apply ByteArray.ext; simp
     rw [this]; exact .str _
   all_goals
    subst hv
    refine ⟨_, by simp only [binOp, Op.stringOp, ByteArray.toList_mk, beq_list]; rfl, ?_, rfl⟩
    have e1 : Ops.std.seq s u = decide (s = u) := rfl
    have e2 : Ops.std.slt s u = Op.bytesLess s u := rfl
    try rw [e1]
    try rw [e2]
    try rw [ne_eq, decide_not]
    try generalize decide (s = u) = b1
    try generalize Op.bytesLess s u = b2
    first
     | exact .bool _
     | (cases b1 <;> exact .bool _)
     | (cases b2 <;> exact .bool _)
     | (cases b1 <;> cases b2 <;> exact .bool _)
  | _ => simp [binV, V.int?, V.str?] at hv
 | _ => simp [binV, V.int?, V.str?] at hv
end
end Go.Pl
