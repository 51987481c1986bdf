import Derived.Test.YtllbopmdpmjcpaaGreatDoorM03
set_option linter.unusedSimpArgs false
set_option linter.unusedVariables false
set_option linter.unusedSectionVars false
namespace Go.Pl
theorem setAll_get : ∀ (r l : List V) (i k : Nat), (setAll l i r)[k]? = if i ≤ k ∧ k < i + r.length ∧ k < l.length then r[k - i]? else l[k]?
 | [], l, i, k => by
  have h : ¬ (i ≤ k ∧ k < i + ([] : List V).length ∧ k < l.length) := by simp only [List.length_nil]; omega
  rw [if_neg h]; rfl
 | c :: r, l, i, k => by
  simp only [setAll]
  rw [setAll_get r (l.set i c) (i + 1) k]
  simp only [List.length_set, List.length_cons, List.getElem?_set]
  by_cases h1 : k = i
  ·subst h1
   rw [if_neg (by omega), if_pos rfl]
   by_cases h2 : k < l.length
   ·rw [if_pos h2, if_pos ⟨Nat.le_refl _, by omega, h2⟩]; simp
   ·rw [if_neg h2, if_neg (by omega)]; simp; omega
  ·rw [if_neg (show ¬ i = k by omega)]
   by_cases h2 : i + 1 ≤ k ∧ k < i + 1 + r.length ∧ k < l.length
   ·rw [if_pos h2, if_pos ⟨by omega, by omega, h2.2.2⟩]
    rw [show k - i = (k - (i + 1)) + 1 by omega]; simp
   ·rw [if_neg h2, if_neg (by omega)]
theorem setAll_length : ∀ (r l : List V) (i : Nat), (setAll l i r).length = l.length
 | [], _, _ => rfl
 | c :: r, l, i => by simp only [setAll]; rw [setAll_length]; simp
theorem foldSet : ∀ (vs : List Value) (arr : Array Value) (off j0 : Nat),
  ((vs.zipIdx j0).foldl (fun cs (x : Value × Nat) => cs.setIfInBounds (off + x.2) x.1) arr).size = arr.size ∧
  ∀ k, ((vs.zipIdx j0).foldl (fun cs (x : Value × Nat) => cs.setIfInBounds (off + x.2) x.1) arr)[k]? =
   if off + j0 ≤ k ∧ k < off + j0 + vs.length ∧ k < arr.size then vs[k - off - j0]? else arr[k]?
 | [], arr, off, j0 => by
  refine ⟨rfl, fun k => ?_⟩
  have h : ¬ (off + j0 ≤ k ∧ k < off + j0 + ([] : List Value).length ∧ k < arr.size) := by simp only [List.length_nil]; omega
  rw [if_neg h]; rfl
 | c :: r, arr, off, j0 => by
  have ih := foldSet r (arr.setIfInBounds (off + j0) c) off (j0 + 1)
  simp only [List.zipIdx_cons, List.foldl_cons]
  refine ⟨by rw [ih.1]; simp, fun k => ?_⟩
  rw [ih.2 k]
  simp only [Array.size_setIfInBounds, List.length_cons, Array.getElem?_setIfInBounds]
  by_cases h1 : k = off + j0
  ·subst h1
   rw [if_neg (by omega), if_pos rfl]
   by_cases h2 : off + j0 < arr.size
   ·rw [if_pos h2, if_pos ⟨Nat.le_refl _, by omega, h2⟩]
    rw [show off + j0 - off - j0 = 0 by omega]; simp
   ·rw [if_neg h2, if_neg (by omega)]; simp; omega
  ·rw [if_neg (show ¬ off + j0 = k by omega)]
   by_cases h2 : off + (j0 + 1) ≤ k ∧ k < off + (j0 + 1) + r.length ∧ k < arr.size
   ·rw [if_pos h2, if_pos ⟨by omega, by omega, h2.2.2⟩]
    rw [show k - off - j0 = (k - off - (j0 + 1)) + 1 by omega]; simp
   ·rw [if_neg h2, if_neg (by omega)]
section
variable {P : Program} {g : Gh} {S : St} {w : World} {σ : Nat → V} {a : Act}
theorem Cells.setAll {l r : List V} {arr vs : Array Value} (h : Cells g l arr) (k : Cells g r vs) (off : Nat) :
  Cells g (setAll l off r) (vs.zipIdx.foldl (fun cs (x : Value × Nat) => cs.setIfInBounds (off + x.2) x.1) arr) := by
 have hf := foldSet vs.toList arr off 0
 have e : vs.zipIdx.foldl (fun cs (x : Value × Nat) => cs.setIfInBounds (off + x.2) x.1) arr =
   (vs.toList.zipIdx 0).foldl (fun cs (x : Value × Nat) => cs.setIfInBounds (off + x.2) x.1) arr := by
  rw [← Array.foldl_toList, Array.toList_zipIdx]
 rw [e]
 simp only [Array.length_toList, Nat.add_zero, Nat.sub_zero, Array.getElem?_toList] at hf
 have hlen : l.length = arr.size := h.1.1
 have hlen2 : r.length = vs.size := k.1.1
 refine ⟨⟨by rw [setAll_length, hf.1, hlen], fun j y v hy hv => ?_⟩, fun j v hv => ?_⟩
 ·rw [setAll_get] at hy
  rw [hf.2 j] at hv
  rw [hlen, hlen2] at hy
  split at hy
  ·rename_i hc; rw [if_pos hc] at hv; exact k.1.2 _ _ _ hy hv
  ·rename_i hc; rw [if_neg hc] at hv; exact h.1.2 _ _ _ hy hv
 ·rw [hf.2 j] at hv
  split at hv
  ·exact k.2 _ _ hv
  ·exact h.2 _ _ hv
theorem fill_cells {place : Nat → Option (Nat × Nat)} : ∀ (ps : List (Nat × Value)) (qs : List (Nat × Nat × V)) (l l' : List V) (arr : Array Value), Cells g l arr →
  ps.length = qs.length → (∀ (j : Nat) p q, ps[j]? = some p → qs[j]? = some q → place p.1 = some (q.1, q.2.1) ∧ Rep g q.2.2 p.2) → fillV l qs = some l' →
  ∃ arr', Instr.fill place arr ps = some arr' ∧ Cells g l' arr'
 | [], [], l, l', arr, hc, _, _, hf => by cases hf; exact ⟨arr, rfl, hc⟩
 | [], _ :: _, _, _, _, _, hl, _, _ => by simp at hl
 | _ :: _, [], _, _, _, _, hl, _, _ => by simp at hl
 | (i, v) :: ps, (off, size, x) :: qs, l, l', arr, hc, hl, hp, hf => by
  simp only [fillV] at hf
  split at hf
  ·rename_i hcond
   obtain ⟨h1, h2, h3⟩ := hcond
   obtain ⟨p1, p2⟩ := hp 0 (i, v) (off, size, x) rfl rfl
   have hcl := p2.cells h3
   have hsz : v.cells.size = size := by rw [← h1]; exact hcl.1.1.symm
   have hln : l.length = arr.size := hc.1.1
   simp only at p1
   have ih := fill_cells ps qs _ l' _ (hc.setAll hcl off) (by simpa using hl) (fun j p q hp' hq' => hp (j + 1) p q (by simpa using hp') (by simpa using hq')) hf
   obtain ⟨arr', e1, e2⟩ := ih
   refine ⟨arr', ?_, e2⟩
   simp only [Instr.fill, p1]
   have hneg : ¬ ((decide (v.cells.size ≠ size) || decide (off + v.cells.size > arr.size)) = true) := by
    simp only [hsz, ne_eq, not_true_eq_false, decide_false, Bool.false_or, decide_eq_true_eq]; omega
   rw [if_neg hneg]
   exact e1
  ·cases hf
theorem mapM_info (fs : List Field) (h : fs.all (fun f => (P.info? f.type).isSome) = true) :
  fs.mapM (fun f => (P.info? f.type).map fun i => (f.offset, i.size)) = some (fs.map fun f => (f.offset, ((P.info? f.type).map (·.size)).getD 0)) := by
 induction fs with
 | nil => rfl
 | cons f fs ih =>
  simp only [List.all_cons, Bool.and_eq_true] at h
  obtain ⟨i, hi⟩ := Option.isSome_iff_exists.1 h.1
  simp [List.mapM_cons, hi, ih h.2]
theorem compParts_get {fs : Array Field} : ∀ (ps : List (Nat × Operand)) (qs : List (Nat × Nat × X)), compParts fs P ps = some qs →
  ps.length = qs.length ∧ ∀ (j : Nat) p q, ps[j]? = some p → qs[j]? = some q → ∃ f fi, fs[p.1]? = some f ∧ P.info? f.type = some fi ∧ q.1 = f.offset ∧ q.2.1 = fi.size ∧ compX p.2 = some q.2.2
 | [], qs, h => by simp [compParts] at h; subst h; simp
 | (i, o) :: r, qs, h => by
  simp only [compParts] at h
  split at h
  ·rename_i f x l h1 h2 h3
   split at h
   ·rename_i fi h4
    cases h
    have ih := compParts_get r l h3
    refine ⟨by simp [ih.1], fun j p q hp hq => ?_⟩
    cases j with
    | zero => simp at hp hq; subst hp; subst hq; exact ⟨f, fi, h1, h4, rfl, rfl, h2⟩
    | succ j => exact ih.2 j p q (by simpa using hp) (by simpa using hq)
   ·cases h
  ·cases h
theorem val_mk {t : TypeId} {parts : Array (Nat × Operand)} {fs : Array Field} {ti : TypeInfo} {z : Array Value} {z' : List V} {ps : List (Nat × Nat × X)}
  (hu : P.underlying t = some (.struct fs)) (hi : P.info? t = some ti) (hz : ti.zero = some (.agg z)) (hz' : absL z.toList = some z') (hps : compParts fs P parts.toList = some ps)
  (hall : fs.toList.all (fun f => (P.info? f.type).isSome) = true) (hr : ∀ t, Rep g (σ t) (a.tmps.getD t undef)) {v : V} (hv : (M.mk z' ps).val σ S = some v) :
  ∃ val, (Instr.build t (parts.map fun (i, x) => (i, a.eval x))).run P w = .ok val w ∧ Rep g v val ∧ v.isGr = false := by
 simp only [M.val, S.hO, Ops.std] at hv
 split at hv <;> cases hv
 rename_i l hl
 have hcp := compParts_get _ _ hps
 have hzc : Cells g z' z := by
  have := absL_rep hz' g
  refine ⟨⟨by simpa using this.1, fun j y v hy hv => (this.2 j y v hy (by simpa using hv)).1⟩, fun j v hv => ?_⟩
  have hlt : j < z'.length := by rw [this.1]; simpa using (Array.getElem?_eq_some_iff.1 hv).1
  exact (this.2 j z'[j] v (by simp [hlt]) (by simpa using hv)).2
 obtain ⟨arr', e1, e2⟩ := fill_cells (place := fun i => (fs.toList.map fun f => (f.offset, ((P.info? f.type).map (·.size)).getD 0)).toArray[i]?)
  (parts.map fun (i, x) => (i, a.eval x)).toList _ _ _ _ hzc (by simpa using hcp.1) (fun j p q hp hq => by
   simp only [Array.toList_map, List.getElem?_map, Option.map_eq_some_iff] at hp hq
   obtain ⟨⟨i, o⟩, hp1, rfl⟩ := hp
   obtain ⟨⟨off, size, x⟩, hq1, rfl⟩ := hq
   obtain ⟨f, fi, k1, k2, k3, k4, k5⟩ := hcp.2 j _ _ hp1 hq1
   simp only at k1 k3 k4 k5
   refine ⟨?_, (compX_rep k5 hr).1⟩
   simp [k1, k2, k3, k4]) hl
 refine ⟨.agg arr', run_build w t _ arr' ?_, .agg _ _ e2.1.1 e2.2 e2.1.2, rfl⟩
 simp only [Program.built, hi, hu, hz, mapM_info _ hall, Value.cells]
 exact e1
theorem compO_bound {lo : Option Operand} {lo' : Option X} (h : compO lo = some lo') (hr : ∀ t, Rep g (σ t) (a.tmps.getD t undef)) {d n : Nat} (hv : optInt σ (d : Int) lo' = some (n : Int)) :
  (lo = none ∧ n = d) ∨ ∃ o k, lo = some o ∧ a.eval o = .int k n := by
 cases lo with
 | none => simp only [compO, Option.some.injEq] at h; subst h; simp only [optInt, Option.some.injEq] at hv; exact .inl ⟨rfl, by omega⟩
 | some o =>
  simp only [compO] at h
  split at h <;> cases h
  rename_i x hx
  have hrep := (compX_rep hx hr).1
  simp only [optInt] at hv
  generalize x.ev σ = y at hrep hv
  generalize he : a.eval o = ov at hrep
  cases hrep with
  | int k m =>
   simp only [V.int?, V.str?, V.bool?, Option.some.injEq] at hv; subst hv
   exact .inr ⟨o, k, rfl, by rw [he]⟩
  | _ => simp [V.int?, V.str?, V.bool?] at hv
theorem run_bounds {isS : Bool} {len cap : Nat} {lo hi : Option Operand} {lo' hi' : Option X} (h1 : compO lo = some lo') (h2 : compO hi = some hi') (hr : ∀ t, Rep g (σ t) (a.tmps.getD t undef))
  {l h : Nat} (hl : optInt σ 0 lo' = some (l : Int)) (hh : optInt σ (len : Int) hi' = some (h : Int)) (c1 : l ≤ h) (c2 : h ≤ len) (c3 : len ≤ cap) (w : World) :
  (Instr.sliceBounds isS len cap (lo.map a.eval) (hi.map a.eval) none).run P w = .ok (l, h, cap) w := by
 have b1 := compO_bound h1 hr hl
 have b2 := compO_bound h2 hr hh
 have k2 : h ≤ cap := by omega
 rcases b1 with ⟨rfl, e1⟩ | ⟨o1, x1, rfl, e1⟩ <;> rcases b2 with ⟨rfl, e2⟩ | ⟨o2, x2, rfl, e2⟩
 ·simp [Instr.sliceBounds, e1, e2]
 ·simp [Instr.sliceBounds, e1, e2, Instr.sliceBound, asIntOf, k2]
 ·subst e2
  simp [Instr.sliceBounds, e1, Instr.sliceBound, asIntOf, c1]
 ·simp [Instr.sliceBounds, e1, e2, Instr.sliceBound, asIntOf, c1, k2]
theorem val_slc {t e : TypeId} {ei : TypeInfo} {x : Operand} {x' : X} {lo hi : Option Operand} {lo' hi' : Option X} (hu : P.underlying t = some (.slice e)) (he : P.info? e = some ei)
  (hx : compX x = some x') (h1 : compO lo = some lo') (h2 : compO hi = some hi') (hr : ∀ t, Rep g (σ t) (a.tmps.getD t undef)) {v : V} (hv : (M.slc ei.size x' lo' hi' none).val σ S = some v) :
  ∃ val, (Instr.sliceAt t (a.eval x) (lo.map a.eval) (hi.map a.eval) none).run P w = .ok val w ∧ Rep g v val ∧ v.isGr = false := by
 have hx' := (compX_rep hx hr).1
 simp only [M.val, S.hO, Ops.std] at hv
 generalize x'.ev σ = y at hx' hv
 generalize a.eval x = pv at hx' ⊢
 have run : ∀ (ad : Option Addr) (len cap l h : Nat), optInt σ 0 lo' = some (l : Int) → optInt σ (len : Int) hi' = some (h : Int) → l ≤ h → h ≤ len → len ≤ cap →
   (Instr.sliceAt t (.slice ad len cap) (lo.map a.eval) (hi.map a.eval) none).run P w = .ok (.slice (if cap = l then ad else ad.map (·.add (l * ei.size))) (h - l) (cap - l)) w := by
  intro ad len cap l h hl hh c1 c2 c3
  have := run_bounds (P := P) (isS := true) h1 h2 hr hl hh c1 c2 c3 w
  simp [Instr.sliceAt, run_underlying hu, Instr.slice, this, run_sizeOf' he]
 cases hx' with
 | slNil sz =>
  simp only [or_true, if_true] at hv
  split at hv
  ·rename_i h hh
   split at hv
   ·rename_i l hl
    split at hv <;> cases hv
    rename_i ys hc
    split at hc <;> cases hc
    rename_i hc
    simp only [List.length_nil] at hc hh
    have e1 : h = 0 := by omega
    have e2 : l = 0 := by omega
    subst e1; subst e2
    refine ⟨_, run none 0 0 0 0 hl hh (Nat.le_refl _) (Nat.le_refl _) (Nat.le_refl _), ?_, rfl⟩
    simpa using Rep.slNil sz
   ·cases hv
  ·cases hv
 | slE sz ad =>
  simp only [Bool.false_eq_true, or_false] at hv
  split at hv
  case isFalse => cases hv
  split at hv
  ·rename_i h hh
   split at hv
   ·rename_i l hl
    split at hv <;> cases hv
    rename_i ys hc
    split at hc <;> cases hc
    rename_i hc
    simp only [List.length_nil] at hc hh
    have e1 : h = 0 := by omega
    have e2 : l = 0 := by omega
    subst e1; subst e2
    refine ⟨_, run (some ad) 0 0 0 0 hl hh (Nat.le_refl _) (Nat.le_refl _) (Nat.le_refl _), ?_, rfl⟩
    simpa using Rep.slE sz ad
   ·cases hv
  ·cases hv
 | sl sz xs b o cap c hcap hsz hc hone hrc =>
  simp only [Bool.false_eq_true, or_false] at hv
  split at hv
  case isFalse => cases hv
  rename_i q1
  split at hv
  ·rename_i h hh
   split at hv
   ·rename_i l hl
    split at hv <;> cases hv
    rename_i ys hcond
    split at hcond <;> cases hcond
    rename_i hcond
    obtain ⟨q0, q2, q3⟩ := hcond
    obtain ⟨l, rfl⟩ := Int.eq_ofNat_of_zero_le q0
    obtain ⟨h, rfl⟩ := Int.eq_ofNat_of_zero_le (show 0 ≤ h by omega)
    simp only [Int.toNat_natCast]
    have q2 : l ≤ h := by omega
    have q3 : h ≤ xs.length := by omega
    refine ⟨_, run (some ⟨b, o, none⟩) xs.length cap l h hl hh q2 q3 hcap, ?_, rfl⟩
    have hlen : ((xs.take h).drop l).length = h - l := by simp; omega
    have get : ∀ i x, ((xs.take h).drop l)[i]? = some x → xs[l + i]? = some x := fun i x hx => by
     rw [List.getElem?_drop, List.getElem?_take] at hx
     split at hx
     ·exact hx
     ·cases hx
    have key : ∀ o', (∀ i x j y, ((xs.take h).drop l)[i]? = some x → x.cells[j]? = some y → o' + i * sz + j = o + (l + i) * sz + j) → Rep g (.sl false sz ((xs.take h).drop l)) (.slice (some ⟨b, o', none⟩) (h - l) (cap - l)) := fun o' ho => by
     rw [← hlen]
     refine .sl sz _ b o' (cap - l) (fun i j => c (l + i) j) (by rw [hlen]; omega) (fun i x hx => hsz _ _ (get i x hx)) (fun i x j y hx hy => ?_) (fun i x j y hx hy => hone _ _ _ _ (get i x hx) hy) (fun i x j y hx hy => hrc _ _ _ _ (get i x hx) hy)
     rw [ho i x j y hx hy]; exact hc _ _ _ _ (get i x hx) hy
    by_cases hcl : cap = l
    ·rw [if_pos hcl]
     refine key o fun i x j y hx hy => ?_
     have : i < ((xs.take h).drop l).length := (List.getElem?_eq_some_iff.1 hx).1
     omega
    ·rw [if_neg hcl]
     simp only [Option.map_some, add_none]
     refine key _ fun i x j y hx hy => ?_
     subst q1; rw [Nat.add_mul]; omega
   ·cases hv
  ·cases hv
 | bs n q sz off ln b o cap hb h0 h1' ho hcap =>
  simp only at hv
  split at hv
  case isFalse => cases hv
  rename_i hsz
  subst hsz
  split at hv
  ·rename_i h hh
   split at hv
   ·rename_i l hl
    split at hv <;> cases hv
    rename_i p hc
    split at hc <;> cases hc
    rename_i hcond
    obtain ⟨q0, q2, q3⟩ := hcond
    obtain ⟨l, rfl⟩ := Int.eq_ofNat_of_zero_le q0
    obtain ⟨h, rfl⟩ := Int.eq_ofNat_of_zero_le (show 0 ≤ h by omega)
    have e0 : ((ln.toNat : Nat) : Int) = ln := by omega
    have q2' : l ≤ h := by omega
    have q3' : h ≤ ln.toNat := by omega
    refine ⟨_, run (some ⟨b, o, none⟩) ln.toNat cap l h hl (by rw [e0]; exact hh) q2' q3' hcap, ?_, rfl⟩
    have e1 : ((h : Int) - (l : Int)).toNat = h - l := by omega
    have e2 : (off + (l : Int)).toNat = off.toNat + l := by omega
    have key : ∀ o', (0 < h - l → o' = (off.toNat + l) * ei.size) → Rep g (.bs n q ei.size (off + (l : Int)) ((h : Int) - (l : Int))) (.slice (some ⟨b, o', none⟩) (h - l) (cap - l)) := fun o' ho' => by
     have := Rep.bs (g := g) n q ei.size (off + (l : Int)) ((h : Int) - (l : Int)) b o' (cap - l) hb (by omega) (by omega) (by rw [e2]; intro hh; exact ho' (by omega)) (by rw [e1]; omega)
     rwa [e1] at this
    by_cases hcl : cap = l
    ·rw [if_pos hcl]
     exact key o fun hh => by omega
    ·rw [if_neg hcl]
     simp only [Option.map_some, add_none]
     exact key _ fun hh => by rw [ho (by omega), Nat.add_mul]
   ·cases hv
  ·cases hv
 | _ => simp [V.int?, V.str?, V.bool?] at hv
theorem val_sls {t : TypeId} {x : Operand} {x' : X} {lo hi : Option Operand} {lo' hi' : Option X} (hu : P.underlying t = some .string)
  (hx : compX x = some x') (h1 : compO lo = some lo') (h2 : compO hi = some hi') (hr : ∀ t, Rep g (σ t) (a.tmps.getD t undef)) {v : V} (hv : (M.sls x' lo' hi').val σ S = some v) :
  ∃ val, (Instr.sliceAt t (a.eval x) (lo.map a.eval) (hi.map a.eval) none).run P w = .ok val w ∧ Rep g v val ∧ v.isGr = false := by
 have hx' := (compX_rep hx hr).1
 simp only [M.val, S.hO, Ops.std] at hv
 generalize x'.ev σ = y at hx' hv
 generalize a.eval x = pv at hx' ⊢
 cases hx' with
 | str s =>
  simp only [V.int?, V.str?, V.bool?] at hv
  split at hv
  ·rename_i h hh
   split at hv
   ·rename_i l hl
    split at hv <;> cases hv
    rename_i ys hcond
    split at hcond <;> cases hcond
    rename_i hcond
    obtain ⟨q0, q2, q3⟩ := hcond
    obtain ⟨l, rfl⟩ := Int.eq_ofNat_of_zero_le q0
    obtain ⟨h, rfl⟩ := Int.eq_ofNat_of_zero_le (show 0 ≤ h by omega)
    simp only [Int.toNat_natCast]
    have hb := run_bounds (P := P) (isS := false) (cap := s.length) h1 h2 hr hl hh (by omega) (by omega) (Nat.le_refl _) w
    have he : (⟨s.toArray⟩ : ByteArray).extract l h = ⟨((s.take h).drop l).toArray⟩ := by
     apply ByteArray.ext
     simp [List.drop_take]
    refine ⟨.string ⟨((s.take h).drop l).toArray⟩, ?_, .str _, rfl⟩
    simp [Instr.sliceAt, run_underlying hu, Instr.slice, size_mk, hb, he]
   ·cases hv
  ·cases hv
 | _ => simp [V.int?, V.str?, V.bool?] at hv
theorem zeroOf_spec {t : TypeId} {z' : V} (h : zeroOf P t = some z') : ∃ ti z, P.info? t = some ti ∧ ti.zero = some z ∧ absV z = some z' := by
 unfold zeroOf at h
 split at h
 ·rename_i ti hi
  split at h
  ·rename_i z hz; exact ⟨ti, z, hi, hz, h⟩
  ·cases h
 ·cases h
theorem keyKind_spec {t : TypeId} {kt : Bool} (h : keyKind P t = some kt) : ∃ kind, P.underlying t = some kind ∧ (kt = true ∧ kind = .string ∨ kt = false ∧ ∃ i, kind = .int i) := by
 unfold keyKind at h
 split at h <;> cases h
 ·rename_i hu; exact ⟨_, hu, .inl ⟨rfl, rfl⟩⟩
 ·rename_i i hu; exact ⟨_, hu, .inr ⟨rfl, _, rfl⟩⟩
theorem pure_val {o : Oper} {m : M} (hm : compPure P o.op = some m) (hs : SimW g S w) (hr : ∀ t, Rep g (σ t) (a.tmps.getD t undef)) {v : V} (hv : m.val σ S = some v) :
  ∃ val, (execOp a.eval o).run P w = .ok (.value val) w ∧ Rep g v val ∧ v.isGr = false := by
 have wrap : ∀ (s : Sem Value), (∃ val, s.run P w = .ok val w ∧ Rep g v val ∧ v.isGr = false) →
   ∃ val, ((do pure (.value (← s)) : Sem Next)).run P w = .ok (.value val) w ∧ Rep g v val ∧ v.isGr = false := by
  rintro s ⟨val, h1, h2, h3⟩
  exact ⟨val, by simp [h1], h2, h3⟩
 obtain ⟨dst, op, type, pos, after, guard⟩ := o
 simp only at hm
 unfold compPure at hm
 split at hm
 ·
  rename_i x
  simp only [Option.map_eq_some_iff] at hm
  obtain ⟨x', hx, rfl⟩ := hm
  exact ⟨a.eval x, rfl, val_mv hx hr hv⟩
 ·
  split at hm <;> cases hm
  rename_i h1 h2 h3
  exact val_pick h1 h2 h3 hr hv
 ·
  split at hm
  ·rename_i hu hi
   split at hm
   ·rename_i hz
    split at hm <;> cases hm
    rename_i h1 h2 h3
    exact wrap _ (val_mk hu hi hz h1 h2 h3 hr hv)
   ·cases hm
  ·cases hm
 ·
  split at hm <;> cases hm
  rename_i h1 h2 h3
  exact wrap _ (val_ld h1 h2 h3 hs hr hv)
 ·
  split at hm
  ·rename_i hu hx
   split at hm
   ·rename_i hf
    split at hm
    ·rename_i h1 h2
     split at hm <;> cases hm
     rename_i h0
     exact wrap _ (val_fa hu hf h2 h0 hx hr hv)
    ·cases hm
   ·cases hm
  ·cases hm
 ·
  split at hm
  ·rename_i hu hx
   split at hm
   ·rename_i hf
    split at hm <;> cases hm
    rename_i h1 h2
    exact wrap _ (val_fld hu hf h1 h2 hx hr hv)
   ·cases hm
  ·cases hm
 ·
  split at hm
  ·rename_i hu hx hi
   split at hm <;> cases hm
   rename_i h2
   exact wrap _ (val_ia hu h2 hx hi hr hv)
  ·cases hm
 ·
  split at hm <;> cases hm
  rename_i hu hx hi
  exact wrap _ (val_ix hu hx hi hr hv)
 ·
  split at hm
  ·rename_i hu
   split at hm
   ·rename_i y hn
    simp only [Option.map_eq_some_iff] at hm
    obtain ⟨x', hx, rfl⟩ := hm
    unfold nilConst at hn
    split at hn
    ·exact wrap _ (val_isnil (neg := false) hu rfl hx hr hv _)
    ·cases hn
   ·cases hm
  ·rename_i hu
   split at hm
   ·rename_i y hn
    simp only [Option.map_eq_some_iff] at hm
    obtain ⟨x', hx, rfl⟩ := hm
    unfold nilConst at hn
    split at hn
    ·exact wrap _ (val_isnil (neg := true) hu rfl hx hr hv _)
    ·cases hn
   ·cases hm
  ·rename_i hu
   split at hm
   ·rename_i y hn
    simp only [Option.map_eq_some_iff] at hm
    obtain ⟨x', hx, rfl⟩ := hm
    unfold nilIfaceConst at hn
    split at hn
    ·exact wrap _ (val_inil (neg := false) hu rfl hx hr hv)
    ·cases hn
   ·cases hm
  ·rename_i hu
   split at hm
   ·rename_i y hn
    simp only [Option.map_eq_some_iff] at hm
    obtain ⟨x', hx, rfl⟩ := hm
    unfold nilIfaceConst at hn
    split at hn
    ·exact wrap _ (val_inil (neg := true) hu rfl hx hr hv)
    ·cases hn
   ·cases hm
  ·rename_i hu
   split at hm <;> cases hm
   rename_i hx hy
   exact wrap _ (val_eqb (neg := false) hu rfl hx hy hr hv)
  ·rename_i hu
   split at hm <;> cases hm
   rename_i hx hy
   exact wrap _ (val_eqb (neg := true) hu rfl hx hy hr hv)
  ·split at hm <;> cases hm
   rename_i hx hy
   exact wrap _ (val_bin hx hy hr hv)
  ·split at hm <;> cases hm
   rename_i hx hy
   exact wrap _ (val_bin hx hy hr hv)
  ·cases hm
 ·
  simp only [Option.map_eq_some_iff] at hm
  obtain ⟨x', hx, rfl⟩ := hm
  exact wrap _ (val_un hx hr hv)
 ·
  split at hm
  ·rename_i h1 h2
   simp only [Option.map_eq_some_iff] at hm
   obtain ⟨x', hx, rfl⟩ := hm
   exact wrap _ (val_cvi h1 h2 hx hr hv)
  ·rename_i h1 h2
   simp only [Option.map_eq_some_iff] at hm
   obtain ⟨x', hx, rfl⟩ := hm
   exact wrap _ (val_cvs h1 h2 hx hr hv)
  ·cases hm
 ·
  split at hm
  ·rename_i hu hx h1 h2
   split at hm <;> cases hm
   rename_i he
   exact wrap _ (val_slc hu he hx h1 h2 hr hv)
  ·cases hm
   rename_i hu hx h1 h2
   exact wrap _ (val_sls hu hx h1 h2 hr hv)
  ·cases hm
 ·
  split at hm
  ·rename_i f first caps hf
   simp only [Option.map_eq_some_iff] at hm
   obtain ⟨xs, hx, rfl⟩ := hm
   have hemp : first = #[] := by simpa using hf
   subst hemp
   have := val_fun hx hr hv
   exact ⟨_, rfl, by simpa using this⟩
  ·cases hm
 ·
  simp only [Option.map_eq_some_iff] at hm
  obtain ⟨x', hx, rfl⟩ := hm
  exact wrap _ (val_ext hx hr hv)
 ·
  simp only [Option.map_eq_some_iff] at hm
  obtain ⟨x', hx, rfl⟩ := hm
  exact val_nck rfl hx hr hv
 ·
  rename_i args ts
  split at hm
  ·rename_i x t hargs ht
   have hA : args = #[x] := by apply Array.ext'; simpa using hargs
   subst hA
   split at hm
   ·rename_i hu
    simp only [Option.map_eq_some_iff] at hm
    obtain ⟨x', hx, rfl⟩ := hm
    obtain ⟨val, e1, e2⟩ := val_len (ty := type) ht hu hx hr hv (w := w)
    exact ⟨val, by simp [execOp, resolve, invoke, builtin, e1], e2⟩
   ·rename_i hu
    simp only [Option.map_eq_some_iff] at hm
    obtain ⟨x', hx, rfl⟩ := hm
    obtain ⟨val, e1, e2⟩ := val_lns (ty := type) ht hu hx hr hv (w := w)
    exact ⟨val, by simp [execOp, resolve, invoke, builtin, e1], e2⟩
   ·rename_i hu
    simp only [Option.map_eq_some_iff] at hm
    obtain ⟨x', hx, rfl⟩ := hm
    obtain ⟨val, e1, e2⟩ := val_mln (ty := type) ht hu hx hs hr hv (w := w)
    exact ⟨val, by simp [execOp, resolve, invoke, builtin, e1], e2⟩
   ·cases hm
  ·cases hm
 ·
  rename_i args ts
  split at hm <;> cases hm
  rename_i h1
  obtain ⟨val, e1, e2⟩ := val_mnx (mx := false) (ts := ts) (ty := type) h1 hr hv (P := P) (w := w)
  simp only [Bool.false_eq_true, if_false] at e1
  exact ⟨val, by simp [execOp, resolve, invoke, builtin, e1], e2⟩
 ·
  rename_i args ts
  split at hm <;> cases hm
  rename_i h1
  obtain ⟨val, e1, e2⟩ := val_mnx (mx := true) (ts := ts) (ty := type) h1 hr hv (P := P) (w := w)
  simp only [if_true] at e1
  exact ⟨val, by simp [execOp, resolve, invoke, builtin, e1], e2⟩
 ·
  split at hm
  ·cases hm
  ·rename_i d hu hd
   simp only [Option.map_eq_some_iff] at hm
   obtain ⟨x', hx, rfl⟩ := hm
   exact wrap _ (val_mki hd (fun ms e => hu ms (by rw [e])) hx hr hv)
  ·cases hm
 ·
  split at hm
  ·rename_i hu
   split at hm <;> cases hm
   rename_i hk hz hx hkx
   obtain ⟨ei, z, he, hz1, hz2⟩ := zeroOf_spec hz
   obtain ⟨kind, hku, hkk⟩ := keyKind_spec hk
   exact wrap _ (val_mlk hu hku hkk he hz1 hz2 hx hkx hs hr hv)
  ·cases hm
 ·
  split at hm
  ·cases hm
  ·rename_i d hu hd
   split at hm <;> cases hm
   rename_i hz hx
   obtain ⟨ei, z, he, hz1, hz2⟩ := zeroOf_spec hz
   exact wrap _ (val_tas hd (fun ms e => hu ms (by rw [e])) he hz1 hz2 hx hr hv)
  ·cases hm
 ·cases hm
end
end Go.Pl
