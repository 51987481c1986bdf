/- Proved: for every input that can be read, and is of bulk at most 1048576, plinthlaw16.MeasureCond returns true, leaves its arguments as they read before and everything else in memory as it was (the tied card of the second form). Conditions: the bound on the bulk; the listed tables of Go's library, tied to the program's text over the seat's pruned copy of the project. -/
import Derived.Test.YtllbopmdpmjcpaaGreatDoorZAsm
import Derived.Test.YtllbopmdpmjcpaaGreatDoorPlTop
import Derived.Test.YtllbopmdpmjcpaaGreatDoorCards
import Derived.Test.YtllbopmdpmjcpaaGreatDoorTie
import Derived.WalkKit
import Derived.ProofKit
import Derived.OpenShut
import Derived.Lay
import Derived.Deep.DeepHandedRow
set_option linter.unusedSimpArgs false
set_option linter.unusedVariables false
set_option linter.unusedSectionVars false
namespace Go.Proofs.YtllbopmdpmjcpaaGreatDoor
open Go.ChangeShapes Go.WideShapes Go.ChangeAt Go.RowKit Go.Pl
set_option maxRecDepth 100000

theorem own : ownKnob Tryz.prog.godebug = none := by kernel_rfl
theorem laidOut : laidOutB Tryz.prog = true := by kernel_rfl
theorem readable22 : Tryz.prog.readableRec 22 = true := by kernel_rfl
theorem small22 : 22 < Tryz.prog.types.size := of_decide_eq_true (by kernel_rfl)

theorem types : FormTypes Tryz.prog 3 9 22 24 where
  I := Tryz.underlying3
  S := Tryz.underlying9
  L := Tryz.underlying22
  F := ⟨_, _, _, _, Tryz.underlying24, rfl, rfl, rfl, rfl, rfl, rfl, rfl, rfl⟩
  cI := by kernel_rfl
  cS := by kernel_rfl
  cL := by kernel_rfl
  cF := by kernel_rfl

theorem bulk {H : Type} : Bulk (H := H) Rows.uptoBulk Rows.uptoBulkAll where
  lit _ _ := by simp [Rows.uptoBulk]
  str _ := by simp [Rows.uptoBulk]
  nil := by simp [Rows.uptoBulk]
  slice _ _ := by simp [Rows.uptoBulk]
  agg _ := by simp [Rows.uptoBulk]
  none := by simp [Rows.uptoBulkAll]
  cons _ _ := by simp [Rows.uptoBulkAll]

mutual
theorem small_of : ∀ (f : Fm), fsize f ≤ 1048576 → Go.Pl.Z.small f
  | .mk k n t b l, h => by
    simp only [fsize] at h
    exact ⟨by have := length_le l; omega, smalls_of l (by omega)⟩
theorem smalls_of : ∀ (l : List Fm), fsizes l ≤ 1048576 → Go.Pl.Z.smalls l
  | [], _ => trivial
  | f :: r, h => by
    simp only [fsizes] at h
    exact ⟨small_of f (by omega), smalls_of r (by omega)⟩
theorem length_le : ∀ (l : List Fm), l.length ≤ fsizes l
  | [] => Nat.le_refl _
  | .mk k n t b m :: r => by
    have := length_le r
    simp only [fsizes, fsize, List.length_cons]; omega
end

/-- A list of forms, read. -/
theorem open_list {H : Type} {enc : TypeId × Value → H} {W : World} {base : Nat} {v : Value} {d : DataW H} {ps : List MemPlace} (hv : Value.okWide Tryz.prog W .any base 22 v)
    (h : DataW.Trod enc Tryz.prog W 0 (fun _ => true) true 22 v d ps) :
    ∃ nl l, Rep (gh0 W) (.sl nl 4 (encs l)) v ∧ fsizes l + 1 ≤ Rows.uptoBulk d := by
  obtain ⟨fuel, h⟩ := h
  obtain ⟨u, nl, l, hu, hr, hb⟩ := (trod_forms types bulk fuel).2 _ _ _ h
  refine ⟨nl, l, ?_, hb⟩
  have : v = u := by
    simp only [Value.okWide, Tryz.underlying22, Cell.okWide, Cell.ok] at hv
    cases v <;> simp only [Value.cells, List.cons.injEq, and_true] at hu <;> first
      | exact hu
      | (simp at hv; done)
  rw [this]; exact hr.1

/-- WHAT THE WALK GIVES. -/
theorem contract (H : Type) (enc : TypeId × Value → H) (W : World) (base : Nat) (args : Array Value) (ds gs : List (DataW H)) (before : List MemPlace)
    (hval : ∀ (j : Nat) t v, Tryz.f5.params[j]? = some t → args[j]? = some v → Value.okWide Tryz.prog W .any base t v)
    (hW : DataW.Whole enc Tryz.prog Tryz.f5.params.toList Rows.measureCondSpec.vars false W args.toList ds gs before) (hk : Rows.uptoSmall H (ds ++ gs) = true) :
    Calls Tryz.prog 5 args W fun e W' => ∃ v, e = .returned v ∧ Rows.measureCondSpec.post enc Tryz.prog Tryz.f5 false true false false W args v W' := by
  have hW' := hW
  have hlt : ∀ p ∈ before, p.block < W.heap.size := fun p hp => by simpa using hW.lt p hp
  obtain ⟨p, q, hA0, hV, rfl, hfz, hnd⟩ := hW
  have hA : DataW.TrodAll enc Tryz.prog W 0 (fun _ => true) true Tryz.f5.params.toList args.toList ds p := hA0
  rw [Tryz.params5] at hA hval
  obtain ⟨v0, v1, v2, d0, d1, d2, p0, p1, p2, rfl, rfl, rfl, h0, h1, h2⟩ := trodAll_three hA
  obtain ⟨rfl, rfl⟩ := trodVars_none hV
  obtain ⟨n0, l0, r0, b0⟩ := open_list (hval 0 22 v0 rfl rfl) h0
  obtain ⟨n1, l1, r1, b1⟩ := open_list (hval 1 22 v1 rfl rfl) h1
  obtain ⟨n2, l2, r2, b2⟩ := open_list (hval 2 22 v2 rfl rfl) h2
  have hb : Rows.uptoBulk d0 + (Rows.uptoBulk d1 + (Rows.uptoBulk d2 + 0)) ≤ 1048576 := by
    have := of_decide_eq_true hk
    simpa only [List.append_nil, Rows.uptoBulkAll] using this
  have s1 := smalls_of l1 (by omega)
  have s2 := smalls_of l2 (by omega)
  have m1 := length_le l1
  have m2 := length_le l2
  have hr : Reps (gh0 W) [.sl n0 4 (encs l0), .sl n1 4 (encs l1), .sl n2 4 (encs l2)] #[v0, v1, v2] := by
    refine ⟨rfl, fun j y v hy hv => ?_⟩
    match j with
    | 0 => simp at hy hv; subst hy; subst hv; exact r0
    | 1 => simp at hy hv; subst hy; subst hv; exact r1
    | 2 => simp at hy hv; subst hy; subst hv; exact r2
    | j + 3 => simp at hy
  clear hA0
  simp only [List.append_nil] at hW' hlt
  refine (Pure.top (Go.Pl.Z.p5 n0 n1 n2 l0 l1 l2 s1 s2 (by omega) (by omega) st0) hr).mono ?_
  rintro e W' ⟨val, rfl, ⟨g', hrep⟩, hbel, hg⟩
  obtain rfl := rep_bool hrep
  have same : ∀ x ∈ p0 ++ p1 ++ p2, W.sameAt W' x := fun x hx => hbel.same (hlt x hx)
  refine ⟨_, rfl, post_of_same (pa := p0 ++ (p1 ++ p2)) (pv := []) hW' (fun _ _ _ => trodAll_mk1 (shut_bool Tryz.underlying4 true)) (fun sp hsp => ?_) (fun _ _ => rfl) (by simp) (hg.frame _) hg.2.1 (ok_one (by kernel_rfl) rfl (okWide_bool_mk Tryz.underlying4 _))⟩
  refine trodAll_mk3 (WideElems.Trod_stays laidOut readable22 small22 h0 (fun x hx => same x (by simp [hx])) (fun x hx => hsp x (by simp [hx])))
    (WideElems.Trod_stays laidOut readable22 small22 h1 (fun x hx => same x (by simp [hx])) (fun x hx => hsp x (by simp [hx])))
    (WideElems.Trod_stays laidOut readable22 small22 h2 (fun x hx => same x (by simp [hx])) (fun x hx => hsp x (by simp [hx])))
/-- A WORLD FOR THE WITNESS: what the row lists, laid. -/
noncomputable def witnessWorld (os : Os) : World := World.laidAll Tryz.prog os Rows.measureCondUptoRow.laid
def witnessArgs : Array Value := #[.slice none 0 0, .slice none 0 0, .slice none 0 0]
theorem witness_laid (os : Os) : laidMetH Tryz.prog Rows.measureCondUptoRow.laid ((witnessWorld os).forCall (fun _ _ => 0) ⟨#[], witnessArgs, []⟩).memory := by
  rw [MakeChecks.laidMetH_plain _ _ _ (by kernel_rfl)]
  exact laidMet_laidAll _ (by kernel_rfl) (by kernel_rfl)
theorem witness_shaped (os : Os) : ((witnessWorld os).forCall (fun _ _ => 0) ⟨#[], witnessArgs, []⟩).Shaped Tryz.prog := World.shaped_of_ZipB (by kernel_rfl) (by kernel_rfl)
theorem witness_ok (os : Os) : Input.okWideB Tryz.prog ((witnessWorld os).forCall (fun _ _ => 0) ⟨#[], witnessArgs, []⟩) 5 ⟨#[], witnessArgs, []⟩ = true := by kernel_rfl
theorem witness_reads (os : Os) {H : Type} (enc : TypeId × Value → H) :
    DataW.whole enc Tryz.prog ((witnessWorld os).forCall (fun _ _ => 0) ⟨#[], witnessArgs, []⟩).memory Tryz.f5.params.toList Rows.measureCondSpec.vars false witnessArgs.toList 8 = some ([.nil, .nil, .nil], [], []) := by kernel_rfl

theorem liftedUpto (os : Os) (started : os.Started) (H : Type) (enc : TypeId × Value → H) (F : Stop.Interp) :
    ReturnsInHanded {} Tryz.checked os 5 .any ((Rows.OpenSpec.upto Rows.measureCondSpec).preRow enc Tryz.prog Tryz.f5 Rows.measureCondUptoRow.domain false Rows.measureCondUptoRow.laid)
      (((Rows.OpenSpec.upto Rows.measureCondSpec).at F).post enc Tryz.prog Tryz.f5 false true false false) := by
  refine returnsInHanded_of_row (C := Tryz.checked) (s := Rows.OpenSpec.upto Rows.measureCondSpec) own started (by kernel_rfl) Tryz.func5
    ⟨witnessWorld os, fun _ _ => 0, ⟨#[], witnessArgs, []⟩, World.laidAll_os _ _ _, witness_shaped os, (Input.okWide_of_okWideB (base := 0) (witness_ok os)).1, (Input.okWide_of_okWideB (witness_ok os)).2,
      OpenSpec.preRow_of_cond 8 (witness_reads os enc) (by kernel_rfl) (fun k hk => by cases hk; kernel_rfl) (by kernel_rfl) (witness_laid os), by
        simp only [Assume.holds]
        exact ⟨by simp, by simp, fun _ => Modest.zero, by simp, by simp⟩⟩ ?_
  intro W base args ds gs before hval hW _ hcond _ _ _ _
  exact contract H enc W base args ds gs before hval hW (hcond _ rfl)

theorem saidUpto : Rows.MeasureCondUptoSaid :=
  OpenClaim.holds_of_cond 5 Tryz.f5 rfl rfl rfl rfl rfl rfl rfl ⟨rfl, rfl, rfl, rfl, rfl⟩ rfl rfl rfl rfl rfl (by kernel_rfl) Tryz.func5 (by kernel_rfl)
    (of_decide_eq_true (by kernel_rfl)) (by unfold Func.isWrapper; first | (rw [if_pos (by decide +kernel)]; kernel_rfl) | (rw [if_neg (by decide +kernel)]; exact ⟨rfl, rfl⟩))
    (fun os started H enc _ F => by rw [OpenClaim.pre_eq_preRow]; exact liftedUpto os started H enc F)

theorem cardPlain (f : FuncId) (fn : Func) (hf : Tryz.pinned.checked.prog.funcNamed "plinth/plinthlaw16.MeasureCond" = some f) (hfn : Tryz.pinned.checked.prog.funcs[f]? = some fn) :
    true = Tryz.pinned.checked.prog.looks [] ∧ ∀ (j : Nat) t, fn.params[j]? = some t → Tryz.pinned.checked.prog.wantsStandIn t = false := by
  obtain rfl : f = 5 := Option.some.inj ((show Tryz.prog.funcNamed "plinth/plinthlaw16.MeasureCond" = some 5 by kernel_rfl).symm.trans hf) |>.symm
  obtain rfl : fn = Tryz.f5 := (Option.some.inj (Tryz.func5.symm.trans hfn)).symm
  refine ⟨by kernel_rfl, fun j t ht => ?_⟩
  rw [Tryz.params5] at ht
  have hm : t ∈ [22, 22, 22] := by simpa using Array.mem_of_getElem? ht
  have hall : ([22, 22, 22].all fun u => !Tryz.prog.wantsStandIn u) = true := by kernel_rfl
  exact (show Tryz.prog.wantsStandIn t = false by simpa using List.all_eq_true.1 hall t hm)

/-- THE CARD OF THE SECOND FORM. -/
theorem measureCond_cardUpto : Rows.MeasureCondUptoCardSaid :=
  Claim7.holds_tied_plain_at .later [] _ _ _ _ saidUpto (fun _ h => by cases h) (by kernel_rfl) (fun _ h => by cases h) measureCondUpto_row_tie rfl ⟨rfl, rfl⟩ (by kernel_rfl) rfl cardPlain (by kernel_rfl)
end Go.Proofs.YtllbopmdpmjcpaaGreatDoor
