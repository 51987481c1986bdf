/- Proved: for every input that can be read, and is of bulk at most 1048576, plinthlaw16.MeasureOrder returns true, leaves its arguments as they read before and everything else in memory as it was (the tied card of the second form). Conditions: the bound on the bulk; the listed tables of Go library, tied to the program text over the seat pruned copy of the project. -/
import Derived.Test.YtllbopmdpmjcpaaGreatDoorM14
import Derived.Test.YtllbopmdpmjcpaaGreatDoorM41
import Derived.Test.YtllbopmdpmjcpaaGreatDoorCards
import Derived.Test.YtllbopmdpmjcpaaGreatDoorTie
import Derived.WalkKit
import Derived.ProofKit
import Derived.OpenShut
import Derived.Lay
import Derived.Deep.DeepHandedRow
import Derived.Carry
import Derived.LaidSub
import Derived.Lib.LaidTab
set_option linter.unusedSimpArgs false
set_option linter.unusedVariables false
set_option linter.unusedSectionVars false
namespace Go.Proofs.YtllbopmdpmjcpaaGreatDoor
open Go.ChangeShapes Go.WideShapes Go.ChangeAt Go.RowKit Go.Pl
set_option maxRecDepth 100000
theorem own : ownKnob Tryz.prog.godebug = none := by kernel_rfl
theorem laidOut : laidOutB Tryz.prog = true := by kernel_rfl
theorem readable22 : Tryz.prog.readableRec 22 = true := by kernel_rfl
theorem small22 : 22 < Tryz.prog.types.size := of_decide_eq_true (by kernel_rfl)
theorem types : FormTypes Tryz.prog 3 9 22 24 where
 I := Tryz.underlying3
 S := Tryz.underlying9
 L := Tryz.underlying22
 F := ⟨_, _, _, _, Tryz.underlying24, rfl, rfl, rfl, rfl, rfl, rfl, rfl, rfl⟩
 cI := by kernel_rfl
 cS := by kernel_rfl
 cL := by kernel_rfl
 cF := by kernel_rfl
theorem bulk {H : Type} : Bulk (H := H) Rows.uptoBulk Rows.uptoBulkAll where
 lit _ _ := by simp [Rows.uptoBulk]
 str _ := by simp [Rows.uptoBulk]
 nil := by simp [Rows.uptoBulk]
 slice _ _ := by simp [Rows.uptoBulk]
 agg _ := by simp [Rows.uptoBulk]
 none := by simp [Rows.uptoBulkAll]
 cons _ _ := by simp [Rows.uptoBulkAll]
theorem open_list {H : Type} {enc : TypeId × Value → H} {W : World} {base : Nat} {v : Value} {d : DataW H} {ps : List MemPlace} (hv : Value.okWide Tryz.prog W .any base 22 v)
  (h : DataW.Trod enc Tryz.prog W 0 (fun _ => true) true 22 v d ps) :
  ∃ nl l, Rep (gh0 W) (.sl nl 4 (encs l)) v ∧ fsizes l + 1 ≤ Rows.uptoBulk d := by
 obtain ⟨fuel, h⟩ := h
 obtain ⟨u, nl, l, hu, hr, hb⟩ := (trod_forms types bulk fuel).2 _ _ _ h
 refine ⟨nl, l, ?_, hb⟩
 have : v = u := by
  simp only [Value.okWide, Tryz.underlying22, Cell.okWide, Cell.ok] at hv
  cases v <;> simp only [Value.cells, List.cons.injEq, and_true] at hu <;> first
   | exact hu
   | (simp at hv; done)
 rw [this]; exact hr.1
theorem open_form {H : Type} {enc : TypeId × Value → H} {W : World} {base : Nat} {v : Value} {d : DataW H} {ps : List MemPlace} (hv : Value.okWide Tryz.prog W .any base 24 v)
  (h : DataW.Trod enc Tryz.prog W 0 (fun _ => true) true 24 v d ps) :
  ∃ f : Fm, Rep (gh0 W) (Pl.enc f) v ∧ fsize f ≤ Rows.uptoBulk d := by
 obtain ⟨fuel, h⟩ := h
 obtain ⟨f, hl, hr, hb⟩ := (trod_forms types bulk fuel).1 _ _ _ h
 obtain ⟨cs, rfl, _⟩ := WideShapes.okWide_struct Tryz.underlying24 hv
 refine ⟨f, ?_, hb⟩
 simp only [Value.cells] at hl hr
 have hlen : (Pl.enc f).cells.length = 4 := enc_cells_length f
 have hag : Pl.enc f = .agg (Pl.enc f).cells := by cases f; rfl
 rw [hag]
 have one : ∀ (j : Nat) (y : V) (u : Value), (Pl.enc f).cells[j]? = some y → cs[j]? = some u → CellRep W y u := fun j y u hy hu => hr j y u hy (by simpa using hu)
 refine .agg _ _ (by rw [hlen]; simpa using hl.symm) (fun j u hu => ?_) (fun j y u hy hu => (one j y u hy hu).1)
 have hj : j < 4 := by
  have := (Array.getElem?_eq_some_iff.1 hu).1
  simp at hl
  omega
 have : j < (Pl.enc f).cells.length := by omega
 exact (one j _ u (List.getElem?_eq_getElem this) hu).2
theorem fits24 : 24 < Tryz.prog.types.size := of_decide_eq_true (by kernel_rfl)
theorem readable24 : Tryz.prog.readableRec 24 = true := by kernel_rfl
theorem blanks {W : World} (h : laidMetH Tryz.prog Rows.measureOrderUptoRow.laid W) : Lib.TabIs Tryz.prog W "strings.asciiSpace" .u8 Lib.asciiSpaceTab := by
 have h1 := laidMetH.filter (fun x => x.1 == "strings.asciiSpace") h
 have e : Rows.measureOrderUptoRow.laid.filter (fun x => x.1 == "strings.asciiSpace") = [("strings.asciiSpace", Lib.tabData .u8 Lib.asciiSpaceTab)] := by kernel_rfl
 rw [e, MakeChecks.laidMetH_plain _ _ _ (by kernel_rfl)] at h1
 exact Lib.tabIs_of_head (g := 0) (t := 91) (e := 5) (n := 256) (by kernel_rfl) (by kernel_rfl) (by kernel_rfl) (by kernel_rfl) (by kernel_rfl) (by kernel_rfl) h1
theorem contract (H : Type) (enc : TypeId × Value → H) (W : World) (base : Nat) (args : Array Value) (ds gs : List (DataW H)) (before : List MemPlace) (hT : Lib.TabIs Tryz.prog W "strings.asciiSpace" .u8 Lib.asciiSpaceTab)
  (hval : ∀ (j : Nat) t v, Tryz.f4.params[j]? = some t → args[j]? = some v → Value.okWide Tryz.prog W .any base t v)
  (hW : DataW.Whole enc Tryz.prog Tryz.f4.params.toList Rows.measureOrderSpec.vars false W args.toList ds gs before) (hk : Rows.uptoSmall H (ds ++ gs) = true) :
  Calls Tryz.prog 4 args W fun e W' => ∃ v, e = .returned v ∧ Rows.measureOrderSpec.post enc Tryz.prog Tryz.f4 false true false false W args v W' := by
 have hW' := hW
 have hlt : ∀ p ∈ before, p.block < W.heap.size := fun p hp => by simpa using hW.lt p hp
 obtain ⟨p, q, hA0, hV, rfl, hfz, hnd⟩ := hW
 have hA : DataW.TrodAll enc Tryz.prog W 0 (fun _ => true) true Tryz.f4.params.toList args.toList ds p := hA0
 rw [Tryz.params4] at hA hval
 obtain ⟨v0, w0, d0, e0, p0, q0, hargs, rfl, rfl, h0, hA⟩ := trodAll_cons hA
 obtain ⟨v1, w1, d1, e1, p1, q1, rfl, rfl, rfl, h1, hA⟩ := trodAll_cons hA
 obtain ⟨v2, w2, d2, e2, p2, q2, rfl, rfl, rfl, h2, hA⟩ := trodAll_cons hA
 obtain ⟨v3, w3, d3, e3, p3, q3, rfl, rfl, rfl, h3, hA⟩ := trodAll_cons hA
 obtain ⟨v4, w4, d4, e4, p4, q4, rfl, rfl, rfl, h4, hA⟩ := trodAll_cons hA
 obtain ⟨v5, w5, d5, e5, p5, q5, rfl, rfl, rfl, h5, hA⟩ := trodAll_cons hA
 obtain ⟨rfl, rfl, rfl⟩ := trodAll_nil hA
 obtain rfl : args = #[v0, v1, v2, v3, v4, v5] := by cases args; simp_all
 obtain ⟨rfl, rfl⟩ := trodVars_none hV
 obtain ⟨a, r0, b0⟩ := open_form (hval 0 24 v0 rfl rfl) h0
 obtain ⟨b, r1, b1⟩ := open_form (hval 1 24 v1 rfl rfl) h1
 obtain ⟨c, r2, b2⟩ := open_form (hval 2 24 v2 rfl rfl) h2
 obtain ⟨nx, x, r3, b3⟩ := open_list (hval 3 22 v3 rfl rfl) h3
 obtain ⟨ny, y, r4, b4⟩ := open_list (hval 4 22 v4 rfl rfl) h4
 obtain ⟨nz, z, r5, b5⟩ := open_list (hval 5 22 v5 rfl rfl) h5
 have hb : Rows.uptoBulk d0 + (Rows.uptoBulk d1 + (Rows.uptoBulk d2 + (Rows.uptoBulk d3 + (Rows.uptoBulk d4 + (Rows.uptoBulk d5 + 0))))) ≤ 1048576 := by
  have := of_decide_eq_true hk
  simpa only [List.append_nil, Rows.uptoBulkAll] using this
 have hr : Reps (gh0 W) [Pl.enc a, Pl.enc b, Pl.enc c, .sl nx 4 (encs x), .sl ny 4 (encs y), .sl nz 4 (encs z)] #[v0, v1, v2, v3, v4, v5] := by
  refine ⟨rfl, fun j y v hy hv => ?_⟩
  match j with
  | 0 => simp at hy hv; subst hy; subst hv; exact r0
  | 1 => simp at hy hv; subst hy; subst hv; exact r1
  | 2 => simp at hy hv; subst hy; subst hv; exact r2
  | 3 => simp at hy hv; subst hy; subst hv; exact r3
  | 4 => simp at hy hv; subst hy; subst hv; exact r4
  | 5 => simp at hy hv; subst hy; subst hv; exact r5
  | j + 6 => simp at hy
 clear hA0
 simp only [List.append_nil] at hW' hlt
 refine (Pure.top (Go.Pl.L.p4 (a := a) (b := b) (c := c) (x := x) (y := y) (z := z) nx ny nz (by show fsize a ≤ 1048576; omega) (by show fsize b ≤ 1048576; omega) (by show fsize c ≤ 1048576; omega) (by omega) (by omega) (by omega) st0) hT hr).mono ?_
 rintro e W' ⟨val, rfl, ⟨g', hrep⟩, hbel⟩
 obtain rfl := rep_bool hrep
 have same : ∀ x ∈ p0 ++ (p1 ++ (p2 ++ (p3 ++ (p4 ++ p5)))), W.sameAt W' x := fun x hx => hbel.same (hlt x hx)
 refine ⟨_, rfl, post_of_below (pa := p0 ++ (p1 ++ (p2 ++ (p3 ++ (p4 ++ (p5 ++ [])))))) (pv := []) hW' (fun _ _ _ => trodAll_mk1 (shut_bool Tryz.underlying4 true)) (fun sp hsp => ?_) (fun _ _ => rfl) (by simp) hbel (ok_one (by kernel_rfl) rfl (okWide_bool_mk Tryz.underlying4 _))⟩
 refine trodAll_cons_mk (WideElems.Trod_stays laidOut readable24 fits24 h0 (fun x hx => same x (by simp [hx])) (fun x hx => hsp x (by simp [hx]))) <|
  trodAll_cons_mk (WideElems.Trod_stays laidOut readable24 fits24 h1 (fun x hx => same x (by simp [hx])) (fun x hx => hsp x (by simp [hx]))) <|
  trodAll_cons_mk (WideElems.Trod_stays laidOut readable24 fits24 h2 (fun x hx => same x (by simp [hx])) (fun x hx => hsp x (by simp [hx]))) <|
  trodAll_cons_mk (WideElems.Trod_stays laidOut readable22 small22 h3 (fun x hx => same x (by simp [hx])) (fun x hx => hsp x (by simp [hx]))) <|
  trodAll_cons_mk (WideElems.Trod_stays laidOut readable22 small22 h4 (fun x hx => same x (by simp [hx])) (fun x hx => hsp x (by simp [hx]))) <|
  trodAll_cons_mk (WideElems.Trod_stays laidOut readable22 small22 h5 (fun x hx => same x (by simp [hx])) (fun x hx => hsp x (by simp [hx]))) trodAll_mk0
noncomputable def witnessWorld (os : Os) : World := World.laidAll Tryz.prog os Rows.measureOrderUptoRow.laid
def witnessArgs : Array Value := #[.agg #[.int .i64 0, .int .i64 0, .string ⟨#[]⟩, .slice none 0 0], .agg #[.int .i64 0, .int .i64 0, .string ⟨#[]⟩, .slice none 0 0], .agg #[.int .i64 0, .int .i64 0, .string ⟨#[]⟩, .slice none 0 0], .slice none 0 0, .slice none 0 0, .slice none 0 0]
theorem witness_laid (os : Os) : laidMetH Tryz.prog Rows.measureOrderUptoRow.laid ((witnessWorld os).forCall (fun _ _ => 0) ⟨#[], witnessArgs, []⟩).memory := by
 rw [MakeChecks.laidMetH_plain _ _ _ (by kernel_rfl)]
 exact laidMet_laidAll _ (by kernel_rfl) (by kernel_rfl)
theorem witness_shaped (os : Os) : ((witnessWorld os).forCall (fun _ _ => 0) ⟨#[], witnessArgs, []⟩).Shaped Tryz.prog := World.shaped_of_ZipB (by kernel_rfl) (by kernel_rfl)
theorem witness_ok (os : Os) : Input.okWideB Tryz.prog ((witnessWorld os).forCall (fun _ _ => 0) ⟨#[], witnessArgs, []⟩) 4 ⟨#[], witnessArgs, []⟩ = true := by kernel_rfl
theorem witness_reads (os : Os) {H : Type} (enc : TypeId × Value → H) :
  DataW.whole enc Tryz.prog ((witnessWorld os).forCall (fun _ _ => 0) ⟨#[], witnessArgs, []⟩).memory Tryz.f4.params.toList Rows.measureOrderSpec.vars false witnessArgs.toList 8 = some ([.agg [.lit (.int .i64 0), .lit (.int .i64 0), .lit (.string []), .nil], .agg [.lit (.int .i64 0), .lit (.int .i64 0), .lit (.string []), .nil], .agg [.lit (.int .i64 0), .lit (.int .i64 0), .lit (.string []), .nil], .nil, .nil, .nil], [], []) := by kernel_rfl
theorem liftedUpto (os : Os) (started : os.Started) (H : Type) (enc : TypeId × Value → H) (F : Stop.Interp) :
  ReturnsInHanded {} Tryz.checked os 4 .any ((Rows.OpenSpec.upto Rows.measureOrderSpec).preRow enc Tryz.prog Tryz.f4 Rows.measureOrderUptoRow.domain false Rows.measureOrderUptoRow.laid)
   (((Rows.OpenSpec.upto Rows.measureOrderSpec).at F).post enc Tryz.prog Tryz.f4 false true false false) := by
 refine returnsInHanded_of_row (C := Tryz.checked) (s := Rows.OpenSpec.upto Rows.measureOrderSpec) own started (by kernel_rfl) Tryz.func4
  ⟨witnessWorld os, fun _ _ => 0, ⟨#[], witnessArgs, []⟩, World.laidAll_os _ _ _, witness_shaped os, (Input.okWide_of_okWideB (base := 0) (witness_ok os)).1, (Input.okWide_of_okWideB (witness_ok os)).2,
   OpenSpec.preRow_of_cond 8 (witness_reads os enc) (by kernel_rfl) (fun k hk => by cases hk; kernel_rfl) (by kernel_rfl) (witness_laid os), by
    simp only [Assume.holds]
    exact ⟨by simp, by simp, fun _ => Modest.zero, by simp, by simp⟩⟩ ?_
 intro W base args ds gs before hval hW _ hcond _ hL _ _
 exact contract H enc W base args ds gs before (blanks hL) hval hW (hcond _ rfl)
theorem saidUpto : Rows.MeasureOrderUptoSaid :=
 OpenClaim.holds_of_cond 4 Tryz.f4 rfl rfl rfl rfl rfl rfl rfl ⟨rfl, rfl, rfl, rfl, rfl⟩ rfl rfl rfl rfl rfl (by kernel_rfl) Tryz.func4 (by kernel_rfl)
  (of_decide_eq_true (by kernel_rfl)) (by unfold Func.isWrapper; first | (rw [if_pos (by decide +kernel)]; kernel_rfl) | (rw [if_neg (by decide +kernel)]; exact ⟨rfl, rfl⟩))
  (fun os started H enc _ F => by rw [OpenClaim.pre_eq_preRow]; exact liftedUpto os started H enc F)
theorem cardPlain (f : FuncId) (fn : Func) (hf : Tryz.pinned.checked.prog.funcNamed "plinth/plinthlaw16.MeasureOrder" = some f) (hfn : Tryz.pinned.checked.prog.funcs[f]? = some fn) :
  true = Tryz.pinned.checked.prog.looks [] ∧ ∀ (j : Nat) t, fn.params[j]? = some t → Tryz.pinned.checked.prog.wantsStandIn t = false := by
 obtain rfl : f = 4 := Option.some.inj ((show Tryz.prog.funcNamed "plinth/plinthlaw16.MeasureOrder" = some 4 by kernel_rfl).symm.trans hf) |>.symm
 obtain rfl : fn = Tryz.f4 := (Option.some.inj (Tryz.func4.symm.trans hfn)).symm
 refine ⟨by kernel_rfl, fun j t ht => ?_⟩
 rw [Tryz.params4] at ht
 have hm : t ∈ [24, 24, 24, 22, 22, 22] := by simpa using Array.mem_of_getElem? ht
 have hall : ([24, 24, 24, 22, 22, 22].all fun u => !Tryz.prog.wantsStandIn u) = true := by kernel_rfl
 exact (show Tryz.prog.wantsStandIn t = false by simpa using List.all_eq_true.1 hall t hm)
theorem measureOrder_cardUpto : Rows.MeasureOrderUptoCardSaid :=
 Claim7.holds_tied_plain_at .later [] _ _ _ _ saidUpto (fun _ h => by cases h) (by kernel_rfl) (fun _ h => by cases h) measureOrderUpto_row_tie rfl ⟨rfl, rfl⟩ (by kernel_rfl) rfl cardPlain (by kernel_rfl)
end Go.Proofs.YtllbopmdpmjcpaaGreatDoor
