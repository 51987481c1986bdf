/- A call from the top: what the abstract call says of the machine's world. -/
import Derived.Test.YtllbopmdpmjcpaaGreatDoorPlOpen
import Derived.Below
import Derived.Carry
set_option linter.unusedSimpArgs false
set_option linter.unusedVariables false
set_option linter.unusedSectionVars false
namespace Go.Pl
open Go.RowKit

theorem Ext.below {W W' : World} {g' : Gh} (h : Ext (gh0 W) W g' W') : Below W.heap.size W W' :=
  ⟨h.os, h.tape, h.output, h.size, fun k hk => h.block k hk fun i l e => by cases e⟩

theorem Below.grown {W W' : World} (h : Below W.heap.size W W') (hf : ∀ a, W'.frozen? a = W.frozen? a) : Go.RowKit.Grown W W' := by
  refine ⟨⟨h.os, h.output, fun i hi => ?_⟩, hf, h.size⟩
  rw [h.block i hi]
  cases hw : W.heap[i]? with
  | none => simp
  | some o =>
    cases o <;> simp

theorem Pure.top {P : Program} {f : Nat} {args : List V} {v : V} (h : Pure P f args st0 v) {W : World} {vals : Array Value} (hr : Reps (gh0 W) args vals) :
    Calls P f vals W fun e W' => ∃ val, e = .returned val ∧ (∃ g', Rep g' v val) ∧ Below W.heap.size W W' ∧ Go.RowKit.Grown W W' := by
  refine ((h.run st0 (St.le_refl _)).run (gh0 W) W vals (sim0 W) rfl hr).mono ?_
  rintro e W' ⟨g', S', ae, hx, hs, _, he, rfl, rfl⟩
  cases e with
  | returned val => exact ⟨val, rfl, ⟨g', he.1⟩, hx.below, Below.grown hx.below hx.froz⟩
  | panicked c => exact he.elim
  | outgrown => exact he.elim

theorem rep_bool {g : Gh} {b : Bool} {val : Value} (h : Rep g (.bool b) val) : val = .bool b := by cases h; rfl
end Go.Pl
