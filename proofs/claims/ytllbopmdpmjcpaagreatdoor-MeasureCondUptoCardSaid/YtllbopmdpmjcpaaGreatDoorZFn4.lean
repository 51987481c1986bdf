/- Rows of words. -/
import Derived.Test.YtllbopmdpmjcpaaGreatDoorZFn3
set_option linter.unusedSimpArgs false
set_option linter.unusedVariables false
set_option linter.unusedSectionVars false
open Go Go.Pl Go.Proofs
namespace Go.Pl.Z
set_option maxRecDepth 100000

def setBag : List UInt8 := [115, 101, 116, 32, 98, 97, 103]

theorem w38a (P : Program) (s : List UInt8) (hs : [115, 101, 116] ≠ s) (hs' : [98, 97, 103] ≠ s) : Walks P F38 [.str s, .str setBag] (.bool false) := by
  intro H n b' c O hO hw
  simp only [setBag]
  (try cbv; repeat (simp (disch := first | assumption | omega | decide | exact byEq (enc_data _) | exact byEq (enc_cells_length _) | (refine byEq ?_; with_unfolding_all rfl)) only [w_same hO]; try cbv))
  refine AW_rounds 9 ?_
  (try cbv; repeat (simp (disch := first | assumption | omega | decide | exact byEq (enc_data _) | exact byEq (enc_cells_length _) | (refine byEq ?_; with_unfolding_all rfl)) only [w_same hO, w_slen hO, w_ile_t hO, w_ile_f hO, w_ieq_t hO, w_ieq_f hO, w_sget hO, w_scut hO, w_add hO, w_seq_f hO]; try cbv))
  (intro i k x hx; have hne := WFS.ne hw i k x hx; first | exact hx | (simp (disch := assumption) only [w_upd2_ne hO]; exact hx))
end Go.Pl.Z
