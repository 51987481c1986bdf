/- The condition that a tuple falls. -/
import Derived.Test.YtllbopmdpmjcpaaGreatDoorZFn5
set_option linter.unusedSimpArgs false
set_option linter.unusedVariables false
set_option linter.unusedSectionVars false
open Go Go.Pl Go.Proofs
namespace Go.Pl.Z
set_option maxRecDepth 100000

def cloneV (nl : Bool) (xs : List V) : V := match nl with
  | true => .sl true 4 []
  | false => .gr 24 false 4 xs

theorem w46 (P : Program) (nl : Bool) (xs : List V) (hl : xs.length ≤ 1000000000) : Walks P F46 [.sl nl 4 xs] (cloneV nl xs) := by
  intro H n b c O hO hw
  have hfit : O.fit 56 [] xs = true := w_fit hO (by simp only [List.length_nil]; omega)
  cases nl with
  | true =>
    (try cbv; repeat (simp (disch := first | assumption | omega | decide | exact byEq (enc_data _) | exact byEq (enc_cells_length _) | (refine byEq ?_; with_unfolding_all rfl)) only [w_same hO]; try cbv))
    (intro i k x hx; have hne := WFS.ne hw i k x hx; first | exact hx | (simp (disch := assumption) only [w_upd2_ne hO]; exact hx))
  | false =>
    (try cbv; repeat (simp (disch := first | assumption | omega | decide | exact byEq (enc_data _) | exact byEq (enc_cells_length _) | (refine byEq ?_; with_unfolding_all rfl)) only [w_same hO, w_good0 hO, hfit, w_app_n hO]; try cbv))
    (intro i k x hx; have hne := WFS.ne hw i k x hx; first | exact hx | (simp (disch := assumption) only [w_upd2_ne hO]; exact hx))

/-- A list that is grown by append. -/
def grV (l : List V) : V := match l with
  | [] => .sl true 4 []
  | x :: r => .gr 24 false 4 (x :: r)

end Go.Pl.Z
