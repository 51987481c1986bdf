/- The simple functions. -/
import Derived.Test.YtllbopmdpmjcpaaGreatDoorZLits
set_option linter.unusedSimpArgs false
set_option linter.unusedVariables false
set_option linter.unusedSectionVars false
open Go Go.Pl Go.Proofs
namespace Go.Pl.Z

def num (n : Int) : Fm := .mk 0 n [] true []
def word (s : List UInt8) : Fm := .mk 1 0 s true []
def list (nl : Bool) (l : List Fm) : Fm := .mk 3 0 [] nl l
def call (h : List UInt8) (l : List Fm) : Fm := list false (word h :: l)

/-- A walk that ends with v and leaves the boxes alone. -/
def Walks (P : Program) (F : F) (args : List V) (v : V) : Prop :=
  ∀ (H : Nat → Nat → Option V) (n b c : Nat) (O : Ops) (hO : O = Ops.std), WFS ⟨H, n, b, c, O, hO⟩ → vc P F.N n F.c (retPure F.rs ⟨H, n, b, c, O, hO⟩ v) (frame0 args) ⟨H, n + 1, n, 0, O, hO⟩


set_option maxRecDepth 100000
theorem w21 (P : Program) (n : Int) : Walks P F21 [.int .i64 n] (enc (num n)) := by
  intro H n b c O hO hw
  (try cbv; repeat (simp (disch := first | assumption | omega | decide | exact byEq (enc_data _) | exact byEq (enc_cells_length _) | (refine byEq ?_; with_unfolding_all rfl)) only [w_same hO]; try cbv))
  (intro i k x hx; have hne := WFS.ne hw i k x hx; first | exact hx | (simp (disch := assumption) only [w_upd2_ne hO]; exact hx))
theorem w80 (P : Program) (n : Int) : Walks P F80 [.int .i64 n] (enc (num n)) := by
  intro H n b c O hO hw
  (try cbv; repeat (simp (disch := first | assumption | omega | decide | exact byEq (enc_data _) | exact byEq (enc_cells_length _) | (refine byEq ?_; with_unfolding_all rfl)) only [w_same hO]; try cbv))
  (intro i k x hx; have hne := WFS.ne hw i k x hx; first | exact hx | (simp (disch := assumption) only [w_upd2_ne hO]; exact hx))
theorem w47 (P : Program) (nl : Bool) (l : List Fm) : Walks P F47 [.sl nl 4 (encs l)] (enc (list nl l)) := by
  intro H n b c O hO hw
  simp only [list, enc]
  generalize encs l = xs
  (try cbv; repeat (simp (disch := first | assumption | omega | decide | exact byEq (enc_data _) | exact byEq (enc_cells_length _) | (refine byEq ?_; with_unfolding_all rfl)) only [w_same hO]; try cbv))
  (intro i k x hx; have hne := WFS.ne hw i k x hx; first | exact hx | (simp (disch := assumption) only [w_upd2_ne hO]; exact hx))
theorem w81 (P : Program) (nl : Bool) (l : List Fm) : Walks P F81 [.sl nl 4 (encs l)] (enc (list nl l)) := by
  intro H n b c O hO hw
  simp only [list, enc]
  generalize encs l = xs
  (try cbv; repeat (simp (disch := first | assumption | omega | decide | exact byEq (enc_data _) | exact byEq (enc_cells_length _) | (refine byEq ?_; with_unfolding_all rfl)) only [w_same hO]; try cbv))
  (intro i k x hx; have hne := WFS.ne hw i k x hx; first | exact hx | (simp (disch := assumption) only [w_upd2_ne hO]; exact hx))
theorem w48 (P : Program) (s : List UInt8) : Walks P F48 [.str s] (enc (word s)) := by
  intro H n b c O hO hw
  (try cbv; repeat (simp (disch := first | assumption | omega | decide | exact byEq (enc_data _) | exact byEq (enc_cells_length _) | (refine byEq ?_; with_unfolding_all rfl)) only [w_same hO]; try cbv))
  (intro i k x hx; have hne := WFS.ne hw i k x hx; first | exact hx | (simp (disch := assumption) only [w_upd2_ne hO]; exact hx))
theorem w82 (P : Program) (s : List UInt8) : Walks P F82 [.str s] (enc (word s)) := by
  intro H n b c O hO hw
  (try cbv; repeat (simp (disch := first | assumption | omega | decide | exact byEq (enc_data _) | exact byEq (enc_cells_length _) | (refine byEq ?_; with_unfolding_all rfl)) only [w_same hO]; try cbv))
  (intro i k x hx; have hne := WFS.ne hw i k x hx; first | exact hx | (simp (disch := assumption) only [w_upd2_ne hO]; exact hx))

theorem w24 (P : Program) (s : List UInt8) (nl : Bool) (l : List Fm) (hl : l.length ≤ 1000000000) (h48 : ∀ s S, Pl.Pure P 48 [.str s] S (enc (word s))) (h47 : ∀ nl l S, Pl.Pure P 47 [.sl nl 4 (encs l)] S (enc (list nl l))) :
    Walks P F24 [.str s, .sl nl 4 (encs l)] (enc (call s l)) := by
  intro H n b c O hO hw
  have hfit : ∀ x, O.fit 56 [x] (encs l) = true := fun x => w_fit hO (by simp only [encs_length, List.length_cons, List.length_nil]; omega)
  have h47' := h47 false (word s :: l)
  simp only [encs] at h47'
  generalize hv : enc (call s l) = v
  replace hv := hv.symm
  simp only [call, list, enc, encs] at hv
  have hv' : enc (list false (word s :: l)) = v := by rw [hv]; rfl
  rw [hv'] at h47'
  revert h47' hv
  generalize encs l = xs at *
  intro h47' hv
  (try cbv; repeat (simp (disch := first | assumption | omega | decide | exact byEq (enc_data _) | exact byEq (enc_cells_length _) | (refine byEq ?_; with_unfolding_all rfl)) only [w_same hO, w_good1 hO]; try cbv))
  refine Pure.go (h48 s _) ?_
  (try cbv; repeat (simp (disch := first | assumption | omega | decide | exact byEq (enc_data _) | exact byEq (enc_cells_length _) | (refine byEq ?_; with_unfolding_all rfl)) only [w_same hO, w_good1 hO, w_app_1 hO, hfit, w_emp_c hO]; try cbv))
  refine Pure.go (h47' _) ?_
  rw [hv]
  (try cbv; repeat (simp (disch := first | assumption | omega | decide | exact byEq (enc_data _) | exact byEq (enc_cells_length _) | (refine byEq ?_; with_unfolding_all rfl)) only [w_same hO, w_good1 hO]; try cbv))
  (intro i k x hx; have hne := WFS.ne hw i k x hx; first | exact hx | (simp (disch := assumption) only [w_upd2_ne hO]; exact hx))
end Go.Pl.Z
