/- Lists with heads, of any values. -/
import Derived.Test.YtllbopmdpmjcpaaGreatDoorZFn4
set_option linter.unusedSimpArgs false
set_option linter.unusedVariables false
set_option linter.unusedSectionVars false
open Go Go.Pl Go.Proofs
namespace Go.Pl.Z
set_option maxRecDepth 100000

def wordV (s : List UInt8) : V := .agg [.int .i64 1, .int .i64 0, .str s, .sl true 4 []]
def listV (nl : Bool) (xs : List V) : V := .agg [.int .i64 3, .int .i64 0, .str [], .sl nl 4 xs]
def callV (s : List UInt8) (xs : List V) : V := listV false (wordV s :: xs)

theorem enc_call (s : List UInt8) (l : List Fm) : enc (call s l) = callV s (encs l) := by simp only [call, list, word, enc, encs, callV, listV, wordV]

theorem listV_refs {nl : Bool} {xs : List V} (h : ∀ p, V.refsBs p xs) : ∀ p, (listV nl xs).refsB p := fun p => by simp only [listV, V.refsB, V.refsBs, h p, and_self]
theorem callV_refs {s : List UInt8} {xs : List V} (h : ∀ p, V.refsBs p xs) : ∀ p, (callV s xs).refsB p := listV_refs fun p => by simp only [wordV, V.refsB, V.refsBs, h p, and_self]

theorem w47v (P : Program) (nl : Bool) (xs : List V) : Walks P F47 [.sl nl 4 xs] (listV nl xs) := by
  intro H n b c O hO hw
  (try cbv; repeat (simp (disch := first | assumption | omega | decide | exact byEq (enc_data _) | exact byEq (enc_cells_length _) | (refine byEq ?_; with_unfolding_all rfl)) only [w_same hO]; try cbv))
  (intro i k x hx; have hne := WFS.ne hw i k x hx; first | exact hx | (simp (disch := assumption) only [w_upd2_ne hO]; exact hx))
theorem w81v (P : Program) (nl : Bool) (xs : List V) : Walks P F81 [.sl nl 4 xs] (listV nl xs) := by
  intro H n b c O hO hw
  (try cbv; repeat (simp (disch := first | assumption | omega | decide | exact byEq (enc_data _) | exact byEq (enc_cells_length _) | (refine byEq ?_; with_unfolding_all rfl)) only [w_same hO]; try cbv))
  (intro i k x hx; have hne := WFS.ne hw i k x hx; first | exact hx | (simp (disch := assumption) only [w_upd2_ne hO]; exact hx))

theorem w24v (P : Program) (s : List UInt8) (nl : Bool) (xs : List V) (hl : xs.length ≤ 1000000000) (hr : ∀ p, V.refsBs p xs) (h48 : ∀ s S, Pl.Pure P 48 [.str s] S (wordV s))
    (h47 : ∀ nl xs, (∀ p, V.refsBs p xs) → ∀ S, Pl.Pure P 47 [.sl nl 4 xs] S (listV nl xs)) : Walks P F24 [.str s, .sl nl 4 xs] (callV s xs) := by
  intro H n b c O hO hw
  have hfit : ∀ x, O.fit 56 [x] xs = true := fun x => w_fit hO (by simp only [List.length_cons, List.length_nil]; omega)
  have hr' : ∀ p, V.refsBs p (wordV s :: xs) := fun p => by simp only [wordV, V.refsB, V.refsBs, hr p, and_self]
  (try cbv; repeat (simp (disch := first | assumption | omega | decide | exact byEq (enc_data _) | exact byEq (enc_cells_length _) | (refine byEq ?_; with_unfolding_all rfl)) only [w_same hO, w_good1 hO]; try cbv))
  refine Pure.go (h48 s _) ?_
  (try cbv; repeat (simp (disch := first | assumption | omega | decide | exact byEq (enc_data _) | exact byEq (enc_cells_length _) | (refine byEq ?_; with_unfolding_all rfl)) only [w_same hO, w_good1 hO, w_app_1 hO, hfit, w_emp_c hO]; try cbv))
  refine Pure.go (h47 false _ hr' _) ?_
  (try cbv; repeat (simp (disch := first | assumption | omega | decide | exact byEq (enc_data _) | exact byEq (enc_cells_length _) | (refine byEq ?_; with_unfolding_all rfl)) only [w_same hO, w_good1 hO]; try cbv))
  (intro i k x hx; have hne := WFS.ne hw i k x hx; first | exact hx | (simp (disch := assumption) only [w_upd2_ne hO]; exact hx))
theorem w45v (P : Program) (s : List UInt8) (nl : Bool) (xs : List V) (hl : xs.length ≤ 1000000000) (hr : ∀ p, V.refsBs p xs) (h82 : ∀ s S, Pl.Pure P 82 [.str s] S (wordV s))
    (h81 : ∀ nl xs, (∀ p, V.refsBs p xs) → ∀ S, Pl.Pure P 81 [.sl nl 4 xs] S (listV nl xs)) : Walks P F45 [.str s, .sl nl 4 xs] (callV s xs) := by
  intro H n b c O hO hw
  have hfit : ∀ x, O.fit 56 [x] xs = true := fun x => w_fit hO (by simp only [List.length_cons, List.length_nil]; omega)
  have hr' : ∀ p, V.refsBs p (wordV s :: xs) := fun p => by simp only [wordV, V.refsB, V.refsBs, hr p, and_self]
  (try cbv; repeat (simp (disch := first | assumption | omega | decide | exact byEq (enc_data _) | exact byEq (enc_cells_length _) | (refine byEq ?_; with_unfolding_all rfl)) only [w_same hO, w_good1 hO]; try cbv))
  refine Pure.go (h82 s _) ?_
  (try cbv; repeat (simp (disch := first | assumption | omega | decide | exact byEq (enc_data _) | exact byEq (enc_cells_length _) | (refine byEq ?_; with_unfolding_all rfl)) only [w_same hO, w_good1 hO, w_app_1 hO, hfit, w_emp_c hO]; try cbv))
  refine Pure.go (h81 false _ hr' _) ?_
  (try cbv; repeat (simp (disch := first | assumption | omega | decide | exact byEq (enc_data _) | exact byEq (enc_cells_length _) | (refine byEq ?_; with_unfolding_all rfl)) only [w_same hO, w_good1 hO]; try cbv))
  (intro i k x hx; have hne := WFS.ne hw i k x hx; first | exact hx | (simp (disch := assumption) only [w_upd2_ne hO]; exact hx))

/-- A call of list, or of make.Call: what it makes. -/
def Makes (P : Program) (N : Nat) : Prop := ∀ s nl xs, xs.length ≤ 1000000000 → (∀ p, V.refsBs p xs) → ∀ S, Pl.Pure P N [.str s, .sl nl 4 xs] S (callV s xs)

/-- that a is a part of b, properly, by meet -/
def properV (a b : V) : V := callV [97, 110, 100] [callV [61] [callV [109, 101, 101, 116] [a, b], b], callV [110, 111, 116] [callV [61] [a, b]]]

/-- A form's cells, told one by one. -/
def fmV (k m : Int) (t : List UInt8) (nl : Bool) (xs : List V) : V := .agg [.int .i64 k, .int .i64 m, .str t, .sl nl 4 xs]

theorem fmV_refs {k m : Int} {t : List UInt8} {nl : Bool} {xs : List V} (h : ∀ p, V.refsBs p xs) : ∀ p, (fmV k m t nl xs).refsB p := fun p => by simp only [fmV, V.refsB, V.refsBs, h p, and_self]


theorem w79 (P : Program) (ka ma : Int) (ta : List UInt8) (na : Bool) (xa : List V) (kb mb : Int) (tb : List UInt8) (nb : Bool) (xb : List V) (ha : ∀ p, V.refsBs p xa) (hb : ∀ p, V.refsBs p xb) (h45 : Makes P 45) :
    Walks P F79 [fmV ka ma ta na xa, fmV kb mb tb nb xb] (properV (fmV ka ma ta na xa) (fmV kb mb tb nb xb)) := by
  intro H n b c O hO hw
  (try cbv; repeat (simp (disch := first | assumption | omega | decide | exact byEq (enc_data _) | exact byEq (enc_cells_length _) | (refine byEq ?_; with_unfolding_all rfl)) only [w_same hO, w_good2 hO]; try cbv))
  repeat (refine ⟨_, h45 _ _ _ (by simp) (by (intro p; simp only [callV, listV, wordV, fmV, V.refsB, V.refsBs, and_self, ha, hb])) _, ?_⟩; (try cbv; repeat (simp (disch := first | assumption | omega | decide | exact byEq (enc_data _) | exact byEq (enc_cells_length _) | (refine byEq ?_; with_unfolding_all rfl)) only [w_same hO, w_good1 hO, w_good2 hO]; try cbv)))
  (intro i k x hx; have hne := WFS.ne hw i k x hx; first | exact hx | (simp (disch := assumption) only [w_upd2_ne hO]; exact hx))
end Go.Pl.Z
