/- Forms, as plain data. -/
import Derived.Test.YtllbopmdpmjcpaaGreatDoorPlFun
set_option linter.unusedSimpArgs false
set_option linter.unusedVariables false
set_option linter.unusedSectionVars false
namespace Go.Pl

/-- A form: kind, number, text, whether its list of parts is nil, the parts. -/
inductive Fm where
  | mk (kind n : Int) (text : List UInt8) (nl : Bool) (kids : List Fm)
  deriving Inhabited

def Fm.kind : Fm → Int | .mk k _ _ _ _ => k
def Fm.n : Fm → Int | .mk _ n _ _ _ => n
def Fm.text : Fm → List UInt8 | .mk _ _ t _ _ => t
def Fm.nl : Fm → Bool | .mk _ _ _ b _ => b
def Fm.kids : Fm → List Fm | .mk _ _ _ _ l => l

mutual
def enc : Fm → V
  | .mk k n t b l => .agg [.int .i64 k, .int .i64 n, .str t, .sl b 4 (encs l)]
def encs : List Fm → List V
  | [] => []
  | f :: l => enc f :: encs l
end

theorem encs_map (l : List Fm) : encs l = l.map enc := by
  induction l with
  | nil => rfl
  | cons f l ih => simp [encs, ih]

theorem encs_length (l : List Fm) : (encs l).length = l.length := by rw [encs_map]; simp
theorem encs_get (l : List Fm) (i : Nat) : (encs l)[i]? = (l[i]?).map enc := by rw [encs_map]; simp
theorem encs_append (l m : List Fm) : encs (l ++ m) = encs l ++ encs m := by simp [encs_map]
theorem encs_take (l : List Fm) (n : Nat) : (encs l).take n = encs (l.take n) := by simp [encs_map]
theorem encs_drop (l : List Fm) (n : Nat) : (encs l).drop n = encs (l.drop n) := by simp [encs_map]

theorem enc_eq (f : Fm) : enc f = .agg [.int .i64 f.kind, .int .i64 f.n, .str f.text, .sl f.nl 4 (encs f.kids)] := by cases f; rfl

theorem enc_plain (f : Fm) : (enc f).plain = enc f := by cases f; rfl
theorem enc_isGr (f : Fm) : (enc f).isGr = false := by cases f; rfl
theorem enc_data (f : Fm) : (enc f).data = true := by cases f; rfl
theorem enc_isAgg (f : Fm) : (enc f).isAgg = true := by cases f; rfl
theorem enc_cells (f : Fm) : (enc f).cells = [.int .i64 f.kind, .int .i64 f.n, .str f.text, .sl f.nl 4 (encs f.kids)] := by cases f; rfl
theorem enc_cells_length (f : Fm) : (enc f).cells.length = 4 := by cases f; rfl

mutual
theorem enc_refsB (n : Nat → Nat → Bool) : ∀ (f : Fm), (enc f).refsB n
  | .mk k m t b l => by simp only [enc, V.refsB, V.refsBs, true_and, and_true]; exact encs_refsB n l
theorem encs_refsB (n : Nat → Nat → Bool) : ∀ (l : List Fm), V.refsBs n (encs l)
  | [] => by simp only [encs, V.refsBs]
  | f :: l => by simp only [encs, V.refsBs]; exact ⟨enc_refsB n f, encs_refsB n l⟩
end

end Go.Pl
