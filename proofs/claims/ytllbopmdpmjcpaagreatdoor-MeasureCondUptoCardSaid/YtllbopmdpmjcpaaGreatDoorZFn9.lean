/- The condition that a tuple falls: the walk. -/
import Derived.Test.YtllbopmdpmjcpaaGreatDoorZFn7
import Derived.Test.YtllbopmdpmjcpaaGreatDoorZFn8
set_option linter.unusedSimpArgs false
set_option linter.unusedVariables false
set_option linter.unusedSectionVars false
open Go Go.Pl Go.Proofs
namespace Go.Pl.Z
set_option maxRecDepth 100000

def dF : Fm := .mk 0 0 [] true []
def posOf (T Os Ns : List Fm) (j : Nat) : Option V := posV (T.getD j dF).kind (T.getD j dF).text (headF (T.getD j dF)) (enc (Os.getD j dF)) (enc (Ns.getD j dF))
def eqL (Os Ns : List Fm) (i : Nat) : List V := (List.range i).map fun j => callV [61] [enc (Ns.getD j dF), enc (Os.getD j dF)]
def outL (T Os Ns : List Fm) (i : Nat) : List V := (List.range i).map fun j => callV [97, 110, 100] (eqL Os Ns j ++ [(posOf T Os Ns j).getD .nilp])

theorem eqL_succ (Os Ns : List Fm) (i : Nat) : eqL Os Ns (i + 1) = eqL Os Ns i ++ [callV [61] [enc (Ns.getD i dF), enc (Os.getD i dF)]] := by simp [eqL, List.range_succ]
theorem outL_succ (T Os Ns : List Fm) (i : Nat) : outL T Os Ns (i + 1) = outL T Os Ns i ++ [callV [97, 110, 100] (eqL Os Ns i ++ [(posOf T Os Ns i).getD .nilp])] := by simp [outL, List.range_succ]
theorem eqL_length (Os Ns : List Fm) (i : Nat) : (eqL Os Ns i).length = i := by simp [eqL]
theorem outL_length (T Os Ns : List Fm) (i : Nat) : (outL T Os Ns i).length = i := by simp [outL]

theorem refsBs_append {p : Nat → Nat → Bool} {l m : List V} (h : V.refsBs p l) (k : V.refsBs p m) : V.refsBs p (l ++ m) :=
  (V.refsBs_iff p _).2 fun x hx => by
    rcases List.mem_append.1 hx with h' | h'
    · exact (V.refsBs_iff p l).1 h x h'
    · exact (V.refsBs_iff p m).1 k x h'

theorem eqL_refs (Os Ns : List Fm) (i : Nat) (p : Nat → Nat → Bool) : V.refsBs p (eqL Os Ns i) :=
  (V.refsBs_iff p _).2 fun x hx => by
    simp only [eqL, List.mem_map] at hx
    obtain ⟨j, _, rfl⟩ := hx
    exact callV_refs (fun p => by simp only [V.refsBs, enc_refsB, and_self]) p

theorem posV_refs {k : Int} {t hd : List UInt8} {a b c : V} (h : posV k t hd a b = some c) (ha : ∀ p, a.refsB p) (hb : ∀ p, b.refsB p) : ∀ p, c.refsB p := by
  intro p
  unfold posV properV at h
  repeat' split at h
  all_goals first
    | (simp only [reduceCtorEq] at h; done)
    | (simp only [Option.some.injEq] at h; subst h; simp only [callV, listV, wordV, fmV, V.refsB, V.refsBs, ha p, hb p, and_self])

theorem outL_refs (T Os Ns : List Fm) (i : Nat) (hs : ∀ j, j < i → (posOf T Os Ns j).isSome = true) (p : Nat → Nat → Bool) : V.refsBs p (outL T Os Ns i) :=
  (V.refsBs_iff p _).2 fun x hx => by
    simp only [outL, List.mem_map, List.mem_range] at hx
    obtain ⟨j, hj, rfl⟩ := hx
    obtain ⟨c, hc⟩ := Option.isSome_iff_exists.1 (hs j hj)
    refine callV_refs (fun p => refsBs_append (eqL_refs _ _ _ p) ?_) p
    rw [hc]
    exact ⟨posV_refs hc (fun p => enc_refsB p _) (fun p => enc_refsB p _) p, trivial⟩

/-- What the conditions come to. -/
def condV (T Os Ns : List Fm) : V :=
  if (List.range (min Os.length Ns.length)).all fun j => (posOf T Os Ns j).isSome then
    (if Os.length < Ns.length then
      (if Os.length = 0 then .tup [callV [97, 110, 100] [], .int .i64 0]
      else .tup [callV [111, 114] (outL T Os Ns Os.length ++ [callV [97, 110, 100] (eqL Os Ns Os.length)]), .int .i64 0])
    else .tup [callV [111, 114] (outL T Os Ns Ns.length), .int .i64 0])
  else .tup [fmV 0 0 [] true [], .int .i64 8]
end Go.Pl.Z
