/- Comparing. -/
import Derived.Test.YtllbopmdpmjcpaaGreatDoorZFn1
set_option linter.unusedSimpArgs false
set_option linter.unusedVariables false
set_option linter.unusedSectionVars false
open Go Go.Pl Go.Proofs
namespace Go.Pl.Z
set_option maxRecDepth 100000

def sgn (a b : Bool) : Int := if a then -1 else if b then 1 else 0
theorem w49 (P : Program) (a b : Bool) : Walks P F49 [.bool a, .bool b] (.int .i64 (sgn a b)) := by
  intro H n b' c O hO hw
  cases a <;> cases b <;> ((try cbv; repeat (simp (disch := first | assumption | omega | decide | exact byEq (enc_data _) | exact byEq (enc_cells_length _) | (refine byEq ?_; with_unfolding_all rfl)) only [w_same hO]; try cbv)); (intro i k x hx; have hne := WFS.ne hw i k x hx; first | exact hx | (simp (disch := assumption) only [w_upd2_ne hO]; exact hx)))

theorem bl_irrefl : ∀ (t : List UInt8), Op.bytesLess t t = false
  | [] => by simp [Op.bytesLess]
  | a :: l => by simp [Op.bytesLess, bl_irrefl l]

/-- A form compared with itself. -/
theorem w25 (P : Program) (f : Fm) (hlen : f.kids.length ≤ 1000000000) (h49 : ∀ a b S, Pl.Pure P 49 [.bool a, .bool b] S (.int .i64 (sgn a b)))
    (ih : ∀ k ∈ f.kids, ∀ S, Pl.Pure P 25 [enc k, enc k] S (.int .i64 0)) : Walks P F25 [enc f, enc f] (.int .i64 0) := by
  obtain ⟨k, m, t, nl, l⟩ := f
  simp only [Fm.kids] at hlen ih
  intro H n b' c O hO hw
  have h00 := h49 false false
  have e00 : sgn false false = 0 := rfl
  rw [e00] at h00
  simp only [enc]
  have hL : O.len (encs l) = (l.length : Int) := by rw [w_len hO, encs_length]
  have hG : ∀ (i : Nat) (k : Fm), l[i]? = some k → O.get (encs l) i = some (enc k) := fun i k hk => w_get hO (by omega) (by simp [encs_get, hk])
  generalize encs l = xs at hL hG ⊢
  by_cases h0 : k = 0
  · subst h0
    (try cbv; repeat (simp (disch := first | assumption | omega | decide | exact byEq (enc_data _) | exact byEq (enc_cells_length _) | (refine byEq ?_; with_unfolding_all rfl)) only [w_same hO, w_ieq_t hO, w_ilt_f hO]; try cbv))
    refine Pure.go (h00 _) ?_
    (try cbv; repeat (simp (disch := first | assumption | omega | decide | exact byEq (enc_data _) | exact byEq (enc_cells_length _) | (refine byEq ?_; with_unfolding_all rfl)) only [w_same hO]; try cbv))
    (intro i k x hx; have hne := WFS.ne hw i k x hx; first | exact hx | (simp (disch := assumption) only [w_upd2_ne hO]; exact hx))
  have hst : O.slt t t = false := by subst hO; exact bl_irrefl t
  by_cases h1 : k = 1
  · subst h1
    (try cbv; repeat (simp (disch := first | assumption | omega | decide | exact byEq (enc_data _) | exact byEq (enc_cells_length _) | (refine byEq ?_; with_unfolding_all rfl)) only [w_same hO, w_ieq_t hO, w_ieq_f hO, hst, w_seq_t hO]; try cbv))
    refine Pure.go (h00 _) ?_
    (try cbv; repeat (simp (disch := first | assumption | omega | decide | exact byEq (enc_data _) | exact byEq (enc_cells_length _) | (refine byEq ?_; with_unfolding_all rfl)) only [w_same hO]; try cbv))
    (intro i k x hx; have hne := WFS.ne hw i k x hx; first | exact hx | (simp (disch := assumption) only [w_upd2_ne hO]; exact hx))
  by_cases h2 : k = 2
  · subst h2
    (try cbv; repeat (simp (disch := first | assumption | omega | decide | exact byEq (enc_data _) | exact byEq (enc_cells_length _) | (refine byEq ?_; with_unfolding_all rfl)) only [w_same hO, w_ieq_t hO, w_ieq_f hO, hst, w_seq_t hO]; try cbv))
    refine Pure.go (h00 _) ?_
    (try cbv; repeat (simp (disch := first | assumption | omega | decide | exact byEq (enc_data _) | exact byEq (enc_cells_length _) | (refine byEq ?_; with_unfolding_all rfl)) only [w_same hO]; try cbv))
    (intro i k x hx; have hne := WFS.ne hw i k x hx; first | exact hx | (simp (disch := assumption) only [w_upd2_ne hO]; exact hx))
  by_cases h3 : k = 3
  · subst h3
    obtain ⟨L, hLe⟩ : ∃ L : Int, L = l.length := ⟨_, rfl⟩
    rw [← hLe] at hL
    have hll : O.ilt L L = false := w_ilt_f hO (Int.le_refl _)
    (try cbv; repeat (simp (disch := first | assumption | omega | decide | exact byEq (enc_data _) | exact byEq (enc_cells_length _) | (refine byEq ?_; with_unfolding_all rfl)) only [w_same hO, w_ieq_t hO, w_ieq_f hO]; try cbv))
    refine AW_loop (fun k σ S => σ 2 = .ref n 0 0 ∧ σ 3 = .ref n 1 0 ∧ (∃ (i : Nat) (j : Int), σ 5 = .int .i64 j ∧ j = i ∧ i ≤ l.length ∧ k = l.length - i) ∧
      S = ⟨upd2 O (upd2 O H n 0 (.agg [.int .i64 3, .int .i64 m, .str t, .sl nl 4 xs])) n 1 (.agg [.int .i64 3, .int .i64 m, .str t, .sl nl 4 xs]), n + 1, n, 2, O, hO⟩) l.length ?_ ?_
    · exact ⟨rfl, rfl, ⟨0, 0, rfl, rfl, by omega, by omega⟩, rfl⟩
    rintro k σ S ⟨h2, h3, ⟨i, j, h5, hj, hi, hk⟩, rfl⟩
    replace hj : j = (i : Int) := hj
    replace hLe : L = (l.length : Int) := hLe
    by_cases hlt : i < l.length
    · have e1 : O.ilt j L = true := w_ilt_t hO (by omega)
      have hkk : l[i]? = some l[i] := by simp [hlt]
      have hg : O.get xs (i : Int) = some (enc l[i]) := hG i _ hkk
      have ihk := ih l[i] (List.getElem_mem hlt)
      rw [← hj] at hg
      clear hkk
      generalize l[i] = k0 at hg ihk
      obtain ⟨k', m', t', nl', l'⟩ := k0
      simp only [enc] at hg ihk
      generalize encs l' = ys at hg ihk
      obtain ⟨j', hj'⟩ : ∃ j', j' = j + 1 := ⟨_, rfl⟩
      have hadd := w_add hO (a := j) (b := 1) (by omega) (by omega)
      rw [← hj'] at hadd
      (try cbv; repeat (simp (disch := first | assumption | omega | decide | exact byEq (enc_data _) | exact byEq (enc_cells_length _) | (refine byEq ?_; with_unfolding_all rfl)) only [w_same hO, h2, h3, h5, hL, e1, hg]; try cbv))
      refine ⟨_, ihk _, ?_⟩
      (try cbv; repeat (simp (disch := first | assumption | omega | decide | exact byEq (enc_data _) | exact byEq (enc_cells_length _) | (refine byEq ?_; with_unfolding_all rfl)) only [w_same hO, w_ieq_t hO, h5, hadd]; try cbv))
      replace hj' : j' = j + 1 := hj'
      replace hj : j = (i : Int) := hj
      exact ⟨k - 1, by omega, h2, h3, ⟨i + 1, j', rfl, (by omega : j' = ((i + 1 : Nat) : Int)), by omega, by omega⟩, trivial⟩
    · have e1 : O.ilt j L = false := w_ilt_f hO (by omega)
      (try cbv; repeat (simp (disch := first | assumption | omega | decide | exact byEq (enc_data _) | exact byEq (enc_cells_length _) | (refine byEq ?_; with_unfolding_all rfl)) only [w_same hO, h2, h3, h5, hL, e1, hll]; try cbv))
      refine Pure.go (h00 _) ?_
      (try cbv; repeat (simp (disch := first | assumption | omega | decide | exact byEq (enc_data _) | exact byEq (enc_cells_length _) | (refine byEq ?_; with_unfolding_all rfl)) only [w_same hO]; try cbv))
      (intro i k x hx; have hne := WFS.ne hw i k x hx; first | exact hx | (simp (disch := assumption) only [w_upd2_ne hO]; exact hx))
  · (try cbv; repeat (simp (disch := first | assumption | omega | decide | exact byEq (enc_data _) | exact byEq (enc_cells_length _) | (refine byEq ?_; with_unfolding_all rfl)) only [w_same hO, w_ieq_t hO, w_ieq_f hO]; try cbv))
    (intro i k x hx; have hne := WFS.ne hw i k x hx; first | exact hx | (simp (disch := assumption) only [w_upd2_ne hO]; exact hx))
end Go.Pl.Z
