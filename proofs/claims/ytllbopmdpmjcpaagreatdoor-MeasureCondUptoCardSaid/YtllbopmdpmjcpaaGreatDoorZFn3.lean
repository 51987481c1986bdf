/- Heads, and rows of words. -/
import Derived.Test.YtllbopmdpmjcpaaGreatDoorZFn2
set_option linter.unusedSimpArgs false
set_option linter.unusedVariables false
set_option linter.unusedSectionVars false
open Go Go.Pl Go.Proofs
namespace Go.Pl.Z
set_option maxRecDepth 100000

theorem w13 (P : Program) (f : Fm) (h25 : ∀ S, Pl.Pure P 25 [enc f, enc f] S (.int .i64 0)) : Walks P F13 [enc f, enc f] (.bool true) := by
  obtain ⟨k, m, t, nl, l⟩ := f
  intro H n b' c O hO hw
  simp only [enc] at h25 ⊢
  generalize encs l = xs at h25 ⊢
  (try cbv; repeat (simp (disch := first | assumption | omega | decide | exact byEq (enc_data _) | exact byEq (enc_cells_length _) | (refine byEq ?_; with_unfolding_all rfl)) only [w_same hO]; try cbv))
  refine Pure.go (h25 _) ?_
  (try cbv; repeat (simp (disch := first | assumption | omega | decide | exact byEq (enc_data _) | exact byEq (enc_cells_length _) | (refine byEq ?_; with_unfolding_all rfl)) only [w_same hO, w_ieq_t hO]; try cbv))
  (intro i k x hx; have hne := WFS.ne hw i k x hx; first | exact hx | (simp (disch := assumption) only [w_upd2_ne hO]; exact hx))

theorem w45 (P : Program) (s : List UInt8) (nl : Bool) (l : List Fm) (hl : l.length ≤ 1000000000) (h82 : ∀ s S, Pl.Pure P 82 [.str s] S (enc (word s))) (h81 : ∀ nl l S, Pl.Pure P 81 [.sl nl 4 (encs l)] S (enc (list nl l))) :
    Walks P F45 [.str s, .sl nl 4 (encs l)] (enc (call s l)) := by
  intro H n b c O hO hw
  have hfit : ∀ x, O.fit 56 [x] (encs l) = true := fun x => w_fit hO (by simp only [encs_length, List.length_cons, List.length_nil]; omega)
  have h81' := h81 false (word s :: l)
  simp only [encs] at h81'
  generalize hv : enc (call s l) = v
  replace hv := hv.symm
  simp only [call, list, enc, encs] at hv
  have hv' : enc (list false (word s :: l)) = v := by rw [hv]; rfl
  rw [hv'] at h81'
  revert h81' hv
  generalize encs l = xs at *
  intro h81' hv
  (try cbv; repeat (simp (disch := first | assumption | omega | decide | exact byEq (enc_data _) | exact byEq (enc_cells_length _) | (refine byEq ?_; with_unfolding_all rfl)) only [w_same hO, w_good1 hO]; try cbv))
  refine Pure.go (h82 s _) ?_
  (try cbv; repeat (simp (disch := first | assumption | omega | decide | exact byEq (enc_data _) | exact byEq (enc_cells_length _) | (refine byEq ?_; with_unfolding_all rfl)) only [w_same hO, w_good1 hO, w_app_1 hO, hfit, w_emp_c hO]; try cbv))
  refine Pure.go (h81' _) ?_
  rw [hv]
  (try cbv; repeat (simp (disch := first | assumption | omega | decide | exact byEq (enc_data _) | exact byEq (enc_cells_length _) | (refine byEq ?_; with_unfolding_all rfl)) only [w_same hO, w_good1 hO]; try cbv))
  (intro i k x hx; have hne := WFS.ne hw i k x hx; first | exact hx | (simp (disch := assumption) only [w_upd2_ne hO]; exact hx))

/-- A form's head. -/
def headF (f : Fm) : List UInt8 := if f.kind = 3 then (match f.kids with
  | g :: _ => if g.kind = 1 then g.text else []
  | [] => []) else []

def kidsF (f : Fm) : V := if f.kind = 3 then .sl f.nl 4 (encs f.kids) else .sl true 4 []

theorem w58 (P : Program) (f : Fm) : Walks P F58 [enc f] (kidsF f) := by
  obtain ⟨k, m, t, nl, l⟩ := f
  intro H n b' c O hO hw
  by_cases h : k = 3
  · have e : kidsF (.mk k m t nl l) = .sl nl 4 (encs l) := by simp [kidsF, Fm.kind, Fm.nl, Fm.kids, h]
    rw [e]
    simp only [enc]
    generalize encs l = xs
    (try cbv; repeat (simp (disch := first | assumption | omega | decide | exact byEq (enc_data _) | exact byEq (enc_cells_length _) | (refine byEq ?_; with_unfolding_all rfl)) only [w_same hO, w_ieq_t hO]; try cbv))
    (intro i k x hx; have hne := WFS.ne hw i k x hx; first | exact hx | (simp (disch := assumption) only [w_upd2_ne hO]; exact hx))
  · have e : kidsF (.mk k m t nl l) = .sl true 4 [] := by simp [kidsF, Fm.kind, h]
    rw [e]
    simp only [enc]
    generalize encs l = xs
    (try cbv; repeat (simp (disch := first | assumption | omega | decide | exact byEq (enc_data _) | exact byEq (enc_cells_length _) | (refine byEq ?_; with_unfolding_all rfl)) only [w_same hO, w_ieq_f hO]; try cbv))
    (intro i k x hx; have hne := WFS.ne hw i k x hx; first | exact hx | (simp (disch := assumption) only [w_upd2_ne hO]; exact hx))

theorem w36 (P : Program) (f : Fm) : Walks P F36 [enc f] (.str (headF f)) := by
  obtain ⟨k, m, t, nl, l⟩ := f
  intro H n b' c O hO hw
  by_cases h : k = 3
  · cases l with
    | nil =>
      have e : headF (.mk k m t nl []) = [] := by simp [headF, Fm.kids]
      rw [e]
      simp only [enc]
      have e1 : O.len (encs []) = 0 := by rw [w_len hO]; rfl
      generalize encs [] = xs at e1 ⊢
      (try cbv; repeat (simp (disch := first | assumption | omega | decide | exact byEq (enc_data _) | exact byEq (enc_cells_length _) | (refine byEq ?_; with_unfolding_all rfl)) only [w_same hO, w_ieq_t hO, w_ieq_f hO, e1]; try cbv))
      (intro i k x hx; have hne := WFS.ne hw i k x hx; first | exact hx | (simp (disch := assumption) only [w_upd2_ne hO]; exact hx))
    | cons g l' =>
      obtain ⟨k', m', t', nl', l''⟩ := g
      have e1 : ∃ L : Int, O.len (encs (.mk k' m' t' nl' l'' :: l')) = L ∧ 0 < L := ⟨_, rfl, by rw [w_len hO, encs_length, List.length_cons]; omega⟩
      have e2 : O.get (encs (.mk k' m' t' nl' l'' :: l')) 0 = some (enc (.mk k' m' t' nl' l'')) := w_get0 hO _ _
      by_cases h' : k' = 1
      · have e : headF (.mk k m t nl (.mk k' m' t' nl' l'' :: l')) = t' := by simp [headF, Fm.kind, Fm.kids, Fm.text, h, h']
        rw [e]
        simp only [enc] at e2 ⊢
        generalize encs (.mk k' m' t' nl' l'' :: l') = xs at e1 e2 ⊢
        generalize encs l'' = ys at e2
        obtain ⟨L, e1, hL⟩ := e1
        have e3 : O.ieq L 0 = false := w_ieq_f hO (by omega)
        (try cbv; repeat (simp (disch := first | assumption | omega | decide | exact byEq (enc_data _) | exact byEq (enc_cells_length _) | (refine byEq ?_; with_unfolding_all rfl)) only [w_same hO, w_ieq_t hO, e1, e2, e3]; try cbv))
        (intro i k x hx; have hne := WFS.ne hw i k x hx; first | exact hx | (simp (disch := assumption) only [w_upd2_ne hO]; exact hx))
      · have e : headF (.mk k m t nl (.mk k' m' t' nl' l'' :: l')) = [] := by simp [headF, Fm.kind, Fm.kids, h, h']
        rw [e]
        simp only [enc] at e2 ⊢
        generalize encs (.mk k' m' t' nl' l'' :: l') = xs at e1 e2 ⊢
        generalize encs l'' = ys at e2
        obtain ⟨L, e1, hL⟩ := e1
        have e3 : O.ieq L 0 = false := w_ieq_f hO (by omega)
        (try cbv; repeat (simp (disch := first | assumption | omega | decide | exact byEq (enc_data _) | exact byEq (enc_cells_length _) | (refine byEq ?_; with_unfolding_all rfl)) only [w_same hO, w_ieq_t hO, w_ieq_f hO, e1, e2, e3]; try cbv))
        (intro i k x hx; have hne := WFS.ne hw i k x hx; first | exact hx | (simp (disch := assumption) only [w_upd2_ne hO]; exact hx))
  · have e : headF (.mk k m t nl l) = [] := by simp [headF, Fm.kind, h]
    rw [e]
    simp only [enc]
    generalize encs l = xs
    (try cbv; repeat (simp (disch := first | assumption | omega | decide | exact byEq (enc_data _) | exact byEq (enc_cells_length _) | (refine byEq ?_; with_unfolding_all rfl)) only [w_same hO, w_ieq_f hO]; try cbv))
    (intro i k x hx; have hne := WFS.ne hw i k x hx; first | exact hx | (simp (disch := assumption) only [w_upd2_ne hO]; exact hx))

theorem w28 (P : Program) (f : Fm) (h58 : ∀ S, Pl.Pure P 58 [enc f] S (kidsF f)) : Walks P F28 [enc f] (.str (headF f)) := by
  obtain ⟨k, m, t, nl, l⟩ := f
  intro H n b' c O hO hw
  by_cases h : k = 3
  · have ek : kidsF (.mk k m t nl l) = .sl nl 4 (encs l) := by simp [kidsF, Fm.kind, Fm.nl, Fm.kids, h]
    rw [ek] at h58
    cases l with
    | nil =>
      have e : headF (.mk k m t nl []) = [] := by simp [headF, Fm.kids]
      rw [e]
      simp only [enc] at h58 ⊢
      have e1 : O.len (encs []) = 0 := by rw [w_len hO]; rfl
      generalize encs [] = xs at e1 h58 ⊢
      (try cbv; repeat (simp (disch := first | assumption | omega | decide | exact byEq (enc_data _) | exact byEq (enc_cells_length _) | (refine byEq ?_; with_unfolding_all rfl)) only [w_same hO]; try cbv))
      refine Pure.go (h58 _) ?_
      (try cbv; repeat (simp (disch := first | assumption | omega | decide | exact byEq (enc_data _) | exact byEq (enc_cells_length _) | (refine byEq ?_; with_unfolding_all rfl)) only [w_same hO, e1, w_ilt_f hO]; try cbv))
      (intro i k x hx; have hne := WFS.ne hw i k x hx; first | exact hx | (simp (disch := assumption) only [w_upd2_ne hO]; exact hx))
    | cons g l' =>
      obtain ⟨k', m', t', nl', l''⟩ := g
      have e1 : ∃ L : Int, O.len (encs (.mk k' m' t' nl' l'' :: l')) = L ∧ 0 < L := ⟨_, rfl, by rw [w_len hO, encs_length, List.length_cons]; omega⟩
      have e2 : O.get (encs (.mk k' m' t' nl' l'' :: l')) 0 = some (enc (.mk k' m' t' nl' l'')) := w_get0 hO _ _
      by_cases h' : k' = 1
      · have e : headF (.mk k m t nl (.mk k' m' t' nl' l'' :: l')) = t' := by simp [headF, Fm.kind, Fm.kids, Fm.text, h, h']
        rw [e]
        simp only [enc] at e2 h58 ⊢
        generalize encs (.mk k' m' t' nl' l'' :: l') = xs at e1 e2 h58 ⊢
        generalize encs l'' = ys at e2
        obtain ⟨L, e1, hL⟩ := e1
        have e3 : O.ilt 0 L = true := w_ilt_t hO (by omega)
        (try cbv; repeat (simp (disch := first | assumption | omega | decide | exact byEq (enc_data _) | exact byEq (enc_cells_length _) | (refine byEq ?_; with_unfolding_all rfl)) only [w_same hO]; try cbv))
        refine Pure.go (h58 _) ?_
        (try cbv; repeat (simp (disch := first | assumption | omega | decide | exact byEq (enc_data _) | exact byEq (enc_cells_length _) | (refine byEq ?_; with_unfolding_all rfl)) only [w_same hO, w_ieq_t hO, e1, e2, e3]; try cbv))
        (intro i k x hx; have hne := WFS.ne hw i k x hx; first | exact hx | (simp (disch := assumption) only [w_upd2_ne hO]; exact hx))
      · have e : headF (.mk k m t nl (.mk k' m' t' nl' l'' :: l')) = [] := by simp [headF, Fm.kind, Fm.kids, h, h']
        rw [e]
        simp only [enc] at e2 h58 ⊢
        generalize encs (.mk k' m' t' nl' l'' :: l') = xs at e1 e2 h58 ⊢
        generalize encs l'' = ys at e2
        obtain ⟨L, e1, hL⟩ := e1
        have e3 : O.ilt 0 L = true := w_ilt_t hO (by omega)
        (try cbv; repeat (simp (disch := first | assumption | omega | decide | exact byEq (enc_data _) | exact byEq (enc_cells_length _) | (refine byEq ?_; with_unfolding_all rfl)) only [w_same hO]; try cbv))
        refine Pure.go (h58 _) ?_
        (try cbv; repeat (simp (disch := first | assumption | omega | decide | exact byEq (enc_data _) | exact byEq (enc_cells_length _) | (refine byEq ?_; with_unfolding_all rfl)) only [w_same hO, w_ieq_t hO, w_ieq_f hO, e1, e2, e3]; try cbv))
        (intro i k x hx; have hne := WFS.ne hw i k x hx; first | exact hx | (simp (disch := assumption) only [w_upd2_ne hO]; exact hx))
  · have e : headF (.mk k m t nl l) = [] := by simp [headF, Fm.kind, h]
    have ek : kidsF (.mk k m t nl l) = .sl true 4 [] := by simp [kidsF, Fm.kind, h]
    rw [ek] at h58
    rw [e]
    simp only [enc] at h58 ⊢
    generalize encs l = xs at h58 ⊢
    have e1 : O.len [] = 0 := by rw [w_len hO]; rfl
    (try cbv; repeat (simp (disch := first | assumption | omega | decide | exact byEq (enc_data _) | exact byEq (enc_cells_length _) | (refine byEq ?_; with_unfolding_all rfl)) only [w_same hO]; try cbv))
    refine Pure.go (h58 _) ?_
    (try cbv; repeat (simp (disch := first | assumption | omega | decide | exact byEq (enc_data _) | exact byEq (enc_cells_length _) | (refine byEq ?_; with_unfolding_all rfl)) only [w_same hO, e1, w_ilt_f hO]; try cbv))
    (intro i k x hx; have hne := WFS.ne hw i k x hx; first | exact hx | (simp (disch := assumption) only [w_upd2_ne hO]; exact hx))
end Go.Pl.Z
