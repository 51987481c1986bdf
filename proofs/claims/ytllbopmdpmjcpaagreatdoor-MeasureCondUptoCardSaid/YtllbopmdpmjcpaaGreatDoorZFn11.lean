/- ref04.In: is a word one of a row's? -/
import Derived.Test.YtllbopmdpmjcpaaGreatDoorZFn3
import Derived.Test.YtllbopmdpmjcpaaGreatDoorPlLoop
set_option linter.unusedSimpArgs false
set_option linter.unusedVariables false
set_option linter.unusedSectionVars false
open Go Go.Pl Go.Proofs
namespace Go.Pl.Z
set_option maxRecDepth 100000

/-- The words of a row, blanks between them. -/
def splitAux (cur : List UInt8) : List UInt8 → List (List UInt8)
  | [] => [cur]
  | c :: r => if c = 32 then cur :: splitAux [] r else splitAux (cur ++ [c]) r
def inRow (s row : List UInt8) : Bool := decide (s ∈ splitAux [] row)

theorem w38 (P : Program) (s row : List UInt8) (hlen : row.length ≤ 1000000000) : Walks P F38 [.str s, .str row] (.bool (inRow s row)) := by
  intro H n b' c O hO hw
  obtain ⟨L, hL⟩ : ∃ L : Int, L = row.length := ⟨_, rfl⟩
  have eL : O.slen row = L := by rw [w_slen hO, hL]
  generalize hv : inRow s row = v
  (try cbv; repeat (simp (disch := first | assumption | omega | decide | exact byEq (enc_data _) | exact byEq (enc_cells_length _) | (refine byEq ?_; with_unfolding_all rfl)) only [w_same hO]; try cbv))
  refine AW_loopT (A := Nat × Nat × Int × Int) (fun a => [(0, .str s), (1, .str row), (5, .int .i64 a.2.2.1), (6, .int .i64 a.2.2.2)]) (fun _ => frameS H n O hO [])
    (fun a => a.2.2.1 = a.1 ∧ a.2.2.2 = a.2.1 ∧ a.1 ≤ a.2.1 ∧ a.2.1 ≤ row.length + 1 ∧ (a.2.1 ≤ row.length → (v = true ↔ s ∈ splitAux ((row.take a.2.1).drop a.1) (row.drop a.2.1))) ∧ (row.length < a.2.1 → v = false))
    (fun a => row.length + 1 - a.2.1) (0, 0, 0, 0) ⟨rfl, rfl, Nat.le_refl _, Nat.zero_le _, fun _ => by rw [← hv]; simp [inRow], fun h => absurd h (Nat.not_lt_zero _)⟩
    (Drops.tab hw (Nat.le_refl _) [] (fun _ _ _ => rfl) trivial (by simp only [tabOk, V.refsB]; exact ⟨.inl rfl, trivial, .inl rfl, trivial, .inl rfl, trivial, .inl rfl, trivial, trivial⟩)) ?_
  rintro ⟨fr, i, jf, ji⟩ ⟨hjf, hji, hfi, hi, hin, hout⟩ K hK
  simp only at hjf hji hfi hi hin hout hK
  replace hL : L = (row.length : Int) := hL
  replace hjf : jf = (fr : Int) := hjf
  replace hji : ji = (i : Int) := hji
  have next : ∀ (fr' : Nat) (jf' ji' : Int) σ', jf' = fr' → ji' = (i : Int) + 1 → i ≤ row.length → fr' ≤ i + 1 → (i + 1 ≤ row.length → (v = true ↔ s ∈ splitAux ((row.take (i + 1)).drop fr') (row.drop (i + 1)))) → (row.length < i + 1 → v = false) →
      σ' 0 = .str s → σ' 1 = .str row → σ' 5 = .int .i64 jf' → σ' 6 = .int .i64 ji' → K σ' ⟨H, n + 1, n, 0, O, hO⟩ := by
    intro fr' jf' ji' σ' h1 h2 h3 h4 h5 h6 s0 s1 s5 s6
    refine hK σ' _ (fr', i + 1, jf', ji') ?_ ?_ (Drops.tab hw (Nat.le_refl _) [] (fun _ _ _ => rfl) trivial ?_)
    · show row.length + 1 - (i + 1) < row.length + 1 - i
      omega
    · exact ⟨h1, by simpa using h2, h4, by show i + 1 ≤ _; omega, h5, h6⟩
    · simp only [tabOk, V.refsB]
      exact ⟨.inl s0.symm, trivial, .inl s1.symm, trivial, .inl s5.symm, trivial, .inl s6.symm, trivial, trivial⟩
  by_cases hle : i ≤ row.length
  · have e1 : O.ile ji L = true := w_ile_t hO (by omega)
    have hcut : O.scut row jf ji = some ((row.take i).drop fr) := by
      rw [w_scut hO, if_pos (by omega)]
      have a1 : ji.toNat = i := by omega
      have a2 : jf.toNat = fr := by omega
      rw [a1, a2]
    have hin := hin hle
    generalize hcur : (row.take i).drop fr = cur at hcut hin
    obtain ⟨j', hj'⟩ : ∃ j', j' = ji + 1 := ⟨_, rfl⟩
    have hadd := w_add hO (a := ji) (b := 1) (by omega) (by omega)
    rw [← hj'] at hadd
    have word : s = cur → v = true → True := fun _ _ => trivial
    by_cases heq : i = row.length
    · have e2 : O.ieq ji L = true := w_ieq_t hO (by omega)
      have hd : row.drop i = [] := by rw [heq]; simp
      rw [hd] at hin
      by_cases hs : s = cur
      · have e3 : O.seq cur s = true := w_seq_t hO hs.symm
        have ev : v = true := by rw [hin]; simp [splitAux, hs]
        clear hcur
        rw [ev]
        (try cbv; repeat (simp (disch := first | assumption | omega | decide | exact byEq (enc_data _) | exact byEq (enc_cells_length _) | (refine byEq ?_; with_unfolding_all rfl)) only [w_same hO, eL, e1, e2, hcut, e3]; try cbv))
        (intro i k x hx; have hne := WFS.ne hw i k x hx; first | exact hx | (simp (disch := assumption) only [w_upd2_ne hO]; exact hx))
      · have e3 : O.seq cur s = false := w_seq_f hO (fun e => hs e.symm)
        have ev : v = false := by
          rw [← Bool.not_eq_true, hin]; simp [splitAux, hs]
        clear hcur
        (try cbv; repeat (simp (disch := first | assumption | omega | decide | exact byEq (enc_data _) | exact byEq (enc_cells_length _) | (refine byEq ?_; with_unfolding_all rfl)) only [w_same hO, eL, e1, e2, hcut, e3, hadd]; try cbv))
        replace hj' : j' = ji + 1 := hj'
        replace hji : ji = (i : Int) := hji
        exact next (i + 1) j' j' _ (by omega : j' = ((i + 1 : Nat) : Int)) (by omega : j' = (i : Int) + 1) hle (Nat.le_refl _) (fun h => by omega) (fun _ => ev) rfl rfl rfl rfl
    · have e2 : O.ieq ji L = false := w_ieq_f hO (by omega)
      have hlt : i < row.length := by omega
      have hg : O.sget row ji = some (row[i].toNat : Int) := by
        rw [w_sget hO, if_pos (by omega)]
        have a1 : ji.toNat = i := by omega
        rw [a1]; simp [hlt]
      have hd : row.drop i = row[i] :: row.drop (i + 1) := List.drop_eq_getElem_cons hlt
      have ht : row.take (i + 1) = row.take i ++ [row[i]] := by rw [List.take_add_one]; simp [hlt]
      rw [hd] at hin
      generalize row[i] = x at hg hin ht
      obtain ⟨y, hy⟩ : ∃ y : Int, y = x.toNat := ⟨_, rfl⟩
      rw [← hy] at hg
      simp only [splitAux] at hin
      by_cases hx : x = 32
      · rw [if_pos hx] at hin
        have e4 : O.ieq y 32 = true := w_ieq_t hO (by rw [hy, hx]; rfl)
        by_cases hs : s = cur
        · have e3 : O.seq cur s = true := w_seq_t hO hs.symm
          have ev : v = true := by rw [hin]; simp [hs]
          clear hcur
          rw [ev]
          (try cbv; repeat (simp (disch := first | assumption | omega | decide | exact byEq (enc_data _) | exact byEq (enc_cells_length _) | (refine byEq ?_; with_unfolding_all rfl)) only [w_same hO, eL, e1, e2, hg, e4, hcut, e3]; try cbv))
          (intro i k x hx; have hne := WFS.ne hw i k x hx; first | exact hx | (simp (disch := assumption) only [w_upd2_ne hO]; exact hx))
        · have e3 : O.seq cur s = false := w_seq_f hO (fun e => hs e.symm)
          clear hcur
          (try cbv; repeat (simp (disch := first | assumption | omega | decide | exact byEq (enc_data _) | exact byEq (enc_cells_length _) | (refine byEq ?_; with_unfolding_all rfl)) only [w_same hO, eL, e1, e2, hg, e4, hcut, e3, hadd]; try cbv))
          replace hj' : j' = ji + 1 := hj'
          replace hji : ji = (i : Int) := hji
          refine next (i + 1) j' j' _ (by omega : j' = ((i + 1 : Nat) : Int)) (by omega : j' = (i : Int) + 1) hle (Nat.le_refl _) (fun h => ?_) (fun h => by omega) rfl rfl rfl rfl
          rw [hin]
          have : (row.take (i + 1)).drop (i + 1) = [] := by simp
          rw [this]; simp [hs]
      · rw [if_neg hx] at hin
        have e4 : O.ieq y 32 = false := w_ieq_f hO (fun e => hx (by
          apply UInt8.toNat_inj.1
          have : (x.toNat : Int) = 32 := by rw [← hy]; exact e
          have h2 : x.toNat = 32 := by omega
          rw [h2]; rfl))
        have hc2 : (row.take (i + 1)).drop fr = cur ++ [x] := by
          rw [ht, List.drop_append_of_le_length (by simp; omega), hcur]
        clear hcur
        (try cbv; repeat (simp (disch := first | assumption | omega | decide | exact byEq (enc_data _) | exact byEq (enc_cells_length _) | (refine byEq ?_; with_unfolding_all rfl)) only [w_same hO, eL, e1, e2, hg, e4, hcut, hadd]; try cbv))
        replace hj' : j' = ji + 1 := hj'
        replace hji : ji = (i : Int) := hji
        replace hjf : jf = (fr : Int) := hjf
        refine next fr jf j' _ (by omega : jf = (fr : Int)) (by omega : j' = (i : Int) + 1) hle (by omega) (fun h => ?_) (fun h => by omega) rfl rfl rfl rfl
        rw [hin, hc2]
  · have e1 : O.ile ji L = false := w_ile_f hO (by omega)
    have ev : v = false := hout (by omega)
    rw [ev]
    (try cbv; repeat (simp (disch := first | assumption | omega | decide | exact byEq (enc_data _) | exact byEq (enc_cells_length _) | (refine byEq ?_; with_unfolding_all rfl)) only [w_same hO, eL, e1]; try cbv))
    (intro i k x hx; have hne := WFS.ne hw i k x hx; first | exact hx | (simp (disch := assumption) only [w_upd2_ne hO]; exact hx))
end Go.Pl.Z
