/- The reference's condition that one position is below. -/
import Derived.Test.YtllbopmdpmjcpaaGreatDoorZFn6
set_option linter.unusedSimpArgs false
set_option linter.unusedVariables false
set_option linter.unusedSectionVars false
open Go Go.Pl Go.Proofs
namespace Go.Pl.Z
set_option maxRecDepth 100000

def funImapMaybe : List UInt8 := [102, 117, 110, 32, 105, 109, 97, 112, 32, 109, 97, 121, 98, 101]

theorem w23 (P : Program) (k m : Int) (t : List UInt8) (nl : Bool) (xs : List V) (hd : List UInt8) (ka ma : Int) (ta : List UInt8) (na : Bool) (xa : List V) (kb mb : Int) (tb : List UInt8) (nb : Bool) (xb : List V)
    (ha : ∀ p, V.refsBs p xa) (hb : ∀ p, V.refsBs p xb) (hhd : k ≠ 3 → hd = []) (h24 : Makes P 24) (h21 : ∀ n S, Pl.Pure P 21 [.int .i64 n] S (fmV 0 n [] true []))
    (h36 : ∀ S, Pl.Pure P 36 [fmV k m t nl xs] S (.str hd))
    (h38a : ∀ s S, Pl.Pure P 38 [.str s, .str setBag] S (.bool (decide (s = kSet ∨ s = kBag))))
    (h38b : ∀ s S, Pl.Pure P 38 [.str s, .str funImapMaybe] S (.bool (decide (s = kImap ∨ s = kFun ∨ s = kMaybe))))
    (h23 : hd = kMap → ∀ S, Pl.Pure P 23 [callV kSet [], callV [107, 101, 121, 115] [fmV ka ma ta na xa], callV [107, 101, 121, 115] [fmV kb mb tb nb xb]] S
      (.tup [properV (callV [107, 101, 121, 115] [fmV ka ma ta na xa]) (callV [107, 101, 121, 115] [fmV kb mb tb nb xb]), .bool true])) :
    Walks P F23 [fmV k m t nl xs, fmV ka ma ta na xa, fmV kb mb tb nb xb] (pairV (fmV 0 0 [] true []) (posV k t hd (fmV ka ma ta na xa) (fmV kb mb tb nb xb))) := by
  intro H n b c O hO hw
  generalize hv : pairV (fmV 0 0 [] true []) (posV k t hd (fmV ka ma ta na xa) (fmV kb mb tb nb xb)) = v
  have h38a' := h38a hd
  have h38b' := h38b hd
  clear h38a h38b
  (try cbv; repeat (simp (disch := first | assumption | omega | decide | exact byEq (enc_data _) | exact byEq (enc_cells_length _) | (refine byEq ?_; with_unfolding_all rfl)) only [w_same hO]; try cbv))
  refine Pure.go (h36 _) ?_
  by_cases h1 : k = 1
  · have hh : hd = [] := hhd (by omega)
    subst hh
    subst h1
    by_cases h2 : t = kInt
    · have e : ∀ a b, posV 1 t [] a b = some (callV [97, 110, 100] [callV [60] [b, a], callV [60, 61] [fmV 0 0 [] true [], a]]) := fun a b => by simp [posV, h2]
      rw [e] at hv; subst hv
      simp only [kInt] at h2
      subst h2
      (try cbv; repeat (simp (disch := first | assumption | omega | decide | exact byEq (enc_data _) | exact byEq (enc_cells_length _) | (refine byEq ?_; with_unfolding_all rfl)) only [w_same hO, w_ieq_t hO, w_seq_t hO, w_good2 hO]; try cbv))
      refine ⟨_, h24 _ _ _ (by simp) (by (intro p; simp only [callV, listV, wordV, fmV, V.refsB, V.refsBs, and_self, ha, hb])) _, ?_⟩
      (try cbv; repeat (simp (disch := first | assumption | omega | decide | exact byEq (enc_data _) | exact byEq (enc_cells_length _) | (refine byEq ?_; with_unfolding_all rfl)) only [w_same hO, w_good1 hO, w_good2 hO]; try cbv))
      refine ⟨_, h21 _ _, ?_⟩
      (try cbv; repeat (simp (disch := first | assumption | omega | decide | exact byEq (enc_data _) | exact byEq (enc_cells_length _) | (refine byEq ?_; with_unfolding_all rfl)) only [w_same hO, w_good1 hO, w_good2 hO]; try cbv))
      (repeat (first | (refine ⟨_, h24 _ _ _ (by simp) (by (intro p; simp only [callV, listV, wordV, fmV, V.refsB, V.refsBs, and_self, ha, hb])) _, ?_⟩; (try cbv; repeat (simp (disch := first | assumption | omega | decide | exact byEq (enc_data _) | exact byEq (enc_cells_length _) | (refine byEq ?_; with_unfolding_all rfl)) only [w_same hO, w_good1 hO, w_good2 hO]; try cbv))) | (refine Pure.go (h24 _ _ _ (by simp) (by (intro p; simp only [callV, listV, wordV, fmV, V.refsB, V.refsBs, and_self, ha, hb])) _) ?_; (try cbv; repeat (simp (disch := first | assumption | omega | decide | exact byEq (enc_data _) | exact byEq (enc_cells_length _) | (refine byEq ?_; with_unfolding_all rfl)) only [w_same hO, w_good1 hO, w_good2 hO]; try cbv)))))
      (intro i k x hx; have hne := WFS.ne hw i k x hx; first | exact hx | (simp (disch := assumption) only [w_upd2_ne hO]; exact hx))
    by_cases h3 : t = kBool
    · have e : ∀ a b, posV 1 t [] a b = some (callV [97, 110, 100] [callV [110, 111, 116] [b], a]) := fun a b => by simp [posV, h3, kBool, kInt]
      rw [e] at hv; subst hv
      simp only [kBool] at h3
      subst h3
      (try cbv; repeat (simp (disch := first | assumption | omega | decide | exact byEq (enc_data _) | exact byEq (enc_cells_length _) | (refine byEq ?_; with_unfolding_all rfl)) only [w_same hO, w_ieq_t hO, w_seq_t hO, w_seq_f hO, w_good1 hO]; try cbv))
      (repeat (first | (refine ⟨_, h24 _ _ _ (by simp) (by (intro p; simp only [callV, listV, wordV, fmV, V.refsB, V.refsBs, and_self, ha, hb])) _, ?_⟩; (try cbv; repeat (simp (disch := first | assumption | omega | decide | exact byEq (enc_data _) | exact byEq (enc_cells_length _) | (refine byEq ?_; with_unfolding_all rfl)) only [w_same hO, w_good1 hO, w_good2 hO]; try cbv))) | (refine Pure.go (h24 _ _ _ (by simp) (by (intro p; simp only [callV, listV, wordV, fmV, V.refsB, V.refsBs, and_self, ha, hb])) _) ?_; (try cbv; repeat (simp (disch := first | assumption | omega | decide | exact byEq (enc_data _) | exact byEq (enc_cells_length _) | (refine byEq ?_; with_unfolding_all rfl)) only [w_same hO, w_good1 hO, w_good2 hO]; try cbv)))))
      (intro i k x hx; have hne := WFS.ne hw i k x hx; first | exact hx | (simp (disch := assumption) only [w_upd2_ne hO]; exact hx))
    · have e : ∀ a b, posV 1 t [] a b = some (callV [111, 114] []) := fun a b => by simp [posV, h2, h3]
      rw [e] at hv; subst hv
      simp only [kBool, kInt] at h2 h3
      have i1 : decide (([] : List UInt8) = kSet ∨ ([] : List UInt8) = kBag) = false := by decide
      have i2 : decide (([] : List UInt8) = kImap ∨ ([] : List UInt8) = kFun ∨ ([] : List UInt8) = kMaybe) = false := by decide
      rw [i1] at h38a'; rw [i2] at h38b'
      (try cbv; repeat (simp (disch := first | assumption | omega | decide | exact byEq (enc_data _) | exact byEq (enc_cells_length _) | (refine byEq ?_; with_unfolding_all rfl)) only [w_same hO, w_ieq_t hO, w_seq_t hO, w_seq_f hO, w_good1 hO]; try cbv))
      refine Pure.go (h38a' _) ?_
      (try cbv; repeat (simp (disch := first | assumption | omega | decide | exact byEq (enc_data _) | exact byEq (enc_cells_length _) | (refine byEq ?_; with_unfolding_all rfl)) only [w_same hO, w_ieq_t hO, w_ieq_f hO, w_seq_t hO, w_seq_f hO, w_good1 hO]; try cbv))
      refine Pure.go (h38b' _) ?_
      (try cbv; repeat (simp (disch := first | assumption | omega | decide | exact byEq (enc_data _) | exact byEq (enc_cells_length _) | (refine byEq ?_; with_unfolding_all rfl)) only [w_same hO, w_ieq_t hO, w_ieq_f hO, w_seq_t hO, w_seq_f hO, w_good1 hO]; try cbv))
      (repeat (first | (refine ⟨_, h24 _ _ _ (by simp) (by (intro p; simp only [callV, listV, wordV, fmV, V.refsB, V.refsBs, and_self, ha, hb])) _, ?_⟩; (try cbv; repeat (simp (disch := first | assumption | omega | decide | exact byEq (enc_data _) | exact byEq (enc_cells_length _) | (refine byEq ?_; with_unfolding_all rfl)) only [w_same hO, w_good1 hO, w_good2 hO]; try cbv))) | (refine Pure.go (h24 _ _ _ (by simp) (by (intro p; simp only [callV, listV, wordV, fmV, V.refsB, V.refsBs, and_self, ha, hb])) _) ?_; (try cbv; repeat (simp (disch := first | assumption | omega | decide | exact byEq (enc_data _) | exact byEq (enc_cells_length _) | (refine byEq ?_; with_unfolding_all rfl)) only [w_same hO, w_good1 hO, w_good2 hO]; try cbv)))))
      (intro i k x hx; have hne := WFS.ne hw i k x hx; first | exact hx | (simp (disch := assumption) only [w_upd2_ne hO]; exact hx))
  · by_cases c1 : hd = kBits
    · have e : ∀ a b, posV k t hd a b = some (callV [60] [callV [98, 110, 117, 109] [b], callV [98, 110, 117, 109] [a]]) := fun a b => by simp [posV, h1, c1]
      rw [e] at hv; subst hv
      simp only [kBits] at c1
      subst c1
      (try cbv; repeat (simp (disch := first | assumption | omega | decide | exact byEq (enc_data _) | exact byEq (enc_cells_length _) | (refine byEq ?_; with_unfolding_all rfl)) only [w_same hO, w_ieq_f hO, w_seq_t hO, w_seq_f hO, w_good1 hO]; try cbv))
      (repeat (first | (refine ⟨_, h24 _ _ _ (by simp) (by (intro p; simp only [callV, listV, wordV, fmV, V.refsB, V.refsBs, and_self, ha, hb])) _, ?_⟩; (try cbv; repeat (simp (disch := first | assumption | omega | decide | exact byEq (enc_data _) | exact byEq (enc_cells_length _) | (refine byEq ?_; with_unfolding_all rfl)) only [w_same hO, w_good1 hO, w_good2 hO]; try cbv))) | (refine Pure.go (h24 _ _ _ (by simp) (by (intro p; simp only [callV, listV, wordV, fmV, V.refsB, V.refsBs, and_self, ha, hb])) _) ?_; (try cbv; repeat (simp (disch := first | assumption | omega | decide | exact byEq (enc_data _) | exact byEq (enc_cells_length _) | (refine byEq ?_; with_unfolding_all rfl)) only [w_same hO, w_good1 hO, w_good2 hO]; try cbv)))))
      (intro i k x hx; have hne := WFS.ne hw i k x hx; first | exact hx | (simp (disch := assumption) only [w_upd2_ne hO]; exact hx))
    by_cases c2 : hd = kSeq
    · have e : ∀ a b, posV k t hd a b = some (callV [60] [callV [108, 101, 110] [b], callV [108, 101, 110] [a]]) := fun a b => by simp [posV, h1, c2, kSeq, kBits]
      rw [e] at hv; subst hv
      simp only [kSeq] at c2
      subst c2
      (try cbv; repeat (simp (disch := first | assumption | omega | decide | exact byEq (enc_data _) | exact byEq (enc_cells_length _) | (refine byEq ?_; with_unfolding_all rfl)) only [w_same hO, w_ieq_f hO, w_seq_t hO, w_seq_f hO, w_good1 hO]; try cbv))
      (repeat (first | (refine ⟨_, h24 _ _ _ (by simp) (by (intro p; simp only [callV, listV, wordV, fmV, V.refsB, V.refsBs, and_self, ha, hb])) _, ?_⟩; (try cbv; repeat (simp (disch := first | assumption | omega | decide | exact byEq (enc_data _) | exact byEq (enc_cells_length _) | (refine byEq ?_; with_unfolding_all rfl)) only [w_same hO, w_good1 hO, w_good2 hO]; try cbv))) | (refine Pure.go (h24 _ _ _ (by simp) (by (intro p; simp only [callV, listV, wordV, fmV, V.refsB, V.refsBs, and_self, ha, hb])) _) ?_; (try cbv; repeat (simp (disch := first | assumption | omega | decide | exact byEq (enc_data _) | exact byEq (enc_cells_length _) | (refine byEq ?_; with_unfolding_all rfl)) only [w_same hO, w_good1 hO, w_good2 hO]; try cbv)))))
      (intro i k x hx; have hne := WFS.ne hw i k x hx; first | exact hx | (simp (disch := assumption) only [w_upd2_ne hO]; exact hx))
    by_cases c3 : hd = kSet ∨ hd = kBag
    · have e : ∀ a b, posV k t hd a b = some (properV a b) := fun a b => by
        have q1 : hd ≠ kBits := c1
        have q2 : hd ≠ kSeq := c2
        simp [posV, h1, c3, q1, q2]
      rw [e] at hv; subst hv
      have i1 : decide (hd = kSet ∨ hd = kBag) = true := by simp [c3]
      rw [i1] at h38a'
      simp only [kBits, kSeq] at c1 c2
      (try cbv; repeat (simp (disch := first | assumption | omega | decide | exact byEq (enc_data _) | exact byEq (enc_cells_length _) | (refine byEq ?_; with_unfolding_all rfl)) only [w_same hO, w_ieq_f hO, w_seq_t hO, w_seq_f hO, w_good1 hO]; try cbv))
      refine Pure.go (h38a' _) ?_
      (try cbv; repeat (simp (disch := first | assumption | omega | decide | exact byEq (enc_data _) | exact byEq (enc_cells_length _) | (refine byEq ?_; with_unfolding_all rfl)) only [w_same hO, w_good2 hO]; try cbv))
      (repeat (first | (refine ⟨_, h24 _ _ _ (by simp) (by (intro p; simp only [callV, listV, wordV, fmV, V.refsB, V.refsBs, and_self, ha, hb])) _, ?_⟩; (try cbv; repeat (simp (disch := first | assumption | omega | decide | exact byEq (enc_data _) | exact byEq (enc_cells_length _) | (refine byEq ?_; with_unfolding_all rfl)) only [w_same hO, w_good1 hO, w_good2 hO]; try cbv))) | (refine Pure.go (h24 _ _ _ (by simp) (by (intro p; simp only [callV, listV, wordV, fmV, V.refsB, V.refsBs, and_self, ha, hb])) _) ?_; (try cbv; repeat (simp (disch := first | assumption | omega | decide | exact byEq (enc_data _) | exact byEq (enc_cells_length _) | (refine byEq ?_; with_unfolding_all rfl)) only [w_same hO, w_good1 hO, w_good2 hO]; try cbv)))))
      (intro i k x hx; have hne := WFS.ne hw i k x hx; first | exact hx | (simp (disch := assumption) only [w_upd2_ne hO]; exact hx))
    have i1 : decide (hd = kSet ∨ hd = kBag) = false := by simpa using c3
    rw [i1] at h38a'
    by_cases c5 : hd = kMap
    · have e : ∀ a b, posV k t hd a b = some (properV (callV [107, 101, 121, 115] [a]) (callV [107, 101, 121, 115] [b])) := fun a b => by
        simp [posV, h1, c5, kSeq, kBits, kBag, kSet, kMap]
      rw [e] at hv; subst hv
      have h23' := h23 c5
      simp only [kMap] at c5
      subst c5
      (try cbv; repeat (simp (disch := first | assumption | omega | decide | exact byEq (enc_data _) | exact byEq (enc_cells_length _) | (refine byEq ?_; with_unfolding_all rfl)) only [w_same hO, w_ieq_f hO, w_seq_t hO, w_seq_f hO, w_good1 hO]; try cbv))
      refine Pure.go (h38a' _) ?_
      (try cbv; repeat (simp (disch := first | assumption | omega | decide | exact byEq (enc_data _) | exact byEq (enc_cells_length _) | (refine byEq ?_; with_unfolding_all rfl)) only [w_same hO, w_seq_t hO]; try cbv))
      refine ⟨_, h24 _ _ _ (by simp) (by (intro p; simp only [callV, listV, wordV, fmV, V.refsB, V.refsBs, and_self])) _, ?_⟩
      (try cbv; repeat (simp (disch := first | assumption | omega | decide | exact byEq (enc_data _) | exact byEq (enc_cells_length _) | (refine byEq ?_; with_unfolding_all rfl)) only [w_same hO, w_good1 hO]; try cbv))
      (repeat (first | (refine ⟨_, h24 _ _ _ (by simp) (by (intro p; simp only [callV, listV, wordV, fmV, V.refsB, V.refsBs, and_self, ha, hb])) _, ?_⟩; (try cbv; repeat (simp (disch := first | assumption | omega | decide | exact byEq (enc_data _) | exact byEq (enc_cells_length _) | (refine byEq ?_; with_unfolding_all rfl)) only [w_same hO, w_good1 hO, w_good2 hO]; try cbv))) | (refine Pure.go (h24 _ _ _ (by simp) (by (intro p; simp only [callV, listV, wordV, fmV, V.refsB, V.refsBs, and_self, ha, hb])) _) ?_; (try cbv; repeat (simp (disch := first | assumption | omega | decide | exact byEq (enc_data _) | exact byEq (enc_cells_length _) | (refine byEq ?_; with_unfolding_all rfl)) only [w_same hO, w_good1 hO, w_good2 hO]; try cbv)))))
      refine ⟨_, h23' _, ?_⟩
      (try cbv; repeat (simp (disch := first | assumption | omega | decide | exact byEq (enc_data _) | exact byEq (enc_cells_length _) | (refine byEq ?_; with_unfolding_all rfl)) only [w_same hO]; try cbv))
      (intro i k x hx; have hne := WFS.ne hw i k x hx; first | exact hx | (simp (disch := assumption) only [w_upd2_ne hO]; exact hx))
    by_cases c6 : hd = kImap ∨ hd = kFun ∨ hd = kMaybe
    · have e : ∀ a b, posV k t hd a b = none := fun a b => by
        have q1 : ¬ (hd = kSet ∨ hd = kBag) := c3
        simp [posV, h1, c1, c2, q1, c5, c6]
      rw [e] at hv; subst hv
      have hk : k = 3 := by
        rcases Int.lt_trichotomy k 3 with h | h | h
        · have := hhd (by omega); subst this; exact absurd c6 (by decide)
        · exact h
        · have := hhd (by omega); subst this; exact absurd c6 (by decide)
      subst hk
      have i2 : decide (hd = kImap ∨ hd = kFun ∨ hd = kMaybe) = true := by simp [c6]
      rw [i2] at h38b'
      simp only [kBits, kSeq, kMap] at c1 c2 c5
      (try cbv; repeat (simp (disch := first | assumption | omega | decide | exact byEq (enc_data _) | exact byEq (enc_cells_length _) | (refine byEq ?_; with_unfolding_all rfl)) only [w_same hO, w_ieq_f hO, w_seq_t hO, w_seq_f hO, w_good1 hO]; try cbv))
      refine Pure.go (h38a' _) ?_
      (try cbv; repeat (simp (disch := first | assumption | omega | decide | exact byEq (enc_data _) | exact byEq (enc_cells_length _) | (refine byEq ?_; with_unfolding_all rfl)) only [w_same hO, w_ieq_t hO, w_ieq_f hO, w_seq_t hO, w_seq_f hO]; try cbv))
      refine Pure.go (h38b' _) ?_
      (try cbv; repeat (simp (disch := first | assumption | omega | decide | exact byEq (enc_data _) | exact byEq (enc_cells_length _) | (refine byEq ?_; with_unfolding_all rfl)) only [w_same hO, w_ieq_t hO, w_ieq_f hO, w_seq_t hO, w_seq_f hO]; try cbv))
      (intro i k x hx; have hne := WFS.ne hw i k x hx; first | exact hx | (simp (disch := assumption) only [w_upd2_ne hO]; exact hx))
    have i2 : decide (hd = kImap ∨ hd = kFun ∨ hd = kMaybe) = false := by simpa using c6
    rw [i2] at h38b'
    by_cases d0 : k = 0 ∨ k = 2
    · have hh : hd = [] := hhd (by omega)
      subst hh
      have e : ∀ a b, posV k t [] a b = none := fun a b => by
        have : k = 0 ∨ k = 2 ∨ k = 3 := by omega
        simp [posV, h1, this, kSeq, kBits, kBag, kSet, kMap]
      rw [e] at hv; subst hv
      rcases d0 with d0 | d0
      · subst d0
        (try cbv; repeat (simp (disch := first | assumption | omega | decide | exact byEq (enc_data _) | exact byEq (enc_cells_length _) | (refine byEq ?_; with_unfolding_all rfl)) only [w_same hO, w_ieq_f hO, w_seq_t hO, w_seq_f hO, w_good1 hO]; try cbv))
        refine Pure.go (h38a' _) ?_
        (try cbv; repeat (simp (disch := first | assumption | omega | decide | exact byEq (enc_data _) | exact byEq (enc_cells_length _) | (refine byEq ?_; with_unfolding_all rfl)) only [w_same hO, w_ieq_t hO, w_ieq_f hO, w_seq_t hO, w_seq_f hO]; try cbv))
        (intro i k x hx; have hne := WFS.ne hw i k x hx; first | exact hx | (simp (disch := assumption) only [w_upd2_ne hO]; exact hx))
      · subst d0
        (try cbv; repeat (simp (disch := first | assumption | omega | decide | exact byEq (enc_data _) | exact byEq (enc_cells_length _) | (refine byEq ?_; with_unfolding_all rfl)) only [w_same hO, w_ieq_f hO, w_seq_t hO, w_seq_f hO, w_good1 hO]; try cbv))
        refine Pure.go (h38a' _) ?_
        (try cbv; repeat (simp (disch := first | assumption | omega | decide | exact byEq (enc_data _) | exact byEq (enc_cells_length _) | (refine byEq ?_; with_unfolding_all rfl)) only [w_same hO, w_ieq_t hO, w_ieq_f hO, w_seq_t hO, w_seq_f hO]; try cbv))
        (intro i k x hx; have hne := WFS.ne hw i k x hx; first | exact hx | (simp (disch := assumption) only [w_upd2_ne hO]; exact hx))
    · simp only [not_or] at d0
      obtain ⟨d1, d2⟩ := d0
      by_cases d3 : k = 3
      · subst d3
        by_cases c9 : hd = []
        · subst c9
          have e : ∀ a b, posV 3 t [] a b = none := fun a b => by simp [posV, kSeq, kBits, kBag, kSet, kMap]
          rw [e] at hv; subst hv
          (try cbv; repeat (simp (disch := first | assumption | omega | decide | exact byEq (enc_data _) | exact byEq (enc_cells_length _) | (refine byEq ?_; with_unfolding_all rfl)) only [w_same hO, w_ieq_f hO, w_seq_t hO, w_seq_f hO, w_good1 hO]; try cbv))
          refine Pure.go (h38a' _) ?_
          (try cbv; repeat (simp (disch := first | assumption | omega | decide | exact byEq (enc_data _) | exact byEq (enc_cells_length _) | (refine byEq ?_; with_unfolding_all rfl)) only [w_same hO, w_ieq_t hO, w_ieq_f hO, w_seq_t hO, w_seq_f hO]; try cbv))
          refine Pure.go (h38b' _) ?_
          (try cbv; repeat (simp (disch := first | assumption | omega | decide | exact byEq (enc_data _) | exact byEq (enc_cells_length _) | (refine byEq ?_; with_unfolding_all rfl)) only [w_same hO, w_ieq_t hO, w_ieq_f hO, w_seq_t hO, w_seq_f hO]; try cbv))
          (intro i k x hx; have hne := WFS.ne hw i k x hx; first | exact hx | (simp (disch := assumption) only [w_upd2_ne hO]; exact hx))
        · have e : ∀ a b, posV 3 t hd a b = some (callV [111, 114] []) := fun a b => by
            have q1 : ¬ (hd = kSet ∨ hd = kBag) := c3
            have q2 : ¬ (hd = kImap ∨ hd = kFun ∨ hd = kMaybe) := c6
            simp [posV, c1, c2, q1, c5, q2, c9]
          rw [e] at hv; subst hv
          simp only [kBits, kSeq, kMap] at c1 c2 c5
          (try cbv; repeat (simp (disch := first | assumption | omega | decide | exact byEq (enc_data _) | exact byEq (enc_cells_length _) | (refine byEq ?_; with_unfolding_all rfl)) only [w_same hO, w_ieq_f hO, w_seq_t hO, w_seq_f hO, w_good1 hO]; try cbv))
          refine Pure.go (h38a' _) ?_
          (try cbv; repeat (simp (disch := first | assumption | omega | decide | exact byEq (enc_data _) | exact byEq (enc_cells_length _) | (refine byEq ?_; with_unfolding_all rfl)) only [w_same hO, w_ieq_t hO, w_ieq_f hO, w_seq_t hO, w_seq_f hO]; try cbv))
          refine Pure.go (h38b' _) ?_
          (try cbv; repeat (simp (disch := first | assumption | omega | decide | exact byEq (enc_data _) | exact byEq (enc_cells_length _) | (refine byEq ?_; with_unfolding_all rfl)) only [w_same hO, w_ieq_t hO, w_ieq_f hO, w_seq_t hO, w_seq_f hO]; try cbv))
          (repeat (first | (refine ⟨_, h24 _ _ _ (by simp) (by (intro p; simp only [callV, listV, wordV, fmV, V.refsB, V.refsBs, and_self, ha, hb])) _, ?_⟩; (try cbv; repeat (simp (disch := first | assumption | omega | decide | exact byEq (enc_data _) | exact byEq (enc_cells_length _) | (refine byEq ?_; with_unfolding_all rfl)) only [w_same hO, w_good1 hO, w_good2 hO]; try cbv))) | (refine Pure.go (h24 _ _ _ (by simp) (by (intro p; simp only [callV, listV, wordV, fmV, V.refsB, V.refsBs, and_self, ha, hb])) _) ?_; (try cbv; repeat (simp (disch := first | assumption | omega | decide | exact byEq (enc_data _) | exact byEq (enc_cells_length _) | (refine byEq ?_; with_unfolding_all rfl)) only [w_same hO, w_good1 hO, w_good2 hO]; try cbv)))))
          (intro i k x hx; have hne := WFS.ne hw i k x hx; first | exact hx | (simp (disch := assumption) only [w_upd2_ne hO]; exact hx))
      · have hh : hd = [] := hhd d3
        subst hh
        have e : ∀ a b, posV k t [] a b = some (callV [111, 114] []) := fun a b => by simp [posV, h1, d1, d2, d3, kSeq, kBits, kBag, kSet, kMap, kImap, kFun, kMaybe]
        rw [e] at hv; subst hv
        (try cbv; repeat (simp (disch := first | assumption | omega | decide | exact byEq (enc_data _) | exact byEq (enc_cells_length _) | (refine byEq ?_; with_unfolding_all rfl)) only [w_same hO, w_ieq_f hO, w_seq_t hO, w_seq_f hO, w_good1 hO]; try cbv))
        refine Pure.go (h38a' _) ?_
        (try cbv; repeat (simp (disch := first | assumption | omega | decide | exact byEq (enc_data _) | exact byEq (enc_cells_length _) | (refine byEq ?_; with_unfolding_all rfl)) only [w_same hO, w_ieq_t hO, w_ieq_f hO, w_seq_t hO, w_seq_f hO]; try cbv))
        refine Pure.go (h38b' _) ?_
        (try cbv; repeat (simp (disch := first | assumption | omega | decide | exact byEq (enc_data _) | exact byEq (enc_cells_length _) | (refine byEq ?_; with_unfolding_all rfl)) only [w_same hO, w_ieq_t hO, w_ieq_f hO, w_seq_t hO, w_seq_f hO]; try cbv))
        (repeat (first | (refine ⟨_, h24 _ _ _ (by simp) (by (intro p; simp only [callV, listV, wordV, fmV, V.refsB, V.refsBs, and_self, ha, hb])) _, ?_⟩; (try cbv; repeat (simp (disch := first | assumption | omega | decide | exact byEq (enc_data _) | exact byEq (enc_cells_length _) | (refine byEq ?_; with_unfolding_all rfl)) only [w_same hO, w_good1 hO, w_good2 hO]; try cbv))) | (refine Pure.go (h24 _ _ _ (by simp) (by (intro p; simp only [callV, listV, wordV, fmV, V.refsB, V.refsBs, and_self, ha, hb])) _) ?_; (try cbv; repeat (simp (disch := first | assumption | omega | decide | exact byEq (enc_data _) | exact byEq (enc_cells_length _) | (refine byEq ?_; with_unfolding_all rfl)) only [w_same hO, w_good1 hO, w_good2 hO]; try cbv)))))
        (intro i k x hx; have hne := WFS.ne hw i k x hx; first | exact hx | (simp (disch := assumption) only [w_upd2_ne hO]; exact hx))
end Go.Pl.Z
