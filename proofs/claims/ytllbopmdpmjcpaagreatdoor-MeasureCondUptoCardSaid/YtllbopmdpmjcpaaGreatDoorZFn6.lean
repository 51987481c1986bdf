/- The condition that one position is below. -/
import Derived.Test.YtllbopmdpmjcpaaGreatDoorZFn5
set_option linter.unusedSimpArgs false
set_option linter.unusedVariables false
set_option linter.unusedSectionVars false
open Go Go.Pl Go.Proofs
namespace Go.Pl.Z
set_option maxRecDepth 100000

def kBits : List UInt8 := [98, 105, 116, 115]
def kSeq : List UInt8 := [115, 101, 113]
def kSet : List UInt8 := [115, 101, 116]
def kBag : List UInt8 := [98, 97, 103]
def kMap : List UInt8 := [109, 97, 112]
def kImap : List UInt8 := [105, 109, 97, 112]
def kFun : List UInt8 := [102, 117, 110]
def kMaybe : List UInt8 := [109, 97, 121, 98, 101]
def kInt : List UInt8 := [105, 110, 116]
def kBool : List UInt8 := [98, 111, 111, 108]

/-- The condition that b is below a, by the kind of a type, its text and its head. -/
def posV (k : Int) (t hd : List UInt8) (a b : V) : Option V :=
  if k = 1 then
    if t = kInt then some (callV [97, 110, 100] [callV [60] [b, a], callV [60, 61] [fmV 0 0 [] true [], a]])
    else if t = kBool then some (callV [97, 110, 100] [callV [110, 111, 116] [b], a])
    else some (callV [111, 114] [])
  else if hd = kBits then some (callV [60] [callV [98, 110, 117, 109] [b], callV [98, 110, 117, 109] [a]])
  else if hd = kSeq then some (callV [60] [callV [108, 101, 110] [b], callV [108, 101, 110] [a]])
  else if hd = kSet ∨ hd = kBag then some (properV a b)
  else if hd = kMap then some (properV (callV [107, 101, 121, 115] [a]) (callV [107, 101, 121, 115] [b]))
  else if hd = kImap ∨ hd = kFun ∨ hd = kMaybe then none
  else if hd = [] ∧ (k = 0 ∨ k = 2 ∨ k = 3) then none
  else some (callV [111, 114] [])

def pairV (z : V) : Option V → V
  | some r => .tup [r, .bool true]
  | none => .tup [z, .bool false]


theorem w44 (P : Program) (k m : Int) (t : List UInt8) (nl : Bool) (xs : List V) (hd : List UInt8) (ka ma : Int) (ta : List UInt8) (na : Bool) (xa : List V) (kb mb : Int) (tb : List UInt8) (nb : Bool) (xb : List V)
    (ha : ∀ p, V.refsBs p xa) (hb : ∀ p, V.refsBs p xb) (h45 : Makes P 45) (h80 : ∀ n S, Pl.Pure P 80 [.int .i64 n] S (fmV 0 n [] true []))
    (h79 : ∀ ka ma ta na xa kb mb tb nb xb, (∀ p, V.refsBs p xa) → (∀ p, V.refsBs p xb) → ∀ S, Pl.Pure P 79 [fmV ka ma ta na xa, fmV kb mb tb nb xb] S (properV (fmV ka ma ta na xa) (fmV kb mb tb nb xb)))
    (h28 : ∀ S, Pl.Pure P 28 [fmV k m t nl xs] S (.str hd)) :
    Walks P F44 [fmV k m t nl xs, fmV ka ma ta na xa, fmV kb mb tb nb xb] (pairV (fmV k m t nl xs) (posV k t hd (fmV ka ma ta na xa) (fmV kb mb tb nb xb))) := by
  intro H n b c O hO hw
  by_cases h1 : k = 1
  · by_cases h2 : t = kInt
    · have e : ∀ a b, posV k t hd a b = some (callV [97, 110, 100] [callV [60] [b, a], callV [60, 61] [fmV 0 0 [] true [], a]]) := fun a b => by simp [posV, h1, h2]
      rw [e]
      simp only [kInt] at h2
      (try cbv; repeat (simp (disch := first | assumption | omega | decide | exact byEq (enc_data _) | exact byEq (enc_cells_length _) | (refine byEq ?_; with_unfolding_all rfl)) only [w_same hO, w_ieq_t hO, w_seq_t hO, w_good2 hO]; try cbv))
      refine ⟨_, h45 _ _ _ (by simp) (by (intro p; simp only [callV, listV, wordV, fmV, V.refsB, V.refsBs, and_self, ha, hb])) _, ?_⟩
      (try cbv; repeat (simp (disch := first | assumption | omega | decide | exact byEq (enc_data _) | exact byEq (enc_cells_length _) | (refine byEq ?_; with_unfolding_all rfl)) only [w_same hO, w_good1 hO, w_good2 hO]; try cbv))
      refine ⟨_, h80 _ _, ?_⟩
      (try cbv; repeat (simp (disch := first | assumption | omega | decide | exact byEq (enc_data _) | exact byEq (enc_cells_length _) | (refine byEq ?_; with_unfolding_all rfl)) only [w_same hO, w_good1 hO, w_good2 hO]; try cbv))
      (repeat (first | (refine ⟨_, h45 _ _ _ (by simp) (by (intro p; simp only [callV, listV, wordV, fmV, V.refsB, V.refsBs, and_self, ha, hb])) _, ?_⟩; (try cbv; repeat (simp (disch := first | assumption | omega | decide | exact byEq (enc_data _) | exact byEq (enc_cells_length _) | (refine byEq ?_; with_unfolding_all rfl)) only [w_same hO, w_good1 hO, w_good2 hO]; try cbv))) | (refine Pure.go (h45 _ _ _ (by simp) (by (intro p; simp only [callV, listV, wordV, fmV, V.refsB, V.refsBs, and_self, ha, hb])) _) ?_; (try cbv; repeat (simp (disch := first | assumption | omega | decide | exact byEq (enc_data _) | exact byEq (enc_cells_length _) | (refine byEq ?_; with_unfolding_all rfl)) only [w_same hO, w_good1 hO, w_good2 hO]; try cbv)))))
      (intro i k x hx; have hne := WFS.ne hw i k x hx; first | exact hx | (simp (disch := assumption) only [w_upd2_ne hO]; exact hx))
    by_cases h3 : t = kBool
    · have e : ∀ a b, posV k t hd a b = some (callV [97, 110, 100] [callV [110, 111, 116] [b], a]) := fun a b => by simp [posV, h1, h3, kBool, kInt]
      rw [e]
      simp only [kBool] at h3
      subst h3
      (try cbv; repeat (simp (disch := first | assumption | omega | decide | exact byEq (enc_data _) | exact byEq (enc_cells_length _) | (refine byEq ?_; with_unfolding_all rfl)) only [w_same hO, w_ieq_t hO, w_seq_t hO, w_seq_f hO, w_good1 hO]; try cbv))
      (repeat (first | (refine ⟨_, h45 _ _ _ (by simp) (by (intro p; simp only [callV, listV, wordV, fmV, V.refsB, V.refsBs, and_self, ha, hb])) _, ?_⟩; (try cbv; repeat (simp (disch := first | assumption | omega | decide | exact byEq (enc_data _) | exact byEq (enc_cells_length _) | (refine byEq ?_; with_unfolding_all rfl)) only [w_same hO, w_good1 hO, w_good2 hO]; try cbv))) | (refine Pure.go (h45 _ _ _ (by simp) (by (intro p; simp only [callV, listV, wordV, fmV, V.refsB, V.refsBs, and_self, ha, hb])) _) ?_; (try cbv; repeat (simp (disch := first | assumption | omega | decide | exact byEq (enc_data _) | exact byEq (enc_cells_length _) | (refine byEq ?_; with_unfolding_all rfl)) only [w_same hO, w_good1 hO, w_good2 hO]; try cbv)))))
      (intro i k x hx; have hne := WFS.ne hw i k x hx; first | exact hx | (simp (disch := assumption) only [w_upd2_ne hO]; exact hx))
    · have e : ∀ a b, posV k t hd a b = some (callV [111, 114] []) := fun a b => by simp [posV, h1, h2, h3]
      rw [e]
      simp only [kBool, kInt] at h2 h3
      (try cbv; repeat (simp (disch := first | assumption | omega | decide | exact byEq (enc_data _) | exact byEq (enc_cells_length _) | (refine byEq ?_; with_unfolding_all rfl)) only [w_same hO, w_ieq_t hO, w_seq_t hO, w_seq_f hO, w_good1 hO]; try cbv))
      (repeat (first | (refine ⟨_, h45 _ _ _ (by simp) (by (intro p; simp only [callV, listV, wordV, fmV, V.refsB, V.refsBs, and_self, ha, hb])) _, ?_⟩; (try cbv; repeat (simp (disch := first | assumption | omega | decide | exact byEq (enc_data _) | exact byEq (enc_cells_length _) | (refine byEq ?_; with_unfolding_all rfl)) only [w_same hO, w_good1 hO, w_good2 hO]; try cbv))) | (refine Pure.go (h45 _ _ _ (by simp) (by (intro p; simp only [callV, listV, wordV, fmV, V.refsB, V.refsBs, and_self, ha, hb])) _) ?_; (try cbv; repeat (simp (disch := first | assumption | omega | decide | exact byEq (enc_data _) | exact byEq (enc_cells_length _) | (refine byEq ?_; with_unfolding_all rfl)) only [w_same hO, w_good1 hO, w_good2 hO]; try cbv)))))
      (intro i k x hx; have hne := WFS.ne hw i k x hx; first | exact hx | (simp (disch := assumption) only [w_upd2_ne hO]; exact hx))
  · generalize hv : pairV (fmV k m t nl xs) (posV k t hd (fmV ka ma ta na xa) (fmV kb mb tb nb xb)) = v
    (try cbv; repeat (simp (disch := first | assumption | omega | decide | exact byEq (enc_data _) | exact byEq (enc_cells_length _) | (refine byEq ?_; with_unfolding_all rfl)) only [w_same hO, w_ieq_f hO]; try cbv))
    refine Pure.go (h28 _) ?_
    by_cases c1 : hd = kBits
    · have e : ∀ a b, posV k t hd a b = some (callV [60] [callV [98, 110, 117, 109] [b], callV [98, 110, 117, 109] [a]]) := fun a b => by simp [posV, h1, c1]
      rw [e] at hv; subst hv
      simp only [kBits] at c1
      subst c1
      (try cbv; repeat (simp (disch := first | assumption | omega | decide | exact byEq (enc_data _) | exact byEq (enc_cells_length _) | (refine byEq ?_; with_unfolding_all rfl)) only [w_same hO, w_seq_t hO, w_seq_f hO, w_good1 hO]; try cbv))
      (repeat (first | (refine ⟨_, h45 _ _ _ (by simp) (by (intro p; simp only [callV, listV, wordV, fmV, V.refsB, V.refsBs, and_self, ha, hb])) _, ?_⟩; (try cbv; repeat (simp (disch := first | assumption | omega | decide | exact byEq (enc_data _) | exact byEq (enc_cells_length _) | (refine byEq ?_; with_unfolding_all rfl)) only [w_same hO, w_good1 hO, w_good2 hO]; try cbv))) | (refine Pure.go (h45 _ _ _ (by simp) (by (intro p; simp only [callV, listV, wordV, fmV, V.refsB, V.refsBs, and_self, ha, hb])) _) ?_; (try cbv; repeat (simp (disch := first | assumption | omega | decide | exact byEq (enc_data _) | exact byEq (enc_cells_length _) | (refine byEq ?_; with_unfolding_all rfl)) only [w_same hO, w_good1 hO, w_good2 hO]; try cbv)))))
      (intro i k x hx; have hne := WFS.ne hw i k x hx; first | exact hx | (simp (disch := assumption) only [w_upd2_ne hO]; exact hx))
    by_cases c2 : hd = kSeq
    · have e : ∀ a b, posV k t hd a b = some (callV [60] [callV [108, 101, 110] [b], callV [108, 101, 110] [a]]) := fun a b => by simp [posV, h1, c2, kSeq, kBits]
      rw [e] at hv; subst hv
      simp only [kSeq] at c2
      subst c2
      (try cbv; repeat (simp (disch := first | assumption | omega | decide | exact byEq (enc_data _) | exact byEq (enc_cells_length _) | (refine byEq ?_; with_unfolding_all rfl)) only [w_same hO, w_seq_t hO, w_seq_f hO, w_good1 hO]; try cbv))
      (repeat (first | (refine ⟨_, h45 _ _ _ (by simp) (by (intro p; simp only [callV, listV, wordV, fmV, V.refsB, V.refsBs, and_self, ha, hb])) _, ?_⟩; (try cbv; repeat (simp (disch := first | assumption | omega | decide | exact byEq (enc_data _) | exact byEq (enc_cells_length _) | (refine byEq ?_; with_unfolding_all rfl)) only [w_same hO, w_good1 hO, w_good2 hO]; try cbv))) | (refine Pure.go (h45 _ _ _ (by simp) (by (intro p; simp only [callV, listV, wordV, fmV, V.refsB, V.refsBs, and_self, ha, hb])) _) ?_; (try cbv; repeat (simp (disch := first | assumption | omega | decide | exact byEq (enc_data _) | exact byEq (enc_cells_length _) | (refine byEq ?_; with_unfolding_all rfl)) only [w_same hO, w_good1 hO, w_good2 hO]; try cbv)))))
      (intro i k x hx; have hne := WFS.ne hw i k x hx; first | exact hx | (simp (disch := assumption) only [w_upd2_ne hO]; exact hx))
    by_cases c3 : hd = kSet
    · have e : ∀ a b, posV k t hd a b = some (properV a b) := fun a b => by simp [posV, h1, c3, kSeq, kBits, kSet]
      rw [e] at hv; subst hv
      simp only [kSet] at c3
      subst c3
      (try cbv; repeat (simp (disch := first | assumption | omega | decide | exact byEq (enc_data _) | exact byEq (enc_cells_length _) | (refine byEq ?_; with_unfolding_all rfl)) only [w_same hO, w_seq_t hO, w_seq_f hO, w_good1 hO]; try cbv))
      refine Pure.go (h79 _ _ _ _ _ _ _ _ _ _ ha hb _) ?_
      (try cbv; repeat (simp (disch := first | assumption | omega | decide | exact byEq (enc_data _) | exact byEq (enc_cells_length _) | (refine byEq ?_; with_unfolding_all rfl)) only [w_same hO]; try cbv))
      (intro i k x hx; have hne := WFS.ne hw i k x hx; first | exact hx | (simp (disch := assumption) only [w_upd2_ne hO]; exact hx))
    by_cases c4 : hd = kBag
    · have e : ∀ a b, posV k t hd a b = some (properV a b) := fun a b => by simp [posV, h1, c4, kSeq, kBits, kBag]
      rw [e] at hv; subst hv
      simp only [kBag] at c4
      subst c4
      (try cbv; repeat (simp (disch := first | assumption | omega | decide | exact byEq (enc_data _) | exact byEq (enc_cells_length _) | (refine byEq ?_; with_unfolding_all rfl)) only [w_same hO, w_seq_t hO, w_seq_f hO, w_good1 hO]; try cbv))
      refine Pure.go (h79 _ _ _ _ _ _ _ _ _ _ ha hb _) ?_
      (try cbv; repeat (simp (disch := first | assumption | omega | decide | exact byEq (enc_data _) | exact byEq (enc_cells_length _) | (refine byEq ?_; with_unfolding_all rfl)) only [w_same hO]; try cbv))
      (intro i k x hx; have hne := WFS.ne hw i k x hx; first | exact hx | (simp (disch := assumption) only [w_upd2_ne hO]; exact hx))
    by_cases c5 : hd = kMap
    · have e : ∀ a b, posV k t hd a b = some (properV (callV [107, 101, 121, 115] [a]) (callV [107, 101, 121, 115] [b])) := fun a b => by simp [posV, h1, c5, kSeq, kBits, kBag, kSet, kMap]
      rw [e] at hv; subst hv
      simp only [kMap] at c5
      subst c5
      (try cbv; repeat (simp (disch := first | assumption | omega | decide | exact byEq (enc_data _) | exact byEq (enc_cells_length _) | (refine byEq ?_; with_unfolding_all rfl)) only [w_same hO, w_seq_t hO, w_seq_f hO, w_good1 hO]; try cbv))
      (repeat (first | (refine ⟨_, h45 _ _ _ (by simp) (by (intro p; simp only [callV, listV, wordV, fmV, V.refsB, V.refsBs, and_self, ha, hb])) _, ?_⟩; (try cbv; repeat (simp (disch := first | assumption | omega | decide | exact byEq (enc_data _) | exact byEq (enc_cells_length _) | (refine byEq ?_; with_unfolding_all rfl)) only [w_same hO, w_good1 hO, w_good2 hO]; try cbv))) | (refine Pure.go (h45 _ _ _ (by simp) (by (intro p; simp only [callV, listV, wordV, fmV, V.refsB, V.refsBs, and_self, ha, hb])) _) ?_; (try cbv; repeat (simp (disch := first | assumption | omega | decide | exact byEq (enc_data _) | exact byEq (enc_cells_length _) | (refine byEq ?_; with_unfolding_all rfl)) only [w_same hO, w_good1 hO, w_good2 hO]; try cbv)))))
      refine ⟨_, h79 _ _ _ _ _ _ _ _ _ _ (by (intro p; simp only [callV, listV, wordV, fmV, V.refsB, V.refsBs, and_self, ha])) (by (intro p; simp only [callV, listV, wordV, fmV, V.refsB, V.refsBs, and_self, hb])) _, ?_⟩
      (try cbv; repeat (simp (disch := first | assumption | omega | decide | exact byEq (enc_data _) | exact byEq (enc_cells_length _) | (refine byEq ?_; with_unfolding_all rfl)) only [w_same hO]; try cbv))
      (intro i k x hx; have hne := WFS.ne hw i k x hx; first | exact hx | (simp (disch := assumption) only [w_upd2_ne hO]; exact hx))
    have none1 : (hd = kImap ∨ hd = kFun ∨ hd = kMaybe) → ∀ a b, posV k t hd a b = none := fun h a b => by simp [posV, h1, c1, c2, c3, c4, c5, h]
    by_cases c6 : hd = kImap
    · rw [none1 (.inl c6)] at hv; subst hv
      simp only [kImap] at c6
      subst c6
      (try cbv; repeat (simp (disch := first | assumption | omega | decide | exact byEq (enc_data _) | exact byEq (enc_cells_length _) | (refine byEq ?_; with_unfolding_all rfl)) only [w_same hO, w_seq_t hO, w_seq_f hO]; try cbv))
      (intro i k x hx; have hne := WFS.ne hw i k x hx; first | exact hx | (simp (disch := assumption) only [w_upd2_ne hO]; exact hx))
    by_cases c7 : hd = kFun
    · rw [none1 (.inr (.inl c7))] at hv; subst hv
      simp only [kFun] at c7
      subst c7
      (try cbv; repeat (simp (disch := first | assumption | omega | decide | exact byEq (enc_data _) | exact byEq (enc_cells_length _) | (refine byEq ?_; with_unfolding_all rfl)) only [w_same hO, w_seq_t hO, w_seq_f hO]; try cbv))
      (intro i k x hx; have hne := WFS.ne hw i k x hx; first | exact hx | (simp (disch := assumption) only [w_upd2_ne hO]; exact hx))
    by_cases c8 : hd = kMaybe
    · rw [none1 (.inr (.inr c8))] at hv; subst hv
      simp only [kMaybe] at c8
      subst c8
      (try cbv; repeat (simp (disch := first | assumption | omega | decide | exact byEq (enc_data _) | exact byEq (enc_cells_length _) | (refine byEq ?_; with_unfolding_all rfl)) only [w_same hO, w_seq_t hO, w_seq_f hO]; try cbv))
      (intro i k x hx; have hne := WFS.ne hw i k x hx; first | exact hx | (simp (disch := assumption) only [w_upd2_ne hO]; exact hx))
    by_cases c9 : hd = []
    · by_cases d : k = 0 ∨ k = 2 ∨ k = 3
      · have e : ∀ a b, posV k t hd a b = none := fun a b => by simp [posV, h1, c9, d, kSeq, kBits, kBag, kSet, kMap]
        rw [e] at hv; subst hv
        subst c9
        rcases d with d | d | d
        · (try cbv; repeat (simp (disch := first | assumption | omega | decide | exact byEq (enc_data _) | exact byEq (enc_cells_length _) | (refine byEq ?_; with_unfolding_all rfl)) only [w_same hO, w_seq_t hO, w_seq_f hO, w_ieq_t hO, w_ieq_f hO]; try cbv))
          (intro i k x hx; have hne := WFS.ne hw i k x hx; first | exact hx | (simp (disch := assumption) only [w_upd2_ne hO]; exact hx))
        · (try cbv; repeat (simp (disch := first | assumption | omega | decide | exact byEq (enc_data _) | exact byEq (enc_cells_length _) | (refine byEq ?_; with_unfolding_all rfl)) only [w_same hO, w_seq_t hO, w_seq_f hO, w_ieq_t hO, w_ieq_f hO]; try cbv))
          (intro i k x hx; have hne := WFS.ne hw i k x hx; first | exact hx | (simp (disch := assumption) only [w_upd2_ne hO]; exact hx))
        · (try cbv; repeat (simp (disch := first | assumption | omega | decide | exact byEq (enc_data _) | exact byEq (enc_cells_length _) | (refine byEq ?_; with_unfolding_all rfl)) only [w_same hO, w_seq_t hO, w_seq_f hO, w_ieq_t hO, w_ieq_f hO]; try cbv))
          (intro i k x hx; have hne := WFS.ne hw i k x hx; first | exact hx | (simp (disch := assumption) only [w_upd2_ne hO]; exact hx))
      · have e : ∀ a b, posV k t hd a b = some (callV [111, 114] []) := fun a b => by simp [posV, h1, c9, d, kSeq, kBits, kBag, kSet, kMap, kImap, kFun, kMaybe]
        rw [e] at hv; subst hv
        simp only [not_or] at d
        obtain ⟨d1, d2, d3⟩ := d
        subst c9
        (try cbv; repeat (simp (disch := first | assumption | omega | decide | exact byEq (enc_data _) | exact byEq (enc_cells_length _) | (refine byEq ?_; with_unfolding_all rfl)) only [w_same hO, w_seq_t hO, w_seq_f hO, w_ieq_t hO, w_ieq_f hO]; try cbv))
        (repeat (first | (refine ⟨_, h45 _ _ _ (by simp) (by (intro p; simp only [callV, listV, wordV, fmV, V.refsB, V.refsBs, and_self, ha, hb])) _, ?_⟩; (try cbv; repeat (simp (disch := first | assumption | omega | decide | exact byEq (enc_data _) | exact byEq (enc_cells_length _) | (refine byEq ?_; with_unfolding_all rfl)) only [w_same hO, w_good1 hO, w_good2 hO]; try cbv))) | (refine Pure.go (h45 _ _ _ (by simp) (by (intro p; simp only [callV, listV, wordV, fmV, V.refsB, V.refsBs, and_self, ha, hb])) _) ?_; (try cbv; repeat (simp (disch := first | assumption | omega | decide | exact byEq (enc_data _) | exact byEq (enc_cells_length _) | (refine byEq ?_; with_unfolding_all rfl)) only [w_same hO, w_good1 hO, w_good2 hO]; try cbv)))))
        (intro i k x hx; have hne := WFS.ne hw i k x hx; first | exact hx | (simp (disch := assumption) only [w_upd2_ne hO]; exact hx))
    · have e : ∀ a b, posV k t hd a b = some (callV [111, 114] []) := fun a b => by simp [posV, h1, c1, c2, c3, c4, c5, c6, c7, c8, c9]
      rw [e] at hv; subst hv
      simp only [kSeq, kBits, kBag, kSet, kMap, kImap, kFun, kMaybe] at c1 c2 c3 c4 c5 c6 c7 c8
      (try cbv; repeat (simp (disch := first | assumption | omega | decide | exact byEq (enc_data _) | exact byEq (enc_cells_length _) | (refine byEq ?_; with_unfolding_all rfl)) only [w_same hO, w_seq_t hO, w_seq_f hO, w_ieq_t hO, w_ieq_f hO]; try cbv))
      (repeat (first | (refine ⟨_, h45 _ _ _ (by simp) (by (intro p; simp only [callV, listV, wordV, fmV, V.refsB, V.refsBs, and_self, ha, hb])) _, ?_⟩; (try cbv; repeat (simp (disch := first | assumption | omega | decide | exact byEq (enc_data _) | exact byEq (enc_cells_length _) | (refine byEq ?_; with_unfolding_all rfl)) only [w_same hO, w_good1 hO, w_good2 hO]; try cbv))) | (refine Pure.go (h45 _ _ _ (by simp) (by (intro p; simp only [callV, listV, wordV, fmV, V.refsB, V.refsBs, and_self, ha, hb])) _) ?_; (try cbv; repeat (simp (disch := first | assumption | omega | decide | exact byEq (enc_data _) | exact byEq (enc_cells_length _) | (refine byEq ?_; with_unfolding_all rfl)) only [w_same hO, w_good1 hO, w_good2 hO]; try cbv)))))
      (intro i k x hx; have hne := WFS.ne hw i k x hx; first | exact hx | (simp (disch := assumption) only [w_upd2_ne hO]; exact hx))
end Go.Pl.Z
