/- Loops, told by rows of temporaries. -/
import Derived.Test.YtllbopmdpmjcpaaGreatDoorPlWalk
set_option linter.unusedSimpArgs false
set_option linter.unusedVariables false
set_option linter.unusedSectionVars false
namespace Go.Pl

/-- A frame of which these temporaries are known. -/
def tabF : List (Nat × V) → Nat → V
  | [], _ => .any
  | (k, v) :: r, t => if t = k then v else tabF r t

/-- Boxes laid one behind another. -/
def updL (O : Ops) (n : Nat) : List V → Nat → (Nat → Nat → Option V) → (Nat → Nat → Option V)
  | [], _, H => H
  | v :: r, c, H => updL O n r (c + 1) (upd2 O H n c v)

/-- The row tells what is in the frame, and names no box that is dropped. -/
def tabOk (σ : Nat → V) (p : Nat → Nat → Bool) : List (Nat × V) → Prop
  | [] => True
  | (k, v) :: r => (v = σ k ∨ v = (σ k).plain) ∧ v.refsB p ∧ tabOk σ p r

theorem tabF_ok {σ : Nat → V} {p : Nat → Nat → Bool} : ∀ {l : List (Nat × V)}, tabOk σ p l → ∀ t, (tabF l t = σ t ∨ tabF l t = .any ∨ tabF l t = (σ t).plain) ∧ (tabF l t).refsB p
  | [], _, t => ⟨.inr (.inl rfl), by simp only [tabF, V.refsB]⟩
  | (k, v) :: r, h, t => by
    simp only [tabF]
    by_cases e : t = k
    · rw [if_pos e]
      subst e
      exact ⟨h.1.elim .inl fun h => .inr (.inr h), h.2.1⟩
    · rw [if_neg e]; exact tabF_ok h.2.2 t

theorem updL_eq {O : Ops} (hO : O = Ops.std) {n : Nat} : ∀ (l : List V) (c : Nat) (H : Nat → Nat → Option V) (i k : Nat), ¬ (i = n ∧ c ≤ k) → updL O n l c H i k = H i k
  | [], _, _, _, _, _ => rfl
  | v :: r, c, H, i, k, h => by
    simp only [updL]
    rw [updL_eq hO r (c + 1) _ i k (by rintro ⟨a, b⟩; exact h ⟨a, by omega⟩), upd2_eq hO, if_neg (by rintro ⟨a, b⟩; exact h ⟨a, by omega⟩)]

/-- What the boxes of the frame hold names no box that is not there. -/
def boxesOk (p : Nat → Nat → Bool) : List V → Prop
  | [] => True
  | v :: r => v.refsB p ∧ boxesOk p r

/-- The frame's own boxes, behind those that were there. -/
def frameS (H : Nat → Nat → Option V) (n : Nat) (O : Ops) (hO : O = Ops.std) (l : List V) : St := ⟨updL O n l 0 H, n + 1, n, l.length, O, hO⟩

theorem updL_get {O : Ops} (hO : O = Ops.std) {n : Nat} {p : Nat → Nat → Bool} : ∀ (l : List V) (c : Nat) (H : Nat → Nat → Option V), boxesOk p l → ∀ (i k : Nat) (x : V), updL O n l c H i k = some x →
    (i = n ∧ c ≤ k ∧ k < c + l.length ∧ x.refsB p) ∨ H i k = some x
  | [], _, H, _, i, k, x, h => .inr h
  | v :: r, c, H, hb, i, k, x, h => by
    simp only [updL] at h
    rcases updL_get hO r (c + 1) _ hb.2 i k x h with ⟨h1, h2, h3, h4⟩ | h'
    · exact .inl ⟨h1, by omega, by simp only [List.length_cons]; omega, h4⟩
    · rw [upd2_eq hO] at h'
      split at h'
      · rename_i e
        cases h'
        exact .inl ⟨e.1, by omega, by simp only [List.length_cons]; omega, hb.1⟩
      · exact .inr h'

theorem upd2_above {O : Ops} (hO : O = Ops.std) {H : Nat → Nat → Option V} {n l c i k : Nat} {x : V} (hne : ¬ (i = n ∧ l ≤ k)) (hc : l ≤ c) : upd2 O H n c x i k = H i k := by
  rw [upd2_eq hO, if_neg (by rintro ⟨a, b⟩; exact hne ⟨a, by omega⟩)]

/-- The frame at a loop's head: the boxes behind those of l are dropped. -/
theorem Drops.tab {H : Nat → Nat → Option V} {n b c : Nat} {O : Ops} {hO : O = Ops.std} (hw : WFS ⟨H, n, b, c, O, hO⟩) {n₀ : Nat} (hn : n₀ ≤ n) {σ : Nat → V} {S : St} (l : List V) {r : List (Nat × V)}
    (hS : ∀ i k, ¬ (i = n ∧ l.length ≤ k) → S.H i k = updL O n l 0 H i k) (hl : boxesOk (frameS H n O hO l).ok l) (hr : tabOk σ (frameS H n O hO l).ok r) : Drops n₀ σ S (tabF r) (frameS H n O hO l) where
  w t := (tabF_ok hr t).1
  low := ⟨hn, Nat.lt_succ_self _⟩
  refs t := (tabF_ok hr t).2
  H i k x hx := by
    have hx' : updL O n l 0 H i k = some x := hx
    rcases updL_get hO l 0 H hl i k x hx' with ⟨h1, h2, h3, h4⟩ | h'
    · refine ⟨?_, (ok_iff _ _ _).2 ⟨by simp only [frameS]; omega, fun _ => by simp only [frameS]; omega⟩, h4⟩
      rw [hS _ _ (by omega)]; exact hx'
    · have h1 := hw i k x h'
      have h2 := (ok_iff _ _ _).1 h1.1
      simp only at h2
      have hne : i ≠ n := Nat.ne_of_lt h2.1
      refine ⟨?_, (ok_iff _ _ _).2 ⟨by simp only [frameS]; omega, fun e => absurd e hne⟩, ?_⟩
      · rw [hS _ _ (by rintro ⟨e, _⟩; exact hne e)]; exact hx'
      · refine refsB_mono (fun i' k' h'' => ?_) x h1.2
        rw [ok_iff] at h'' ⊢
        simp only at h'' 
        simp only [frameS]
        exact ⟨Nat.lt_succ_of_lt h''.1, fun e => absurd e (Nat.ne_of_lt h''.1)⟩

/-- A LOOP, TOLD BY ROWS: at each round's head the frame is 'f a', the boxes are 'g a', for some a of which I holds; it falls. -/
theorem AW_loopT {P : Program} {N n₀ : Nat} {c : C} {Q : AX → (Nat → V) → St → Prop} {σ : Nat → V} {S : St} {A : Type} (f : A → List (Nat × V)) (g : A → St) (I : A → Prop) (meas : A → Nat) (a₀ : A) (h₀ : I a₀)
    (hd : Drops n₀ σ S (tabF (f a₀)) (g a₀))
    (round : ∀ a, I a → ∀ K : (Nat → V) → St → Prop, (∀ σ' S' a', meas a' < meas a → I a' → Drops n₀ σ' S' (tabF (f a')) (g a') → K σ' S') → vc P N n₀ c (AX.then K Q) (tabF (f a)) (g a)) : AW P N n₀ (.loop c) Q σ S := by
  refine AW.weaken (σ' := tabF (f a₀)) (S' := g a₀) ?_ hd.w hd.low hd.refs hd.H
  refine AW_loopD (fun k σ S => ∃ a, k = meas a ∧ I a ∧ σ = tabF (f a) ∧ S = g a) (meas a₀) ⟨a₀, rfl, h₀, rfl, rfl⟩ ?_
  rintro k σ S ⟨a, rfl, ha, rfl, rfl⟩
  exact round a ha _ fun σ' S' a' h1 h2 h3 => ⟨meas a', _, _, h1, ⟨a', rfl, h2, rfl, rfl⟩, h3⟩

/-- What is there stays well made where a box is set. -/
theorem WFS.set {S : St} (hw : WFS S) {i k : Nat} {y : V} (hok : S.ok i k = true) (hy : y.refsB S.ok) : WFS (S.set i k y) := by
  intro i' k' x hx
  have hx' : upd2 S.O S.H i k y i' k' = some x := hx
  rw [upd2_eq S.hO] at hx'
  split at hx'
  · rename_i e; cases hx'; obtain ⟨rfl, rfl⟩ := e; exact ⟨hok, hy⟩
  · exact hw i' k' x hx'

/-- A call's end, where boxes that were there are written. -/
theorem Over.of {S₀ S S' : St} (hn : S'.n = S₀.n) (hb : S'.b = S₀.b) (hc : S'.c = S₀.c) (hw : WFS S') (hag : ∀ i k, i ≠ S₀.n → S.H i k = S'.H i k) : Over S₀ S S' where
  n := by rw [hn]; exact Nat.le_refl _
  b := hb
  c := by rw [hc]; exact Nat.le_refl _
  H i k x hx := by
    have h := hw i k x hx
    have h' := (ok_iff _ _ _).1 h.1
    refine ⟨?_, h⟩
    rw [hag i k (by omega)]; exact hx

theorem upd2_ne {O : Ops} (hO : O = Ops.std) {H : Nat → Nat → Option V} {n c i k : Nat} {x : V} (hne : i ≠ n) : upd2 O H n c x i k = H i k := by
  rw [upd2_eq hO, if_neg (by rintro ⟨a, b⟩; exact hne a)]
theorem upd2_congr {O : Ops} (hO : O = Ops.std) {H H' : Nat → Nat → Option V} {n c i k : Nat} {x : V} (h : H i k = H' i k) : upd2 O H n c x i k = upd2 O H' n c x i k := by
  rw [upd2_eq hO, upd2_eq hO, h]

end Go.Pl
