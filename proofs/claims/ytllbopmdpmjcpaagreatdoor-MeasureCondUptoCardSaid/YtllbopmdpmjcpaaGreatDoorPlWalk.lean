/- Walking: what is told of numbers, lists and strings, and how a text is gone through. -/
import Derived.Test.YtllbopmdpmjcpaaGreatDoorPlForm
import Derived.KernelRfl
import Derived.LoopN
set_option linter.unusedSimpArgs false
set_option linter.unusedVariables false
set_option linter.unusedSectionVars false
namespace Go.Pl
section
variable {O : Ops} (hO : O = Ops.std)
include hO

theorem w_same (n : Nat) : O.same n n = true := by subst hO; simp [Ops.std]
theorem w_same_f {m n : Nat} (h : m ≠ n) : O.same m n = false := by subst hO; simp [Ops.std, h]
theorem w_ieq_t {a b : Int} (h : a = b) : O.ieq a b = true := by subst hO; simp [Ops.std, h]
theorem w_ieq_f {a b : Int} (h : a ≠ b) : O.ieq a b = false := by subst hO; simp [Ops.std, h]
theorem w_ilt_t {a b : Int} (h : a < b) : O.ilt a b = true := by subst hO; simp [Ops.std, h]
theorem w_ilt_f {a b : Int} (h : b ≤ a) : O.ilt a b = false := by subst hO; simp [Ops.std, h]
theorem w_ile_t {a b : Int} (h : a ≤ b) : O.ile a b = true := by subst hO; simp [Ops.std, h]
theorem w_ile_f {a b : Int} (h : b < a) : O.ile a b = false := by subst hO; simp [Ops.std, h]
theorem w_seq_t {a b : List UInt8} (h : a = b) : O.seq a b = true := by subst hO; simp [Ops.std, h]
theorem w_seq_f {a b : List UInt8} (h : a ≠ b) : O.seq a b = false := by subst hO; simp [Ops.std, h]
theorem w_good0 (sz : Nat) : O.good sz [] = true := by subst hO; simp [Ops.std]
theorem w_good1 {sz : Nat} {x : V} (h : x.data = true) (hl : x.cells.length = sz) (hs : sz ≤ 100) : O.good sz [x] = true := by
  subst hO; simp [Ops.std, h, hl]; omega
theorem w_good2 {sz : Nat} {x y : V} (h : x.data = true) (hl : x.cells.length = sz) (h' : y.data = true) (hl' : y.cells.length = sz) (hs : sz ≤ 100) : O.good sz [x, y] = true := by
  subst hO; simp [Ops.std, h, hl, h', hl']; omega
theorem w_good3 {sz : Nat} {x y z : V} (h : x.data = true) (hl : x.cells.length = sz) (h' : y.data = true) (hl' : y.cells.length = sz) (h2 : z.data = true) (hl2 : z.cells.length = sz) (hs : sz ≤ 100) : O.good sz [x, y, z] = true := by
  subst hO; simp [Ops.std, h, hl, h', hl', h2, hl2]; omega
theorem w_emp_n : O.emp [] = true := by subst hO; rfl
theorem w_emp_c (x : V) (l : List V) : O.emp (x :: l) = false := by subst hO; rfl
theorem w_app_n (l : List V) : O.app [] l = l := by subst hO; rfl
theorem w_app_1 (x : V) (l : List V) : O.app [x] l = x :: l := by subst hO; rfl
theorem w_app_2 (x y : V) (l : List V) : O.app [x, y] l = x :: y :: l := by subst hO; rfl
theorem w_fit {bytes : Nat} {xs ys : List V} (h : (xs.length + ys.length) * bytes ≤ 1099511627776 ∧ xs.length + ys.length ≤ 1099511627776) : O.fit bytes xs ys = true := by subst hO; simp only [Ops.std, decide_eq_true_eq]; exact h
theorem w_len (l : List V) : O.len l = (l.length : Int) := by subst hO; rfl
theorem w_slen (l : List UInt8) : O.slen l = (l.length : Int) := by subst hO; rfl
theorem w_sget (s : List UInt8) (i : Int) : O.sget s i = if 0 ≤ i then (s[i.toNat]?).map fun b => (b.toNat : Int) else none := by subst hO; rfl
theorem w_scut (s : List UInt8) (l h : Int) : O.scut s l h = if 0 ≤ l ∧ l ≤ h ∧ h ≤ s.length then some ((s.take h.toNat).drop l.toNat) else none := by subst hO; rfl
theorem w_get {l : List V} {i : Int} {x : V} (h0 : 0 ≤ i) (h : l[i.toNat]? = some x) : O.get l i = some x := by
  subst hO
  have : i.toNat < l.length := (List.getElem?_eq_some_iff.1 h).1
  simp only [Ops.std]
  rw [if_pos ⟨h0, by omega⟩]; exact h
theorem w_get0 (x : V) (l : List V) : O.get (x :: l) 0 = some x := w_get hO (Int.le_refl _) rfl
theorem w_get1 (x y : V) (l : List V) : O.get (x :: y :: l) 1 = some y := w_get hO (by decide) rfl
theorem w_add {a b : Int} (h : -9223372036854775808 ≤ a + b) (h' : a + b ≤ 9223372036854775807) : O.iop .add .i64 a .i64 b = some (.int .i64 (a + b)) := by
  subst hO
  have : IntKind.i64.wrap (a + b) = a + b := by
    simp [IntKind.wrap, IntKind.bits, IntKind.signed]
    omega
  simp [Ops.std, binOp, Op.intArith, this, absS]
  rfl
theorem w_upd2_ne {H : Nat → Nat → Option V} {b k : Nat} {x : V} {i j : Nat} (h : i ≠ b) : upd2 O H b k x i j = H i j := by
  rw [upd2_eq hO, if_neg (by rintro ⟨e, _⟩; exact h e)]
end

/-- So many rounds at most, each walked. -/
def roundsA (P : Program) (N n₀ : Nat) (c : C) (Q : AX → (Nat → V) → St → Prop) : Nat → (Nat → V) → St → Prop
  | 0, _, _ => False
  | k + 1, σ, S => vc P N n₀ c (AX.then (roundsA P N n₀ c Q k) Q) σ S

theorem AW_rounds {P : Program} {N n₀ : Nat} {c : C} {Q : AX → (Nat → V) → St → Prop} {σ : Nat → V} {S : St} (k : Nat) (h : roundsA P N n₀ c Q k σ S) : AW P N n₀ (.loop c) Q σ S := by
  refine ⟨?_⟩
  intro hm rs code hc g₀ w₀ g a w ht₀ hs
  cases code <;> (try simp only [compC, Option.some.injEq, reduceCtorEq, Option.map_eq_some_iff, and_false, exists_const, C.loop.injEq] at hc)
  · rename_i id ops d; cases d <;> (try simp only [compC] at hc) <;> (repeat' split at hc) <;> cases hc
  · split at hc <;> cases hc
  · split at hc <;> cases hc
  · rename_i c'
    obtain ⟨c₀, h1, rfl⟩ := hc
    refine wp_loop_rounds k ?_
    have key : ∀ (k : Nat) (g : Gh) (σ : Nat → V) (S : St) (a : Act) (w : World), Sim g₀ w₀ N g σ S a w → roundsA P N n₀ c₀ Q k σ S → Code.rounds P c' (APost g₀ w₀ N Q) k a w := by
      intro k
      induction k with
      | zero => intro g σ S a w _ h; exact h.elim
      | succ k ih =>
        intro g σ S a w hs h
        refine Go.wp_mono ((vc_sound c₀ _ σ S h).run hm rs c' h1 g₀ w₀ g a w ht₀ hs) ?_
        intro e a' w' hp
        cases e with
        | normal => obtain ⟨g', σ', S', k1, k2⟩ := hp; exact ih g' σ' S' a' w' k1 k2
        | exit id => exact hp
        | ret => exact hp
        | panic chain => exact hp
        | goto l => exact hp
        | outgrown => exact hp
    exact key k g σ S a w hs h

/-- Behind a piece of code some of the frame is forgotten, and boxes that nobody can see any more are dropped. -/
structure Drops (n₀ : Nat) (σ : Nat → V) (S : St) (σ' : Nat → V) (S' : St) : Prop where
  w : ∀ t, σ' t = σ t ∨ σ' t = .any ∨ σ' t = (σ t).plain
  low : n₀ ≤ S'.b ∧ S'.b < S'.n
  refs : ∀ t, (σ' t).refsB S'.ok
  H : ∀ i k x, S'.H i k = some x → S.H i k = some x ∧ S'.ok i k = true ∧ x.refsB S'.ok

/-- A round is over: what holds at the next one's head. -/
structure Round (n₀ : Nat) (I : Nat → (Nat → V) → St → Prop) (k : Nat) (σ : Nat → V) (S : St) : Prop where
  h : ∃ m σ' S', m < k ∧ I m σ' S' ∧ Drops n₀ σ S σ' S'

/-- A loop, each round's boxes dropped at its end. -/
theorem AW_loopD {P : Program} {N n₀ : Nat} {c : C} {Q : AX → (Nat → V) → St → Prop} {σ : Nat → V} {S : St} (I : Nat → (Nat → V) → St → Prop) (k₀ : Nat) (h₀ : I k₀ σ S)
    (round : ∀ k σ S, I k σ S → vc P N n₀ c (AX.then (Round n₀ I k) Q) σ S) : AW P N n₀ (.loop c) Q σ S := by
  refine ⟨?_⟩
  intro hm rs code hc g₀ w₀ g a w ht₀ hs
  cases code <;> (try simp only [compC, Option.some.injEq, reduceCtorEq, Option.map_eq_some_iff, and_false, exists_const, C.loop.injEq] at hc)
  · rename_i id ops d; cases d <;> (try simp only [compC] at hc) <;> (repeat' split at hc) <;> cases hc
  · split at hc <;> cases hc
  · split at hc <;> cases hc
  · rename_i c'
    obtain ⟨c₀, h1, rfl⟩ := hc
    refine wp_loop_ghost (fun k a w => ∃ g σ S, Sim g₀ w₀ N g σ S a w ∧ I k σ S) k₀ ⟨g, σ, S, hs, h₀⟩ ?_
    rintro k a w ⟨g, σ, S, hs, hI⟩
    refine Go.wp_mono ((vc_sound c₀ _ σ S (round k σ S hI)).run hm rs c' h1 g₀ w₀ g a w ht₀ hs) ?_
    intro e a' w' hp
    cases e with
    | normal =>
      obtain ⟨g', σ', S', k1, ⟨m, σ'', S'', hlt, hI', hd⟩⟩ := hp
      exact ⟨m, hlt, g'.cut S''.ok, σ'', S'', (k1.weaken hd.w).drop (by rw [ht₀]; exact hd.low) hd.refs hd.H, hI'⟩
    | exit id => exact hp
    | ret => exact hp
    | panic chain => exact hp
    | goto l => exact hp
    | outgrown => exact hp

/-- Of a frame only these temporaries. -/
def keepF (l : List Nat) (σ : Nat → V) : Nat → V := fun t => if t ∈ l then σ t else .any

theorem Drops.keep {n₀ : Nat} {σ : Nat → V} {S S' : St} (l : List Nat) (low : n₀ ≤ S'.b ∧ S'.b < S'.n) (hr : ∀ t ∈ l, (σ t).refsB S'.ok)
    (H : ∀ i k x, S'.H i k = some x → S.H i k = some x ∧ S'.ok i k = true ∧ x.refsB S'.ok) : Drops n₀ σ S (keepF l σ) S' where
  w t := by
    by_cases h : t ∈ l
    · exact .inl (by simp [keepF, h])
    · exact .inr (.inl (by simp [keepF, h]))
  low := low
  refs t := by
    by_cases h : t ∈ l
    · simp only [keepF, h, if_true]; exact hr t h
    · simp only [keepF, h, if_false, V.refsB]
  H := H

theorem byEq {α : Type} {a b : α} (h : a = b) : a = b := h


/-- A function that hands back v, whatever else there is, and leaves the boxes alone. -/
theorem mkPure {P : Program} {N : Nat} {fn : Func} {F : F} (hm : P.follows .mixedOrders = true) (hf : P.funcs[N]? = some fn) (hgo : isGo P N = true) (hc : compFn P fn = some F) {args : List V} {v : V}
    (hN : args.length ≤ F.N) (hv : ∀ p, v.refsB p)
    (h : ∀ (H : Nat → Nat → Option V) (n b c : Nat) (O : Ops) (hO : O = Ops.std), WFS ⟨H, n, b, c, O, hO⟩ → vc P F.N n F.c (retPure F.rs ⟨H, n, b, c, O, hO⟩ v) (frame0 args) ⟨H, n + 1, n, 0, O, hO⟩) (S : St) :
    Pure P N args S v :=
  Pure_of_vc hm hf hgo hc hN (hv _) fun S' _ hw => by
    obtain ⟨H, n, b, c, O, hO⟩ := S'
    exact h H n b c O hO hw

theorem WFS.ne {H : Nat → Nat → Option V} {n b c : Nat} {O : Ops} {hO : O = Ops.std} (hw : WFS ⟨H, n, b, c, O, hO⟩) (i k : Nat) (x : V) (hx : H i k = some x) : i ≠ n :=
  Nat.ne_of_lt ((ok_iff _ _ _).1 (hw i k x hx).1).1

theorem Pure.go {P : Program} {f : Nat} {args : List V} {S : St} {v : V} (h : Pure P f args S v) {Q : AE → St → Prop} (hq : Q (.ret v) S) : ACalls P f args S Q :=
  (h.run S (St.le_refl S)).mono fun e S' ⟨h1, h2⟩ => by subst h1; subst h2; exact hq


end Go.Pl
