/- Code and functions: what is asked of a text, and that the machine then does what is said. -/
import Derived.Test.YtllbopmdpmjcpaaGreatDoorPlRegion
set_option linter.unusedSimpArgs false
set_option linter.unusedVariables false
set_option linter.unusedSectionVars false
namespace Go.Pl

inductive C where
  | skip
  | reg (l : List RO)
  | draw (k : Nat) (l : List RO)
  | seq (a b : C)
  | cond (x : X) (a b : C)
  | block (id : Nat) (c : C)
  | loop (c : C)
  | exit (id : Nat)
  | ret
  deriving Inhabited

def pickK (ops : Array Oper) (ros : Array RO) : Nat → Nat
  | 0 => 0
  | k + 1 => if (List.range k).all fun i => waitsOn ops k i || ((ros.getD k default).lateSt && (ros.getD i default).m.blind && (ros.getD i default).apart (ros.getD k default)) then pickK ops ros k else k + 1

def compC (P : Program) (N : Nat) (rs : List Nat) : Code → Option C
  | .skip => some .skip
  | .region _ ops false => match compROs P ops.toList rs ops.toList, dstsOk N ops.toList with
    | some l, true => some (.reg l)
    | _, _ => none
  | .region _ ops true => match compROs P ops.toList rs ops.toList with
    | some l => if dstsOk N ops.toList && drawOk ops l (pickK ops l.toArray ops.size) then some (.draw (pickK ops l.toArray ops.size) l) else none
    | none => none
  | .seq a b => match compC P N rs a, compC P N rs b with
    | some a, some b => some (.seq a b)
    | _, _ => none
  | .cond x a b => match compX x, compC P N rs a, compC P N rs b with
    | some x, some a, some b => some (.cond x a b)
    | _, _, _ => none
  | .block id c => (compC P N rs c).map (.block id)
  | .loop c => (compC P N rs c).map .loop
  | .exit id => some (.exit id)
  | .ret => some .ret
  | _ => none

/-- A piece of code, from a state, leaves this. -/
structure AW (P : Program) (N n₀ : Nat) (c : C) (Q : AX → (Nat → V) → St → Prop) (σ : Nat → V) (S : St) : Prop where
  run : P.follows .mixedOrders = true → ∀ (rs : List Nat) (code : Code), compC P N rs code = some c → ∀ (g₀ : Gh) (w₀ : World) (g : Gh) (a : Act) (w : World), g₀.top = n₀ → Sim g₀ w₀ N g σ S a w → code.wp P (APost g₀ w₀ N Q) a w

def AX.then (K : (Nat → V) → St → Prop) (Q : AX → (Nat → V) → St → Prop) : AX → (Nat → V) → St → Prop
  | .normal, σ, S => K σ S
  | e, σ, S => Q e σ S

def AX.inBlock (id : Nat) (Q : AX → (Nat → V) → St → Prop) : AX → (Nat → V) → St → Prop
  | .exit i, σ, S => if i = id then Q .normal σ S else Q (.exit i) σ S
  | e, σ, S => Q e σ S

def vc (P : Program) (N n₀ : Nat) : C → (AX → (Nat → V) → St → Prop) → (Nat → V) → St → Prop
  | .skip, Q, σ, S => Q .normal σ S
  | .reg l, Q, σ, S => vcOps P Q l σ S
  | .draw k l, Q, σ, S => vcDraw P Q k l σ S
  | .seq a b, Q, σ, S => vc P N n₀ a (AX.then (vc P N n₀ b Q) Q) σ S
  | .cond x a b, Q, σ, S => match x.ev σ with
    | .bool t => bif t then vc P N n₀ a Q σ S else vc P N n₀ b Q σ S
    | _ => False
  | .block id c, Q, σ, S => vc P N n₀ c (AX.inBlock id Q) σ S
  | .loop c, Q, σ, S => AW P N n₀ (.loop c) Q σ S
  | .exit id, Q, σ, S => Q (.exit id) σ S
  | .ret, Q, σ, S => Q .ret σ S

section
variable {P : Program} {N n₀ : Nat}

theorem APost.mono {g₀ : Gh} {w₀ : World} {Q Q' : AX → (Nat → V) → St → Prop} (h : ∀ e σ S, Q e σ S → Q' e σ S) {e : Exit} {a : Act} {w : World} (hp : APost g₀ w₀ N Q e a w) : APost g₀ w₀ N Q' e a w := by
  cases e with
  | normal => obtain ⟨g, σ, S, h1, h2⟩ := hp; exact ⟨g, σ, S, h1, h _ _ _ h2⟩
  | exit id => obtain ⟨g, σ, S, h1, h2⟩ := hp; exact ⟨g, σ, S, h1, h _ _ _ h2⟩
  | ret => obtain ⟨g, σ, S, h1, h2⟩ := hp; exact ⟨g, σ, S, h1, h _ _ _ h2⟩
  | panic chain => obtain ⟨g, σ, S, v, val, h1, h2, h3, h4⟩ := hp; exact ⟨g, σ, S, v, val, h1, h2, h3, h _ _ _ h4⟩
  | goto l => exact hp.elim
  | outgrown => exact hp.elim

/-- WHAT IS ASKED IS ENOUGH. -/
theorem vc_sound : ∀ (c : C) (Q : AX → (Nat → V) → St → Prop) (σ : Nat → V) (S : St), vc P N n₀ c Q σ S → AW P N n₀ c Q σ S
  | .skip, Q, σ, S, h => by
    refine ⟨?_⟩
    intro _ rs code hc g₀ w₀ g a w ht₀ hs
    cases code <;> (try simp only [compC, Option.some.injEq, reduceCtorEq, Option.map_eq_some_iff, and_false, exists_const] at hc)
    · exact wp_skip ⟨g, σ, S, hs, h⟩
    · rename_i id ops d; cases d <;> (try simp only [compC] at hc) <;> (repeat' split at hc) <;> cases hc
    all_goals (repeat' split at hc) <;> cases hc
  | .reg l, Q, σ, S, h => by
    refine ⟨?_⟩
    intro _ rs code hc g₀ w₀ g a w ht₀ hs
    cases code <;> (try simp only [compC, Option.some.injEq, reduceCtorEq, Option.map_eq_some_iff, and_false, exists_const] at hc)
    · rename_i id ops d
      cases d with
      | false =>
        (try simp only [compC] at hc)
        split at hc <;> cases hc
        rename_i h2 h1
        exact wp_region_list (ops_sound ops.toList l g σ S a w h1 h2 hs h)
      | true => (try simp only [compC] at hc); (repeat' split at hc) <;> cases hc
    all_goals (repeat' split at hc) <;> cases hc
  | .draw k l, Q, σ, S, h => by
    refine ⟨?_⟩
    intro hm rs code hc g₀ w₀ g a w ht₀ hs
    cases code <;> (try simp only [compC, Option.some.injEq, reduceCtorEq, Option.map_eq_some_iff, and_false, exists_const] at hc)
    · rename_i id ops d
      cases d with
      | false => (try simp only [compC] at hc); (repeat' split at hc) <;> cases hc
      | true =>
        (try simp only [compC] at hc)
        split at hc
        · rename_i l' h1
          split at hc <;> cases hc
          rename_i h2
          simp only [Bool.and_eq_true] at h2
          exact draw_sound hm h1 h2.1 h2.2 hs h
        · cases hc
    all_goals (repeat' split at hc) <;> cases hc
  | .seq c d, Q, σ, S, h => by
    refine ⟨?_⟩
    intro hm rs code hc g₀ w₀ g a w ht₀ hs
    cases code <;> (try simp only [compC, Option.some.injEq, reduceCtorEq, Option.map_eq_some_iff, and_false, exists_const] at hc)
    · rename_i id ops d'; cases d' <;> (try simp only [compC] at hc) <;> (repeat' split at hc) <;> cases hc
    · rename_i x y
      split at hc <;> cases hc
      rename_i h1 h2
      refine wp_seq (Go.wp_mono ((vc_sound c _ σ S h).run hm rs x h1 g₀ w₀ g a w ht₀ hs) ?_)
      intro e a' w' hp
      cases e with
      | normal => obtain ⟨g', σ', S', k1, k2⟩ := hp; exact (vc_sound d _ σ' S' k2).run hm rs y h2 g₀ w₀ g' a' w' ht₀ k1
      | exit id => exact hp
      | ret => exact hp
      | panic chain => exact hp
      | goto l => exact hp
      | outgrown => exact hp
    all_goals (repeat' split at hc) <;> cases hc
  | .cond x c d, Q, σ, S, h => by
    refine ⟨?_⟩
    intro hm rs code hc g₀ w₀ g a w ht₀ hs
    cases code <;> (try simp only [compC, Option.some.injEq, reduceCtorEq, Option.map_eq_some_iff, and_false, exists_const] at hc)
    · rename_i id ops d'; cases d' <;> (try simp only [compC] at hc) <;> (repeat' split at hc) <;> cases hc
    · split at hc <;> cases hc
    · rename_i x' y z
      split at hc <;> cases hc
      rename_i h0 h1 h2
      have hr := (compX_rep h0 hs.rep).1
      simp only [vc] at h
      split at h
      · rename_i t ht
        rw [ht] at hr
        generalize hev : a.eval x' = v at hr
        cases hr
        refine wp_cond_split hev (fun e => ?_) (fun e => ?_)
        · exact (vc_sound c _ σ S (by rw [e] at h; exact h)).run hm rs y h1 g₀ w₀ g a w ht₀ hs
        · exact (vc_sound d _ σ S (by rw [e] at h; exact h)).run hm rs z h2 g₀ w₀ g a w ht₀ hs
      · exact h.elim
  | .block id c, Q, σ, S, h => by
    refine ⟨?_⟩
    intro hm rs code hc g₀ w₀ g a w ht₀ hs
    cases code <;> (try simp only [compC, Option.some.injEq, reduceCtorEq, Option.map_eq_some_iff, and_false, exists_const, C.block.injEq] at hc)
    · rename_i id ops d'; cases d' <;> (try simp only [compC] at hc) <;> (repeat' split at hc) <;> cases hc
    · split at hc <;> cases hc
    · split at hc <;> cases hc
    · rename_i id' c'
      obtain ⟨c₀, h1, rfl, rfl⟩ := hc
      refine wp_block (Go.wp_mono ((vc_sound c₀ _ σ S h).run hm rs c' h1 g₀ w₀ g a w ht₀ hs) ?_)
      intro e a' w' hp
      cases e with
      | exit i =>
        obtain ⟨g', σ', S', k1, k2⟩ := hp
        simp only [AX.inBlock] at k2
        simp only [Exit.inBlock]
        split
        · rename_i e; rw [if_pos e] at k2; exact ⟨g', σ', S', k1, k2⟩
        · rename_i e; rw [if_neg e] at k2; exact ⟨g', σ', S', k1, k2⟩
      | normal => exact hp
      | ret => exact hp
      | panic chain => exact hp
      | goto l => exact hp
      | outgrown => exact hp
  | .loop c, Q, σ, S, h => h
  | .exit id, Q, σ, S, h => by
    refine ⟨?_⟩
    intro _ rs code hc g₀ w₀ g a w ht₀ hs
    cases code <;> (try simp only [compC, Option.some.injEq, reduceCtorEq, Option.map_eq_some_iff, and_false, exists_const, C.exit.injEq] at hc)
    · rename_i id ops d; cases d <;> (try simp only [compC] at hc) <;> (repeat' split at hc) <;> cases hc
    · split at hc <;> cases hc
    · split at hc <;> cases hc
    · subst hc; exact wp_exit ⟨g, σ, S, hs, h⟩
  | .ret, Q, σ, S, h => by
    refine ⟨?_⟩
    intro _ rs code hc g₀ w₀ g a w ht₀ hs
    cases code <;> (try simp only [compC, Option.some.injEq, reduceCtorEq, Option.map_eq_some_iff, and_false, exists_const] at hc)
    · rename_i id ops d; cases d <;> (try simp only [compC] at hc) <;> (repeat' split at hc) <;> cases hc
    · split at hc <;> cases hc
    · split at hc <;> cases hc
    · exact wp_ret ⟨g, σ, S, hs, h⟩

/-- A LOOP: what holds at each round's head (I n, n falling). -/
theorem AW_loop {c : C} {Q : AX → (Nat → V) → St → Prop} {σ : Nat → V} {S : St} (I : Nat → (Nat → V) → St → Prop) (k₀ : Nat) (h₀ : I k₀ σ S)
    (round : ∀ n σ S, I n σ S → vc P N n₀ c (AX.then (fun σ' S' => ∃ m, m < n ∧ I m σ' S') Q) σ S) : AW P N n₀ (.loop c) Q σ S := by
  refine ⟨?_⟩
  intro hm rs code hc g₀ w₀ g a w ht₀ hs
  cases code <;> (try simp only [compC, Option.some.injEq, reduceCtorEq, Option.map_eq_some_iff, and_false, exists_const, C.loop.injEq] at hc)
  · rename_i id ops d; cases d <;> (try simp only [compC] at hc) <;> (repeat' split at hc) <;> cases hc
  · split at hc <;> cases hc
  · split at hc <;> cases hc
  · rename_i c'
    obtain ⟨c₀, h1, rfl⟩ := hc
    refine wp_loop_ghost (fun n a w => ∃ g σ S, Sim g₀ w₀ N g σ S a w ∧ I n σ S) k₀ ⟨g, σ, S, hs, h₀⟩ ?_
    rintro n a w ⟨g, σ, S, hs, hI⟩
    refine Go.wp_mono ((vc_sound c₀ _ σ S (round n σ S hI)).run hm rs c' h1 g₀ w₀ g a w ht₀ hs) ?_
    intro e a' w' hp
    cases e with
    | normal => obtain ⟨g', σ', S', k1, m, hlt, hI'⟩ := hp; exact ⟨m, hlt, g', σ', S', k1, hI'⟩
    | exit id => exact hp
    | ret => exact hp
    | panic chain => exact hp
    | goto l => exact hp
    | outgrown => exact hp

end
end Go.Pl
