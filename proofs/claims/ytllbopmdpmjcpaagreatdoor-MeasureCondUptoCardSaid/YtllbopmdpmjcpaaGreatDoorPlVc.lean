/- Regions, code, calls: what is asked of a text so that the machine comes to what is said. -/
import Derived.Test.YtllbopmdpmjcpaaGreatDoorPlApp
import Derived.Deep.LoopGhost
set_option linter.unusedSimpArgs false
set_option linter.unusedVariables false
set_option linter.unusedSectionVars false
namespace Go.Pl

def V.undef : V := .tup []

def putD (σ : Nat → V) : Option Nat → V → Nat → V
  | some d, v => upd σ d v
  | none, _ => σ

/-- How a call ends. -/
inductive AE where
  | ret (v : V)
  | pan (v : V)

/-- How a piece of code is left. -/
inductive AX where
  | normal
  | exit (id : Nat)
  | ret
  | pan (v : V)

def RepEnd (g : Gh) (w : World) (base : Nat) : AE → Ending → Prop
  | .ret v, .returned val => Rep g v val ∧ Claim g w base v val
  | .pan v, .panicked chain => ∃ val, chain = [{ v := val, recovered := false }] ∧ Rep g v val
  | _, _ => False

/-- WHAT A CALL COMES TO, from any world that is like the boxes S. -/
structure ACalls (P : Program) (f : Nat) (args : List V) (S : St) (Q : AE → St → Prop) : Prop where
  go : isGo P f = true
  run : ∀ (g : Gh) (w : World) (vals : Array Value), SimW g S w → g.top = S.n → Reps g args vals →
    Calls P f vals w fun e w' => ∃ g' S' ae, Ext g w g' w' ∧ SimW g' S' w' ∧ (S.n ≤ S'.n ∧ S'.b = S.b) ∧ RepEnd g' w' w.heap.size ae e ∧ Q ae S'

theorem ACalls.mono {P : Program} {f : Nat} {args : List V} {S : St} {Q Q' : AE → St → Prop} (h : ACalls P f args S Q) (hq : ∀ e S', Q e S' → Q' e S') : ACalls P f args S Q' :=
  ⟨h.1, fun g w vals h1 h2 h3 => (h.2 g w vals h1 h2 h3).mono fun _ _ ⟨g', S', ae, a, b, n, c, d⟩ => ⟨g', S', ae, a, b, n, c, hq _ _ d⟩⟩

/-- The boxes of S are there in S', as they were. -/
def St.le (S S' : St) : Prop := (∀ i k x, S.H i k = some x → S'.H i k = some x) ∧ ∀ i k, S.ok i k = true → S'.ok i k = true

theorem St.le_refl (S : St) : S.le S := ⟨fun _ _ _ h => h, fun _ _ h => h⟩
theorem St.le_trans {a b c : St} (h : a.le b) (k : b.le c) : a.le c := ⟨fun i l x m => k.1 i l x (h.1 i l x m), fun i l m => k.2 i l (h.2 i l m)⟩

/-- A CALL THAT HANDS BACK v, whatever else there is, and leaves the boxes alone. -/
structure Pure (P : Program) (f : Nat) (args : List V) (S : St) (v : V) : Prop where
  run : ∀ S', S.le S' → ACalls P f args S' fun e S'' => e = .ret v ∧ S'' = S'

theorem Pure.le {P : Program} {f : Nat} {args : List V} {S S' : St} {v : V} (h : Pure P f args S v) (hl : S.le S') : Pure P f args S' v := ⟨fun S'' hs => h.run S'' (St.le_trans hl hs)⟩

/-- An operation, where it is laid, and when it is wanted: (temporary, value). -/
structure RO where
  dst : Option Nat
  m : M
  guard : Option (Nat × Bool)
  deriving Inhabited

/-- What follows a call. -/
def callK (σ : Nat → V) (d : Option Nat) (Q : AX → (Nat → V) → St → Prop) (K : (Nat → V) → St → Prop) : AE → St → Prop
  | .ret v, S' => K (putD σ d v) S'
  | .pan v, S' => Q (.pan v) σ S'

/-- One operation, what follows being K; a panic's end being Q. -/
def RO.vc1 (P : Program) (o : RO) (Q : AX → (Nat → V) → St → Prop) (K : (Nat → V) → St → Prop) (σ : Nat → V) (S : St) : Prop :=
  match o.m with
  | .call f args => ACalls P f (args.map (·.ev σ)) S (callK σ o.dst Q K)
  | .callv x args => match x.ev σ with
    | .fn f caps => ACalls P f (args.map (·.ev σ) ++ caps) S (callK σ o.dst Q K)
    | _ => False
  | m => match m.eff σ S with
    | some (v, σ', S') => K (putD σ' o.dst v) S'
    | none => match m.val σ S with
      | some v => K (putD σ o.dst v) S
      | none => False

def RO.vc (P : Program) (o : RO) (Q : AX → (Nat → V) → St → Prop) (K : (Nat → V) → St → Prop) (σ : Nat → V) (S : St) : Prop :=
  match o.guard with
  | none => o.vc1 P Q K σ S
  | some (t, want) => match σ t with
    | .bool b => bif b == want then o.vc1 P Q K σ S else K (putD σ o.dst .undef) S
    | .tup _ => K (putD σ o.dst .undef) S
    | _ => False

/-- The operations of a region, in the order of the text. -/
def vcOps (P : Program) (Q : AX → (Nat → V) → St → Prop) : List RO → (Nat → V) → St → Prop
  | [], σ, S => Q .normal σ S
  | o :: r, σ, S => o.vc P Q (vcOps P Q r) σ S

/-! ### From the machine's operations -/

def compCall (P : Program) : Op → Option M
  | .call { callee := .value (.func f), args := args, argTypes := _ } => if isGo P f then (compXs args.toList).map (.call f) else none
  | .call { callee := .value (.tmp t), args := args, argTypes := _ } => (compXs args.toList).map (.callv (.t t))
  | _ => none

/-- A move whose value is taken over with the claim: what is appended to, or handed back. -/
def takes (ops : List Oper) (rs : List Nat) (t : Nat) : Bool :=
  ops.any fun o => match o.op with
    | .call { callee := .builtin .append, args := args, argTypes := _ } => (match args.toList with
      | .tmp u :: _ => u == t
      | _ => false)
    | .assign (.tmp u) => u == t && (match o.dst with
      | some d => rs.contains d
      | none => false)
    | _ => false

def compM (P : Program) (ops : List Oper) (rs : List Nat) (o : Oper) : Option M :=
  match o.op, o.dst with
  | .move x, some d => if takes ops rs d then (compX x).map .asg else (compX x).map .mv
  | op, _ => match compEff P op with
    | some m => some m
    | none => match compPure P op with
      | some m => some m
      | none => compCall P op

def compGuard (ops : List Oper) : Option (Nat × Bool) → Option (Option (Nat × Bool))
  | none => some none
  | some (j, want) => match ops[j]? with
    | some o => match o.dst with
      | some t => some (some (t, want))
      | none => none
    | none => none

def compRO (P : Program) (ops : List Oper) (rs : List Nat) (o : Oper) : Option RO :=
  match compM P ops rs o, compGuard ops o.guard with
  | some m, some g => (match m, o.dst with
    | .st _ _ _, some _ => none
    | .st _ _ _, none => some { dst := none, m := m, guard := g }
    | .call _ _, d => some { dst := d, m := m, guard := g }
    | .callv _ _, d => some { dst := d, m := m, guard := g }
    | m, some d => some { dst := some d, m := m, guard := g }
    | _, none => none)
  | _, _ => none

def compROs (P : Program) (ops : List Oper) (rs : List Nat) : List Oper → Option (List RO)
  | [] => some []
  | o :: r => match compRO P ops rs o, compROs P ops rs r with
    | some x, some l => some (x :: l)
    | _, _ => none

/-- What the machine's state behind a piece of code is to be. -/
def APost (g₀ : Gh) (w₀ : World) (N : Nat) (Q : AX → (Nat → V) → St → Prop) : Exit → Act → World → Prop
  | .normal, a, w => ∃ g σ S, Sim g₀ w₀ N g σ S a w ∧ Q .normal σ S
  | .exit id, a, w => ∃ g σ S, Sim g₀ w₀ N g σ S a w ∧ Q (.exit id) σ S
  | .ret, a, w => ∃ g σ S, Sim g₀ w₀ N g σ S a w ∧ Q .ret σ S
  | .panic chain, a, w => ∃ g σ S v val, Sim g₀ w₀ N g σ S a w ∧ chain = [{ v := val, recovered := false }] ∧ Rep g v val ∧ Q (.pan v) σ S
  | _, _, _ => False

section
variable {P : Program} {g₀ g : Gh} {w₀ : World} {N : Nat} {S : St} {w : World} {σ : Nat → V} {a : Act}

theorem Sim.putD (h : Sim g₀ w₀ N g σ S a w) {d : Option Nat} {x : V} {v : Value} (hd : ∀ k, d = some k → k < N) (hr : Rep g x v) (hg : x.isGr = false) :
    Sim g₀ w₀ N g (Pl.putD σ d x) S (a.put d v) w := by
  cases d with
  | none => exact h
  | some d => exact h.put (hd d rfl) hr hg

/-- Behind a call. -/
theorem Sim.called (h : Sim g₀ w₀ N g σ S a w) {g' : Gh} {w' : World} {S' : St} (hx : Ext g w g' w') (hs : SimW g' S' w') (hn : S.n ≤ S'.n ∧ S'.b = S.b) : Sim g₀ w₀ N g' σ S' a w' where
  ext := h.ext.trans hx
  sim := hs
  size := h.size
  dfr := h.dfr
  rep t := (h.rep t).mono hx.le
  claim t := by
    refine (h.claim t).step (fun b hb hlt hL => hx.block b hlt hL) (fun b k hb hlt hk => ?_) (fun i l b hlt hi => ?_)
    · cases hm : g'.M b k with
      | none => rfl
      | some v =>
        rcases hx.newM b k v hm with h' | h'
        · rw [hk] at h'; cases h'
        · omega
    · intro hi'
      rcases hx.newLoc i l b hi' with h' | h'
      · exact hi h'
      · omega
  sep := h.sep
  low := by have := h.low; omega
  none0 := h.none0

theorem Sim.returned (h : Sim g₀ w₀ N g σ S a w) {g' : Gh} {w' : World} {S' : St} (hx : Ext g w g' w') (hs : SimW g' S' w') (hn : S.n ≤ S'.n ∧ S'.b = S.b) {d : Option Nat} (hd : ∀ k, d = some k → k < N) {x : V} {v : Value}
    (hr : Rep g' x v) (hc : Claim g' w' w.heap.size x v) : Sim g₀ w₀ N g' (Pl.putD σ d x) S' (a.put d v) w' := by
  have h' := h.called hx hs hn
  cases d with
  | none => exact h'
  | some d =>
    refine h'.put' (hd d rfl) h'.ext h'.sim (.refl g') hr (fun _ _ c => c) ?_ (fun t b _ hb hb' => ?_)
    · -- the base is lower
      unfold Claim at *
      split at hc
      · obtain ⟨⟨vals, h1, h2⟩, h3⟩ := hc
        refine ⟨⟨vals, h1, ?_⟩, h3⟩
        rcases h2 with h2 | ⟨gb, cap, cur, e1, e2, rest⟩
        · exact .inl h2
        · exact .inr ⟨gb, cap, cur, e1, Nat.le_trans h.ext.size e2, rest⟩
      · trivial
    · have h1 := (h.claim t).lt hb
      have h2 := hc.lt hb'
      omega

/-- The same knowledge, names being new from another number on. -/
def Gh.at (g : Gh) (n : Nat) : Gh := { g with top := n }

theorem Le.at (g : Gh) (n : Nat) : Le g (g.at n) := ⟨fun _ _ _ h => h, fun _ _ _ h => h⟩
theorem Le.at' (g : Gh) (n : Nat) : Le (g.at n) g := ⟨fun _ _ _ h => h, fun _ _ _ h => h⟩

theorem SimW.at (h : SimW g S w) (n : Nat) : SimW (g.at n) S w where
  mem := h.mem
  box i l x hx := by
    obtain ⟨b, cs, e, h1, h2, h3⟩ := h.box i l x hx
    exact ⟨b, cs, e, h1, h2, h3.mono (Le.at g n)⟩
  inj := h.inj
  boxM := h.boxM
  locB := h.locB
  fresh := h.fresh

theorem Claim.at {base : Nat} {x : V} {v : Value} (h : Claim g w base x v) (n : Nat) : Claim (g.at n) w base x v :=
  h.step (fun _ _ _ _ => rfl) (fun _ _ _ _ hk => hk) (fun _ _ _ _ hi => hi)

theorem RepEnd.at {base : Nat} {ae : AE} {e : Ending} (h : RepEnd g w base ae e) (n : Nat) : RepEnd (g.at n) w base ae e := by
  cases ae <;> cases e <;> try exact h
  · exact ⟨h.1.mono (Le.at g n), h.2.at n⟩
  · obtain ⟨val, h1, h2⟩ := h
    exact ⟨val, h1, h2.mono (Le.at g n)⟩

/-- From the callee's view to the caller's. -/
theorem Ext.back {n : Nat} {g' : Gh} {w' : World} (h : Ext (g.at n) w g' w') (hn : g.top ≤ n) : Ext g w (g'.at g.top) w' where
  le := ⟨h.le.M, h.le.loc⟩
  os := h.os
  tape := h.tape
  output := h.output
  size := h.size
  block := h.block
  newLoc := h.newLoc
  newM := h.newM
  top := rfl
  newName i k hi hl := h.newName i k (Nat.lt_of_lt_of_le hi hn) hl
  froz := h.froz

theorem Sim.low' (h : Sim g₀ w₀ N g σ S a w) : g.top ≤ S.n := by rw [h.ext.top]; have := h.low; omega

theorem reps_args {args : List Operand} {xs : List X} (hx : compXs args = some xs) (hr : ∀ t, Rep g (σ t) (a.tmps.getD t undef)) : Reps g (xs.map (·.ev σ)) (args.map a.eval).toArray := by
  have h := compXs_reps hx hr
  exact ⟨by simp [h.1], fun j y v hy hv => (h.2 j y v hy (by simpa using hv)).1⟩

theorem wp_enter {o : Oper} {f : FuncId} {vals : Array Value} {K : Act → World → Prop} {Q : Exit → Act → World → Prop} (hrun : (execOp a.eval o).run P w = .ok (.enter f vals) w)
    (h : Calls P f vals w fun
      | .returned v, w'' => K (a.put o.dst v) w''
      | .panicked chain, w'' => Q (.panic chain) a w''
      | .outgrown, _ => LetsOut Q) : o.wp P a w K Q := by
  unfold Oper.wp; rw [hrun]; exact h

/-- The two ends of a call. -/
theorem call_ends {o : Oper} (h : Sim g₀ w₀ N g σ S a w) (hd : ∀ k, o.dst = some k → k < N) {f : Nat} {args : List V} {vals : Array Value} {Q : AX → (Nat → V) → St → Prop} {K : (Nat → V) → St → Prop}
    {K' : Act → World → Prop} (hK : ∀ g σ S a w, Sim g₀ w₀ N g σ S a w → K σ S → K' a w) (hr : Reps g args vals)
    (hc : ACalls P f args S (callK σ o.dst Q K)) :
    Calls P f vals w fun
      | .returned v, w'' => K' (a.put o.dst v) w''
      | .panicked chain, w'' => APost g₀ w₀ N Q (.panic chain) a w''
      | .outgrown, _ => LetsOut (APost g₀ w₀ N Q) := by
  refine (hc.2 (g.at S.n) w vals (h.sim.at _) rfl (hr.mono (Le.at g _))).mono ?_
  rintro e w' ⟨g₁, S', ae, hx₁, hs₁, hn, he₁, hq⟩
  have hx := hx₁.back h.low'
  have hs : SimW (g₁.at g.top) S' w' := hs₁.at _
  have he : RepEnd (g₁.at g.top) w' w.heap.size ae e := he₁.at _
  generalize g₁.at g.top = g' at hx hs he
  cases ae with
  | ret v =>
    cases e with
    | returned val => exact hK _ _ _ _ _ (h.returned hx hs hn hd he.1 he.2) hq
    | panicked chain => exact he.elim
    | outgrown => exact he.elim
  | pan v =>
    cases e with
    | returned val => exact he.elim
    | panicked chain =>
      obtain ⟨val, rfl, hrep⟩ := he
      exact ⟨g', σ, S', v, val, h.called hx hs hn, rfl, hrep, hq⟩
    | outgrown => exact he.elim

theorem callFunc_run {f : Nat} (hf : isGo P f = true) (vals : Array Value) : (callFunc f vals).run P w = .ok (.enter f vals) w := by
  unfold isGo at hf
  split at hf
  · rename_i fn hfn
    simp only [Bool.and_eq_true, bne_iff_ne, ne_eq] at hf
    obtain ⟨c, hb⟩ := Option.isSome_iff_exists.1 hf.2
    simp [callFunc, hfn, hf.1, hb]
  · cases hf

end
end Go.Pl
