/- Regions in the order of the text. -/
import Derived.Test.YtllbopmdpmjcpaaGreatDoorPlOpsSound
set_option linter.unusedSimpArgs false
set_option linter.unusedVariables false
set_option linter.unusedSectionVars false
namespace Go.Pl
section
variable {P : Program} {g₀ g : Gh} {w₀ : World} {N : Nat} {S S' : St} {w : World} {σ σ' : Nat → V} {a : Act}

theorem Sim.undef (h : Sim g₀ w₀ N g σ S a w) {d : Option Nat} (hd : ∀ k, d = some k → k < N) : Sim g₀ w₀ N g (Pl.putD σ d .undef) S (a.put d Go.undef) w :=
  h.putD hd (.tup [] #[] rfl (by simp)) rfl

def GuardSays (W : Bool) (σ : Nat → V) : Option (Nat × Bool) → Prop
  | none => W = true
  | some (t, want) => (∀ b, σ t = .bool b → W = (b == want)) ∧ (∀ l, σ t = .tup l → W = false)

/-- Is an operation wanted? As its guard's temporary says. -/
theorem wanted_guard {ops : Array Oper} {o : Oper} {gd : Option (Nat × Bool)} (hg : compGuard ops.toList o.guard = some gd) (hr : ∀ t, Rep g (σ t) (a.tmps.getD t Go.undef)) :
    GuardSays (Region.wanted o (yielded ops a.tmps)) σ gd := by
  unfold Region.wanted
  cases hgd : o.guard with
  | none => rw [hgd] at hg; simp only [compGuard, Option.some.injEq] at hg; subst hg; rfl
  | some p =>
    obtain ⟨j, want⟩ := p
    rw [hgd] at hg
    simp only [compGuard] at hg
    split at hg
    · rename_i oj hoj
      split at hg <;> cases hg
      rename_i t ht
      have hoj' : ops[j]? = some oj := by simpa using hoj
      have hy : yielded ops a.tmps j = match a.tmps[t]? with
        | some (.bool b) => some b
        | _ => none := by
        simp only [yielded, hoj', Option.bind_some, ht]
        rfl
      refine ⟨fun b hb => ?_, fun l hl => ?_⟩
      · have := hr t
        rw [hb] at this
        generalize hx : a.tmps.getD t Go.undef = x at this
        cases this
        have : a.tmps[t]? = some (.bool b) := by
          cases h2 : a.tmps[t]? with
          | none => simp [h2, Go.undef] at hx
          | some y => simp [h2] at hx; rw [hx]
        simp only [hy, this]
        cases b <;> cases want <;> rfl
      · have := hr t
        rw [hl] at this
        generalize hx : a.tmps.getD t Go.undef = x at this
        cases this with
        | tup _ vs h1 h2 =>
          have : yielded ops a.tmps j = none := by
            rw [hy]
            cases h2 : a.tmps[t]? with
            | none => rfl
            | some y => simp [h2] at hx; rw [hx]
          simp only [this]
          rfl
    · cases hg

/-- One operation, wanted or not, in a state of the relation. -/
theorem vc_wpOp {ops : Array Oper} {rs : List Nat} {o : Oper} {ro : RO} {Q : AX → (Nat → V) → St → Prop} {K : (Nat → V) → St → Prop} {K' : Act → World → Prop} (hc : compRO P ops.toList rs o = some ro)
    (h : Sim g₀ w₀ N g σ S a w) (hv : ro.vc P Q K σ S) (hd : ∀ k, o.dst = some k → k < N) (hK : ∀ g σ S a w, Sim g₀ w₀ N g σ S a w → K σ S → K' a w) :
    if Region.wanted o (yielded ops a.tmps) then o.wp P a w K' (APost g₀ w₀ N Q) else K' (a.put o.dst Go.undef) w := by
  have hsp := compRO_spec hc
  have hg := wanted_guard (a := a) hsp.2.1 h.rep
  unfold RO.vc at hv
  cases hgd : ro.guard with
  | none =>
    rw [hgd] at hv hg
    simp only at hv
    simp only [GuardSays] at hg
    rw [if_pos hg]
    exact op_sound hc h hd hv hK
  | some p =>
    obtain ⟨t, want⟩ := p
    rw [hgd] at hv hg
    simp only at hv
    simp only [GuardSays] at hg
    split at hv
    · rename_i b hb
      rw [hg.1 b hb]
      by_cases hbw : b = want
      · rw [if_pos (by simp [hbw])]
        have e : (b == want) = true := by simpa using hbw
        rw [e] at hv
        exact op_sound hc h hd hv hK
      · rw [if_neg (by simpa using hbw)]
        have e : (b == want) = false := by simpa using hbw
        rw [e] at hv
        simp only [cond_false] at hv
        rw [hsp.2.2.1] at hv
        exact hK _ _ _ _ _ (h.undef hd) hv
    · rename_i l hl
      rw [hg.2 l hl, if_neg (by simp)]
      rw [hsp.2.2.1] at hv
      exact hK _ _ _ _ _ (h.undef hd) hv
    · exact hv.elim

def dstsOk (N : Nat) (l : List Oper) : Bool := l.all fun o => match o.dst with
  | some d => decide (d < N)
  | none => true

theorem dstsOk_cons {N : Nat} {o : Oper} {l : List Oper} (h : dstsOk N (o :: l) = true) : (∀ k, o.dst = some k → k < N) ∧ dstsOk N l = true := by
  simp only [dstsOk, List.all_cons, Bool.and_eq_true] at h
  refine ⟨fun k hk => ?_, h.2⟩
  have := h.1
  rw [hk] at this
  simpa using this

/-- THE OPERATIONS, IN THE ORDER OF THE TEXT. -/
theorem ops_sound {ops : Array Oper} {rs : List Nat} {Q : AX → (Nat → V) → St → Prop} : ∀ (l : List Oper) (ros : List RO) (g : Gh) (σ : Nat → V) (S : St) (a : Act) (w : World),
    compROs P ops.toList rs l = some ros → dstsOk N l = true → Sim g₀ w₀ N g σ S a w → vcOps P Q ros σ S → wpList P ops (APost g₀ w₀ N Q) l a w
  | [], ros, g, σ, S, a, w, hc, _, h, hv => by
    simp only [compROs, Option.some.injEq] at hc
    subst hc
    exact ⟨g, σ, S, h, hv⟩
  | o :: l, ros, g, σ, S, a, w, hc, hd, h, hv => by
    simp only [compROs] at hc
    split at hc
    · rename_i ro rl h1 h2
      cases hc
      have hd' := dstsOk_cons hd
      simp only [vcOps] at hv
      have := vc_wpOp (K' := wpList P ops (APost g₀ w₀ N Q) l) h1 h hv hd'.1 (fun g σ S a w hs hk => ops_sound l rl g σ S a w h2 hd'.2 hs hk)
      unfold wpList
      split
      · rename_i hw; rw [if_pos hw] at this; exact .inl this
      · rename_i hw; rw [if_neg hw] at this; exact this
    · cases hc

end
end Go.Pl
