/- Regions that draw their order: from the machine to the walk. -/
import Derived.Test.YtllbopmdpmjcpaaGreatDoorPlDraw
set_option linter.unusedSimpArgs false
set_option linter.unusedVariables false
set_option linter.unusedSectionVars false
namespace Go.Pl

/-- One of the operations that may come up at any time, wanted. -/
def RO.q1 (P : Program) (S₀ : St) (nm : Nat) (o : RO) (K : (Nat → V) → St → Prop) (σ : Nat → V) (S : St) : Prop :=
  match o.m with
  | .call f args => ∃ v, Pure P f (args.map (·.ev σ)) S₀ v ∧ K (putD σ o.dst v) S
  | .callv x args => match x.ev σ with
    | .fn f caps => ∃ v, Pure P f (args.map (·.ev σ) ++ caps) S₀ v ∧ K (putD σ o.dst v) S
    | _ => False
  | .new z => K (putD σ o.dst (.ref S₀.b nm 0)) (S.set S.b nm z)
  | .box x => bif (x.ev σ).data then K (putD σ o.dst (.ref S₀.b nm 0)) (S.set S.b nm (x.ev σ)) else False
  | .asg x => K (putD (x.down σ) o.dst (x.raw σ)) S
  | .mks e sz xs => match S₀.O.good sz (xs.map (·.ev σ)) with
    | true => K (putD σ o.dst (.gr e false sz (xs.map (·.ev σ)))) S
    | false => False
  | .app _ e sz bytes x y => match appV S₀.O e sz bytes (x.raw σ) (y.ev σ) with
    | some v => K (putD (x.down σ) o.dst v) S
    | none => False
  | .st _ _ _ => False
  | m => match m.val σ S₀ with
    | some v => K (putD σ o.dst v) S
    | none => False

def RO.q (P : Program) (S₀ : St) (nm : Nat) (o : RO) (K : (Nat → V) → St → Prop) (σ : Nat → V) (S : St) : Prop :=
  match o.guard with
  | none => o.q1 P S₀ nm K σ S
  | some (t, want) => match σ t with
    | .bool b => bif b == want then o.q1 P S₀ nm K σ S else K (putD σ o.dst .undef) S
    | .tup _ => K (putD σ o.dst .undef) S
    | _ => False

/-- The first operations, in the order of the text. -/
def vcA (P : Program) (S₀ : St) : List RO → Nat → ((Nat → V) → St → Prop) → (Nat → V) → St → Prop
  | [], _, K, σ, S => K σ S
  | o :: r, nm, K, σ, S => o.q P S₀ nm (vcA P S₀ r (bif o.m.isBox then nm + 1 else nm) K) σ S

/-- A region that draws its order: kA operations that may come up at any time, then those that wait for all before them. -/
def vcDraw (P : Program) (Q : AX → (Nat → V) → St → Prop) (kA : Nat) (ros : List RO) (σ : Nat → V) (S : St) : Prop :=
  vcA P S (ros.take kA) S.c (vcOps P Q (ros.drop kA)) σ { S with c := S.c + boxesB (ros.take kA) }

section
variable {P : Program} {N : Nat} {S₀ S : St} {σ σ' : Nat → V}

theorem x_down (σ : Nat → V) (x : X) : x.down σ = downF σ x.tmp? := by cases x <;> rfl

theorem q1_qOp {nm : Nat} {o : RO} {K : (Nat → V) → St → Prop} (hg : gw σ o.guard = some true) (hd : ∀ k, o.dst = some k → k < N) (h : o.q1 P S₀ nm K σ S) : qOp P N S₀ nm o K σ S := by
  have mk : ∀ v, qval P S₀ nm σ o.m v → K (putD (downF σ o.m.downs) o.dst v) (if o.m.isBox then S.set S.b nm (o.m.boxed σ) else S) → qOp P N S₀ nm o K σ S := fun v hq hK =>
    ⟨v, true, ⟨hg, hd, fun _ => hq, fun h => by cases h⟩, by simpa [stepF, stepS] using hK⟩
  unfold RO.q1 at h
  revert mk h
  generalize o.m = m
  intro h mk
  cases m <;> simp only at h
  case call f args => obtain ⟨v, h1, h2⟩ := h; exact mk v h1 h2
  case callv x args =>
    split at h
    · rename_i f caps hx
      obtain ⟨v, h1, h2⟩ := h
      exact mk v (by simp only [qval]; rw [hx]; exact h1) h2
    · exact h.elim
  case new z => exact mk _ rfl h
  case box x =>
    cases hb : (x.ev σ).data with
    | false => rw [hb] at h; exact h.elim
    | true => rw [hb] at h; exact mk _ ⟨hb, rfl⟩ h
  case asg x => exact mk _ rfl (by simp only [M.downs, M.isBox]; rw [← x_down]; exact h)
  case mks e sz xs =>
    split at h
    · rename_i hb; exact mk _ ⟨hb, rfl⟩ h
    · exact h.elim
  case app t e sz b x y =>
    split at h
    · rename_i v hv; exact mk v hv (by simp only [M.downs, M.isBox]; rw [← x_down]; exact h)
    · exact h.elim
  all_goals
    split at h
    · rename_i v hv; exact mk v hv h
    · exact h.elim

theorem q_qOp {nm : Nat} {o : RO} {K : (Nat → V) → St → Prop} (hd : ∀ k, o.dst = some k → k < N) (h : o.q P S₀ nm K σ S) : qOp P N S₀ nm o K σ S := by
  unfold RO.q at h
  cases hg : o.guard with
  | none => rw [hg] at h; exact q1_qOp (by rw [hg]; rfl) hd h
  | some p =>
    obtain ⟨t, want⟩ := p
    rw [hg] at h
    simp only at h
    have skip : gw σ o.guard = some false → K (putD σ o.dst .undef) S → qOp P N S₀ nm o K σ S := fun hw hk =>
      ⟨.undef, false, ⟨hw, hd, (fun e => by cases e), fun _ => rfl⟩, by simpa [stepF, stepS] using hk⟩
    split at h
    · rename_i b hb
      by_cases hbw : b = want
      · have e : (b == want) = true := by simpa using hbw
        rw [e] at h
        exact q1_qOp (by rw [hg]; simp [gw, hb, V.plain, hbw]) hd h
      · have e : (b == want) = false := by simpa using hbw
        rw [e] at h
        exact skip (by rw [hg]; simp [gw, hb, V.plain, hbw]) h
    · rename_i l hl
      exact skip (by rw [hg]; simp [gw, hl, V.plain]) h
    · exact h.elim

theorem callK_mono {d : Option Nat} {Q Q' : AX → (Nat → V) → St → Prop} {K K' : (Nat → V) → St → Prop} (hQ : ∀ e σ S, Q e σ S → Q' e σ S) (hK : ∀ σ S, K σ S → K' σ S) :
    ∀ e S, callK σ d Q K e S → callK σ d Q' K' e S
  | .ret _, _, h => hK _ _ h
  | .pan _, _, h => hQ _ _ _ h

theorem vc1_mono {o : RO} {Q Q' : AX → (Nat → V) → St → Prop} {K K' : (Nat → V) → St → Prop} (hQ : ∀ e σ S, Q e σ S → Q' e σ S) (hK : ∀ σ S, K σ S → K' σ S) (h : o.vc1 P Q K σ S) : o.vc1 P Q' K' σ S := by
  unfold RO.vc1 at h ⊢
  revert h
  generalize o.m = m
  intro h
  cases m <;> simp only at h ⊢
  case call f args => exact h.mono (callK_mono hQ hK)
  case callv x args =>
    split at h
    · exact ACalls.mono h (callK_mono hQ hK)
    · exact h.elim
  all_goals
    split at h
    · exact hK _ _ h
    · split at h
      · exact hK _ _ h
      · exact h.elim

theorem vc_mono' {o : RO} {Q Q' : AX → (Nat → V) → St → Prop} {K K' : (Nat → V) → St → Prop} (hQ : ∀ e σ S, Q e σ S → Q' e σ S) (hK : ∀ σ S, K σ S → K' σ S) (h : o.vc P Q K σ S) : o.vc P Q' K' σ S := by
  unfold RO.vc at *
  cases hg : o.guard with
  | none => rw [hg] at h; exact vc1_mono hQ hK h
  | some p =>
    obtain ⟨t, want⟩ := p
    rw [hg] at h
    simp only at h ⊢
    split at h
    · rename_i b hb
      cases hbw : (b == want) with
      | true => rw [hbw] at h; exact vc1_mono hQ hK h
      | false => rw [hbw] at h; exact hK _ _ h
    · exact hK _ _ h
    · exact h.elim

end

section
variable {P : Program} {N : Nat} {S₀ : St} {ops : Array Oper} {ros : Array RO} {kA : Nat} {Q : AX → (Nat → V) → St → Prop}

theorem lexB_sound : ∀ (n k : Nat) (listed : Array Bool) (σ : Nat → V) (S : St), lexAB ops ros kA n k listed = true → kA ≤ k → ros.size = k + n → vcOps P Q (ros.toList.drop k) σ S →
    wpAnyA P N S₀ ops ros kA Q n listed σ S
  | 0, k, listed, σ, S, hl, hk, hn, hv => by
    rw [List.drop_eq_nil_of_le (by simp; omega)] at hv
    exact ⟨by simpa [lexAB] using hl, hv⟩
  | n + 1, k, listed, σ, S, hl, hk, hn, hv => by
    have hlt : k < ros.toList.length := by simp; omega
    rw [List.drop_eq_getElem_cons hlt] at hv
    simp only [lexAB, Bool.and_eq_true] at hl
    rw [if_neg (by omega)] at hl
    have hr : Region.ready .any ops listed = [k] := by simpa using hl.1
    refine ⟨fun h => (by rw [h] at hr; cases hr), fun i hi => ?_⟩
    rw [hr] at hi
    simp only [List.mem_singleton] at hi
    subst hi
    unfold aOp
    have hro : ros[i]? = some ros.toList[i] := by
      have := List.getElem?_eq_getElem hlt
      simp at this ⊢
    simp only [hro]
    rw [if_neg (by omega)]
    exact vc_mono' (fun _ _ _ hq => hq) (fun σ S hk' => lexB_sound n (i + 1) _ σ S hl.2 (by omega) (by omega) hk') hv

theorem lexA_sound (hd : ∀ (i : Nat) (ro : RO), ros[i]? = some ro → ∀ k, ro.dst = some k → k < N) : ∀ (m n k : Nat) (listed : Array Bool) (σ : Nat → V) (S : St), lexAB ops ros kA (m + n) k listed = true → k + m = kA → ros.size = k + (m + n) → ops.size = ros.size →
    vcA P S₀ ((ros.toList.take kA).drop k) (nameOf ros S₀ k) (vcOps P Q (ros.toList.drop kA)) σ S → wpAnyA P N S₀ ops ros kA Q (m + n) listed σ S
  | 0, n, k, listed, σ, S, hl, hk, hn, ho, hv => by
    rw [List.drop_eq_nil_of_le (by simp; omega)] at hv
    simp only [Nat.zero_add] at hl hn ⊢
    exact lexB_sound n k listed σ S hl (by omega) hn (by simp only [vcA] at hv; rw [show k = kA by omega]; exact hv)
  | m + 1, n, k, listed, σ, S, hl, hk, hn, ho, hv => by
    have hlt : k < ros.toList.length := by simp; omega
    have hlt' : k < (ros.toList.take kA).length := by rw [List.length_take]; omega
    rw [List.drop_eq_getElem_cons hlt'] at hv
    have he : (ros.toList.take kA)[k] = ros.toList[k] := by simp
    rw [he] at hv
    have hro : ros[k]? = some ros.toList[k] := by simp
    rw [show m + 1 + n = (m + n) + 1 by omega] at hl ⊢
    simp only [lexAB, Bool.and_eq_true] at hl
    rw [if_pos (by omega)] at hl
    obtain ⟨h1, h2⟩ := hl
    simp only [Bool.and_eq_true] at h1
    obtain ⟨hr, hf⟩ := h1
    simp only [vcA] at hv
    obtain ⟨v, wt, hy, hK⟩ := q_qOp (N := N) (hd k _ hro) hv
    have hnm : (bif ros.toList[k].m.isBox then nameOf ros S₀ k + 1 else nameOf ros S₀ k) = nameOf ros S₀ (k + 1) := by
      unfold nameOf
      rw [List.take_succ_eq_append_getElem hlt, boxesB_append]
      cases hb : ros.toList[k].m.isBox with
      | true =>
        simp only [cond_true]
        have : boxesB [ros.toList[k]] = 1 := by simp only [boxesB, List.filter_cons, hb, if_true, List.filter_nil, List.length_cons, List.length_nil]
        omega
      | false =>
        simp only [cond_false]
        have : boxesB [ros.toList[k]] = 0 := by simp only [boxesB, List.filter_cons, hb, List.filter_nil]; rfl
        omega
    rw [hnm] at hK
    refine wpAnyA_first (by omega) hro (m + n) listed σ S ?_ (by simpa using hr) hy (lexA_sound hd m n (k + 1) _ _ _ h2 (by omega) (by omega) ho hK)
    intro j hj hjk hun hnw
    simp only [freeA, List.all_eq_true, List.mem_range] at hf
    have := hf j hj
    have hjr : j < ros.size := by omega
    have e1 : ros.getD k default = ros.toList[k] := by
      have : k < ros.size := by simpa using hlt
      simp [this]
    have e2 : ros.getD j default = ros[j] := by simp [hjr]
    rw [e1, e2] at this
    simp only [Bool.or_eq_true, beq_iff_eq, hjk, false_or, hun, Bool.false_eq_true, hnw, Bool.and_eq_true, decide_eq_true_eq] at this
    exact ⟨ros[j], by simp [hjr], this.2, this.1⟩

end
end Go.Pl
