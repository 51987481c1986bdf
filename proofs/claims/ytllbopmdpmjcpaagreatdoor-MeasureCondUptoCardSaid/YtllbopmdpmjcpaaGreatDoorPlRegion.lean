/- A region that draws its order: the whole. -/
import Derived.Test.YtllbopmdpmjcpaaGreatDoorPlDraw3
set_option linter.unusedSimpArgs false
set_option linter.unusedVariables false
set_option linter.unusedSectionVars false
namespace Go.Pl
section
variable {P : Program} {g₀ g : Gh} {w₀ : World} {N : Nat} {S₀ S S' : St} {w : World} {σ σ' : Nat → V} {a : Act} {ops : Array Oper} {ros : Array RO} {kA : Nat}

/-- The relation while the first operations come up. -/
structure RelA (P : Program) (g₀ : Gh) (w₀ : World) (N : Nat) (S₀ : St) (ros : Array RO) (kA : Nat) (listed : Array Bool) (g : Gh) (σ : Nat → V) (S : St) (a : Act) (w : World) : Prop where
  sim : Sim g₀ w₀ N g σ S a w
  extra : (∃ i oi, i < kA ∧ listed.getD i true = false ∧ ros[i]? = some oi ∧ oi.m.blind = false) → S₀.le S ∧ (S.n = S₀.n ∧ S.b = S₀.b ∧ S.c = S₀.c + boxesB (ros.toList.take kA)) ∧
    ∀ i oi, i < kA → listed.getD i true = false → ros[i]? = some oi → oi.m.isBox = true → g.loc S₀.b (nameOf ros S₀ i) = none

theorem nameOf_top {i : Nat} {oi : RO} (hi : ros[i]? = some oi) (hb : oi.m.isBox = true) (hk : i < kA) : S₀.c ≤ nameOf ros S₀ i ∧ nameOf ros S₀ i < S₀.c + boxesB (ros.toList.take kA) := by
  refine ⟨by unfold nameOf; omega, ?_⟩
  have := nameOf_lt (S₀ := S₀) hi hb hk
  unfold nameOf at this ⊢
  exact this

theorem gw_wanted {o : Oper} {gd : Option (Nat × Bool)} {wt : Bool} (hg : compGuard ops.toList o.guard = some gd) (hr : ∀ t, Rep g (σ t) (a.tmps.getD t Go.undef)) (hw : gw σ gd = some wt) :
    Region.wanted o (yielded ops a.tmps) = wt := by
  have h := wanted_guard hg hr
  cases gd with
  | none => simp only [gw, Option.some.injEq] at hw; subst hw; exact h
  | some p =>
    obtain ⟨t, want⟩ := p
    simp only [gw] at hw
    simp only [GuardSays] at h
    cases hx : σ t with
    | bool b => rw [hx] at hw; simp only [V.plain, Option.some.injEq] at hw; rw [h.1 b hx, hw]
    | tup l => rw [hx] at hw; simp only [V.plain, Option.some.injEq] at hw; rw [h.2 l hx, hw]
    | _ => rw [hx] at hw; simp [V.plain] at hw

theorem listed_set {listed : Array Bool} {i j : Nat} (h : (listed.setIfInBounds i true).getD j true = false) : listed.getD j true = false ∧ j ≠ i := by
  by_cases hij : i = j
  · subst hij
    exfalso
    rcases Nat.lt_or_ge i listed.size with h' | h'
    · simp [h'] at h
    · simp [Array.getElem?_eq_none (show (listed.setIfInBounds i true).size ≤ i by simpa using h')] at h
  · rw [getD_set_ne true hij] at h
    exact ⟨h, fun e => hij e.symm⟩

/-- WHATEVER ORDER IS PICKED. -/
theorem anyA_sound {rs : List Nat} {Q : AX → (Nat → V) → St → Prop} (hlen : ros.size = ops.size) (hc : ∀ (i : Nat) (o : Oper), ops[i]? = some o → ∃ ro, ros[i]? = some ro ∧ compRO P ops.toList rs o = some ro)
    (hd : ∀ (i : Nat) o, ops[i]? = some o → ∀ k, o.dst = some k → k < N) (hlate : laterWait ops ros kA = true) (hS₀ : ∀ j k x, S₀.H j k = some x → S₀.ok j k = true) :
    ∀ (fuel : Nat) (listed : Array Bool) (g : Gh) (σ : Nat → V) (S : St) (a : Act) (w : World), RelA P g₀ w₀ N S₀ ros kA listed g σ S a w → wpAnyA P N S₀ ops ros kA Q fuel listed σ S →
      wpAny P .any ops (APost g₀ w₀ N Q) fuel listed a w
  | 0, listed, g, σ, S, a, w, hR, h => ⟨h.1, ⟨g, σ, S, hR.sim, h.2⟩⟩
  | fuel + 1, listed, g, σ, S, a, w, hR, h => by
    refine ⟨fun h0 => ⟨g, σ, S, hR.sim, h.1 h0⟩, fun i hi => ?_⟩
    have hA := h.2 i hi
    obtain ⟨hun, o, ho, hall⟩ := mem_ready.1 hi
    obtain ⟨ro, hro, hcr⟩ := hc i o ho
    have hsp := compRO_spec hcr
    unfold aOp at hA
    simp only [hro] at hA
    unfold wpOp
    simp only [ho]
    by_cases hik : i < kA
    · rw [if_pos hik] at hA
      obtain ⟨v, wt, hy, hK⟩ := hA
      have hw := gw_wanted (a := a) hsp.2.1 hR.sim.rep hy.g
      cases wt with
      | false =>
        rw [hw]
        simp only [Bool.false_eq_true, if_false]
        have hv := hy.n rfl
        subst hv
        refine anyA_sound hlen hc hd hlate hS₀ fuel _ g _ _ _ _ ⟨?_, fun hsome => ?_⟩ hK
        · simp only [stepF, stepS, Bool.false_and, Bool.false_eq_true, if_false]
          rw [hsp.2.2.1]
          exact hR.sim.undef (hd i o ho)
        · obtain ⟨i', oi', q1, q2, q3⟩ := hsome
          have hex := hR.extra ⟨i', oi', q1, (listed_set q2).1, q3⟩
          refine ⟨by simpa [stepS] using hex.1, by simpa [stepS] using hex.2.1, ?_⟩
          intro k ok hk hl hok hb
          exact hex.2.2 k ok hk (listed_set hl).1 hok hb
      | true =>
        rw [hw]
        simp only [if_true]
        have hexb : ro.m.blind = false → _ := fun hbl => hR.extra ⟨i, ro, hik, hun, hro, hbl⟩
        have hboxb : ro.m.isBox = true → ro.m.blind = false := fun hb => by
          cases hbl : ro.m.blind with
          | false => rfl
          | true => rw [blind_isBox hbl] at hb; cases hb
        refine .inl (q_sound hcr hR.sim ?_ (hy.y rfl) (hd i o ho) (fun hb => ?_) (fun hb => (hexb (hboxb hb)).2.1.2.1) fun g' a' w' hs' hl' => ?_)
        · cases hbl : ro.m.blind with
          | true => exact .inr rfl
          | false => exact .inl (hexb hbl).1
        · have hex := hexb (hboxb hb)
          have := nameOf_top (S₀ := S₀) hro hb hik
          have hlow := hR.sim.low
          have hx := hex.2.1
          exact ⟨hex.2.2 i ro hik hun hro hb, (ok_iff _ _ _).2 ⟨by omega, fun _ => by omega⟩⟩
        · refine anyA_sound hlen hc hd hlate hS₀ fuel _ g' _ _ _ _ ⟨?_, fun hsome => ?_⟩ hK
          · simp only [stepF, stepS, Bool.true_and, if_true]
            rw [hsp.2.2.1]
            exact hs'
          · obtain ⟨i', oi', q1, q2, q3⟩ := hsome
            have hex := hR.extra ⟨i', oi', q1, (listed_set q2).1, q3⟩
            refine ⟨?_, ?_, ?_⟩
            · unfold stepS
              split
              · rename_i hb
                simp only [Bool.true_and] at hb
                have hnt := nameOf_top (S₀ := S₀) hro hb hik
                refine ⟨fun j k x hj => ?_, hex.1.2⟩
                have := (ok_iff _ _ _).1 (hS₀ j k x hj)
                have hx := hex.2.1
                simp only [St.set, upd2_eq S.hO]
                rw [if_neg (by rintro ⟨e1, e2⟩; have := this.2 (by omega); omega)]
                exact hex.1.1 j k x hj
              · exact hex.1
            · unfold stepS
              split <;> exact hex.2.1
            · intro k ok hk hl hok hb
              obtain ⟨h1, h2⟩ := listed_set hl
              have hnt := nameOf_top (S₀ := S₀) hok hb hk
              have hlow := hR.sim.low
              have hx := hex.2.1
              exact hl' _ _ ((ok_iff _ _ _).2 ⟨by omega, fun _ => by omega⟩) (fun hb' e => nameOf_ne (S₀ := S₀) hok hro h2 hb hb' e.2) (hex.2.2 k ok hk h1 hok hb)
    · rw [if_neg hik] at hA
      have hallA : ∀ k ok, k < kA → ros[k]? = some ok → ok.m.blind = false → listed.getD k true = true := by
        intro k ok hk hok hbl
        have hilt : i < ops.size := (Array.getElem?_eq_some_iff.1 ho).1
        simp only [laterWait, List.all_eq_true, List.mem_range] at hlate
        have hli := hlate i hilt
        simp only [Bool.or_eq_true, decide_eq_true_eq, hik, false_or, List.all_eq_true, List.mem_range] at hli
        have := hli k (by omega)
        have ek : ros.getD k default = ok := by
          obtain ⟨hk1, hk2⟩ := Array.getElem?_eq_some_iff.1 hok
          simp [hk1, hk2]
        rw [ek, hbl] at this
        simp only [Bool.and_false, Bool.false_eq_true, or_false] at this
        unfold waitsOn at this
        rw [ho] at this
        simp only at this
        obtain ⟨e, he, hb⟩ := Array.any_eq_true'.1 this
        simp only [Bool.and_eq_true, beq_iff_eq] at hb
        have := hall e he hb.1
        rw [hb.2] at this
        rcases Nat.lt_or_ge k listed.size with h' | h'
        · simp [h'] at this ⊢; exact this
        · simp [Array.getElem?_eq_none h'] at this
      have := vc_wpOp (ops := ops) (K' := wpAny P .any ops (APost g₀ w₀ N Q) fuel (listed.setIfInBounds i true)) hcr hR.sim hA (hd i o ho) fun g' σ' S' a' w' hs' hk' => by
        refine anyA_sound hlen hc hd hlate hS₀ fuel _ g' σ' S' a' w' ⟨hs', ?_⟩ hk'
        rintro ⟨k, ok, hk, hl, hok, hbl⟩
        have := (listed_set hl).1
        rw [hallA k ok hk hok hbl] at this
        cases this
      split
      · rename_i hw; rw [if_pos hw] at this; exact .inl this
      · rename_i hw; rw [if_neg hw] at this; exact this

theorem compROs_get {rs : List Nat} {all : List Oper} : ∀ {l : List Oper} {r : List RO}, compROs P all rs l = some r → r.length = l.length ∧ ∀ (i : Nat) o, l[i]? = some o → ∃ ro, r[i]? = some ro ∧ compRO P all rs o = some ro
  | [], r, h => by simp [compROs] at h; subst h; simp
  | o :: l, r, h => by
    simp only [compROs] at h
    split at h
    · rename_i x l' h1 h2
      cases h
      have ih := compROs_get h2
      refine ⟨by simp [ih.1], fun i o' ho => ?_⟩
      cases i with
      | zero => simp at ho; subst ho; exact ⟨x, by simp, h1⟩
      | succ i => simpa using ih.2 i o' (by simpa using ho)
    · cases h

/-- May a region that draws its order be walked so? -/
def drawOk (ops : Array Oper) (ros : List RO) (kA : Nat) : Bool :=
  decide (kA ≤ ops.size) && laterWait ops ros.toArray kA && lexAB ops ros.toArray kA ops.size 0 (Array.replicate ops.size false)

theorem draw_sound {rs : List Nat} {ros : List RO} {id : Nat} {Q : AX → (Nat → V) → St → Prop} (hm : P.follows .mixedOrders = true) (hc : compROs P ops.toList rs ops.toList = some ros)
    (hd : dstsOk N ops.toList = true) (hok : drawOk ops ros kA = true) (h : Sim g₀ w₀ N g σ S a w) (hv : vcDraw P Q kA ros σ S) : (Code.region id ops true).wp P (APost g₀ w₀ N Q) a w := by
  simp only [drawOk, Bool.and_eq_true, decide_eq_true_eq] at hok
  obtain ⟨⟨hk, hlate⟩, hlex⟩ := hok
  obtain ⟨hl, hget⟩ := compROs_get hc
  have hsz : ros.toArray.size = ops.size := by simpa using hl
  refine wp_region_any hm ?_
  have hbound : ∀ j k x, S.H j k = some x → S.ok j k = true := fun j k x hj => by
    obtain ⟨b, cs, e, h1, _⟩ := h.sim.box j k x hj
    cases hok : S.ok j k with
    | true => rfl
    | false => rw [h.sim.fresh j k hok] at h1; cases h1
  have hmono : ∀ j k, S.ok j k = true → ({ S with c := S.c + boxesB (ros.take kA) } : St).ok j k = true := fun j k hj => by
    rw [ok_iff] at hj ⊢
    exact ⟨hj.1, fun e => Nat.lt_of_lt_of_le (hj.2 e) (Nat.le_add_right _ _)⟩
  have hdst : ∀ (i : Nat) (o : Oper), ops[i]? = some o → ∀ k, o.dst = some k → k < N := fun i o ho k hk' => by
    simp only [dstsOk, List.all_eq_true] at hd
    have := hd o (by obtain ⟨hi, rfl⟩ := Array.getElem?_eq_some_iff.1 ho; simp)
    rw [hk'] at this
    simpa using this
  have hdro : ∀ (i : Nat) (ro : RO), ros.toArray[i]? = some ro → ∀ k, ro.dst = some k → k < N := fun i ro hro k hk' => by
    have hi : i < ops.size := by rw [← hsz]; exact (Array.getElem?_eq_some_iff.1 hro).1
    obtain ⟨ro', h1, h2⟩ := hget i ops[i] (by simp [hi])
    have e : ro' = ro := by simp at hro; rw [hro] at h1; cases h1; rfl
    subst e
    exact hdst i ops[i] (by simp [hi]) k (by rw [← (compRO_spec h2).2.2.1]; exact hk')
  have hstart := lexA_sound hdro (P := P) (N := N) (S₀ := S) (ops := ops) (ros := ros.toArray) (kA := kA) (Q := Q) kA (ops.size - kA) 0 (Array.replicate ops.size false) σ { S with c := S.c + boxesB (ros.take kA) }
    (by rw [show kA + (ops.size - kA) = ops.size by omega]; exact hlex) (by omega) (by omega) hsz.symm (by unfold vcDraw at hv; simpa [nameOf, boxesB] using hv)
  rw [show kA + (ops.size - kA) = ops.size by omega] at hstart
  refine anyA_sound (kA := kA) (rs := rs) (S₀ := S) (ros := ros.toArray) hsz (fun i o ho => by
      obtain ⟨ro, h1, h2⟩ := hget i o (by simpa using ho)
      exact ⟨ro, by simpa using h1, h2⟩) hdst hlate hbound _ _ g σ { S with c := S.c + boxesB (ros.take kA) } a _ ⟨?_, fun _ => ⟨⟨fun _ _ _ hx => hx, hmono⟩, by simp, ?_⟩⟩ hstart
  · have h' := h.drew (w.drawn + 1)
    exact ⟨h'.ext, ⟨h'.sim.mem, h'.sim.box, h'.sim.inj, h'.sim.boxM, h'.sim.locB, fun i k hi => h'.sim.fresh i k (by
      cases hok : S.ok i k with
      | false => rfl
      | true => rw [hmono i k hok] at hi; cases hi)⟩, h'.size, h'.dfr, h'.rep, h'.claim, h'.sep, h'.low, h'.none0⟩
  · intro i oi hi _ hoi hb
    have := nameOf_top (S₀ := S) hoi hb hi
    exact h.sim.fresh _ _ (by rw [ok_not]; intro e; have := e.2 rfl; omega)

end
end Go.Pl
