import Derived.Test.YtllbopmdpmjcpaaGreatDoorM08
set_option linter.unusedSimpArgs false
set_option linter.unusedVariables false
set_option linter.unusedSectionVars false
section
namespace Go.Pl
section
variable {P : Program} {g₀ g : Gh} {w₀ : World} [Tab P g₀ w₀] {N : Nat} {S₀ S S' : St} {w : World} {σ σ' : Nat → V} {a : Act}
theorem val_le {m : M} {v : V} (h : m.val σ S₀ = some v) (hl : S₀.le S) : m.val σ S = some v := by
 cases m
 case ld sz ag x =>
  simp only [M.val] at h ⊢
  split at h
  ·exact h
  ·rename_i i k off hx
   split at h
   ·rename_i y hy; rw [hl.1 _ _ _ hy]; exact h
   ·cases h
  ·split at h
   ·rename_i hy
    rw [hl.1 _ _ _ hy]
    simp only [S₀.hO] at h
    simp only [S.hO]; exact h
   ·cases h
  ·cases h
 case slc sz x lo hi mx =>
  cases mx with
  | none => simp only [M.val, S.hO]; simp only [M.val, S₀.hO] at h; exact h
  | some m => simp only [M.val] at h; cases h
 case mlk kt ok z x k =>
  simp only [M.val, S₀.hO] at h
  simp only [M.val, S.hO]
  split at h
  ·split at h
   ·rename_i hy; rw [hl.1 _ _ _ hy]; exact h
   ·cases h
  ·exact h
  ·cases h
 case mln x =>
  simp only [M.val, S₀.hO] at h
  simp only [M.val, S.hO]
  split at h
  ·split at h
   ·rename_i hy; rw [hl.1 _ _ _ hy]; exact h
   ·cases h
  ·exact h
  ·cases h
 all_goals first
  | exact h
  | (simp only [M.val, S.hO]; simp only [M.val, S₀.hO] at h; exact h)
theorem Boxed.set {i l : Nat} (h : S.ok i l = true) (x : V) : Boxed S i l x (S.set i l x) := ⟨rfl, h, fun _ _ h => h, Nat.le_refl _, rfl⟩
theorem val_blind {m : M} {v : V} (hb : m.blind = true) (h : m.val σ S₀ = some v) : m.val σ S = some v := by
 cases m
 case ld sz ag x => simp [M.blind] at hb
 case mlk kt ok z x k => simp [M.blind] at hb
 case mln x => simp [M.blind] at hb
 case slc sz x lo hi mx =>
  cases mx with
  | none => simp only [M.val, S.hO]; simp only [M.val, S₀.hO] at h; exact h
  | some m => simp only [M.val] at h; cases h
 all_goals first
  | exact h
  | (simp only [M.val, S.hO]; simp only [M.val, S₀.hO] at h; exact h)
theorem q_sound {ops : List Oper} {rs : List Nat} {o : Oper} {ro : RO} {nm : Nat} {v : V} {Q : Exit → Act → World → Prop} {K' : Act → World → Prop} (hc : compRO P ops rs o = some ro)
  (h : Sim g₀ w₀ N g σ S a w) (hl : S₀.le S ∨ ro.m.blind = true) (hq : qval P S₀ nm σ ro.m v) (hd : ∀ k, o.dst = some k → k < N) (hnm : ro.m.isBox = true → g.loc S₀.b nm = none ∧ S.ok S₀.b nm = true) (hbb : ro.m.isBox = true → S.b = S₀.b)
  (hK : ∀ g' a' w', Sim g₀ w₀ N g' (Pl.putD (downF σ ro.m.downs) o.dst v) (if ro.m.isBox then S.set S.b nm (ro.m.boxed σ) else S) a' w' →
   (∀ i k, S.ok i k = true → (ro.m.isBox = true → ¬ (i = S₀.b ∧ k = nm)) → g.loc i k = none → g'.loc i k = none) → K' a' w') : o.wp P a w K' Q := by
 obtain ⟨hm, _, hdst, hst, hkind⟩ := compRO_spec hc
 have pureCase : ∀ m, compPure P o.op = some m → ro.m = m → m.downs = none → m.isBox = false → m.val σ S₀ = some v → o.wp P a w K' Q := by
  intro m hp hmm h1 h2 hval
  obtain ⟨val, e1, e2, e3⟩ := pure_val hp h.sim h.rep (hl.elim (val_le hval) fun hb => val_blind (by rw [← hmm]; exact hb) hval)
  refine Leaves.wp (.inl ⟨val, e1, rfl⟩) (hK g _ _ ?_ (fun i k _ _ hk => hk))
  rw [hmm, h1, h2]
  exact h.putD hd e2 e3
 have asgCase : ∀ x x', compX x = some x' → ro.m = .asg x' → (∀ val, val = a.eval x → (execOp a.eval o).run P w = .ok (.value val) w) → o.dst.isSome = true → o.wp P a w K' Q := by
  intro x x' hx hmm hrun hsome
  obtain ⟨r1, r2, r3⟩ := raw_rep h hx
  obtain ⟨d, hdd⟩ := Option.isSome_iff_exists.1 hsome
  rw [hmm] at hq
  simp only [qval] at hq
  subst hq
  refine Leaves.wp (a' := a.put o.dst (a.eval x)) (w' := w) (.inl ⟨a.eval x, hrun _ rfl, rfl⟩) (hK g _ _ ?_ (fun i k _ _ hk => hk))
  rw [hmm, hdd]
  simp only [M.downs, M.isBox]
  rw [← x_down]
  exact (down_sim h x').put' (hd d hdd) h.ext h.sim (.refl g) r1 (fun _ _ c => c) r2 (fun t b _ hs => r3 t b hs)
 have dstSome : ro.m.isCall = false → ro.m.noDst = false → o.dst.isSome = true := by
  intro n1 h3
  rcases hkind with e | e
  ·rw [n1] at e; cases e
  ·exact e h3
 have callEnd : S₀.le S → ∀ (f : Nat) (args : List V) (vals : Array Value), Pl.Pure P f args S₀ v → Reps g args vals → ro.m.downs = none → ro.m.isBox = false → (execOp a.eval o).run P w = .ok (.enter f vals) w → o.wp P a w K' Q := by
  intro hl f args vals hp hr h1 h2 hrun
  have hcall := hp.run S hl
  unfold Oper.wp
  rw [hrun]
  refine (hcall.2 (g.at S.n) w vals (h.sim.at _) (Base.at h.ext _) (hr.mono (Le.at g _))).mono ?_
  rintro e w' ⟨g₁, S', ae, hx₁, hs₁, hn, he₁, rfl, rfl⟩
  cases e with
  | returned val =>
   have hx := hx₁.back h.low'
   have hs : SimW (g₁.at g.top) S' w' := hs₁.at _
   have he : RepEnd (g₁.at g.top) w' w.heap.size (.ret v) (.returned val) := he₁.at _
   refine hK (g₁.at g.top) _ _ ?_ (fun i k hk _ hk' => hx₁.newName i k ((ok_iff _ _ _).1 hk).1 hk')
   rw [h1, h2]
   exact h.returned hx hs hn hd he.1 he.2
  | panicked chain => exact he₁.elim
  | outgrown => exact he₁.elim
 have callCase : ∀ m, compCall P o.op = some m → ro.m = m → o.wp P a w K' Q := by
  intro m hp hmm
  rcases call_of_op hp with ⟨f, args, xs, ho, hf, hx, rfl⟩ | ⟨t, args, xs, ho, hx, rfl⟩ | ⟨x, x', ho, hx, rfl⟩
  ·rw [hmm] at hq
   refine callEnd (hl.resolve_right (by rw [hmm]; simp [M.blind])) f _ (args.1.toList.map a.eval).toArray hq (reps_args hx h.rep) (by rw [hmm]; rfl) (by rw [hmm]; rfl) ?_
   have e : args.1.map a.eval = (args.1.toList.map a.eval).toArray := by apply Array.ext'; simp
   simp [execOp, ho, resolve, Act.eval, Deferred.ofValue, invoke, callFunc_run hf, e]
  ·rw [hmm] at hq
   simp only [qval] at hq
   have hxr := (compX_rep (o := .tmp t) (x := .t t) rfl h.rep).1
   revert hq hxr
   generalize (X.t t).ev σ = fv
   intro hq hxr
   cases fv with
   | fn f caps =>
    simp only at hq
    generalize hev : a.eval (.tmp t) = pv at hxr
    cases hxr with
    | fn _ _ vs hl' hcap =>
     have hra := reps_args hx h.rep
     have hrr : Reps g (xs.map (·.ev σ) ++ caps) ((args.1.toList.map a.eval).toArray ++ vs) := by
      refine ⟨by simp only [List.length_append, Array.size_append, hl', hra.1], fun j y v hy hv' => ?_⟩
      rw [List.getElem?_append] at hy
      rw [Array.getElem?_append] at hv'
      rw [hra.1] at hy
      split at hy
      ·rename_i hlt; rw [if_pos hlt] at hv'; exact hra.2 _ _ _ hy hv'
      ·rename_i hlt; rw [if_neg hlt] at hv'; exact hcap _ _ _ hy hv'
     have hl := hl.resolve_right (by rw [hmm]; simp [M.blind])
     refine callEnd hl f _ _ hq hrr (by rw [hmm]; rfl) (by rw [hmm]; rfl) ?_
     have e : args.1.map a.eval = (args.1.toList.map a.eval).toArray := by apply Array.ext'; simp
     simp [execOp, ho, resolve, hev, Deferred.ofValue, invoke, callFunc_run (hq.run S hl).1, e]
   | _ => simp at hq
  ·rw [hmm] at hq; simp [qval, M.val] at hq
 unfold compM at hm
 split at hm
 ·rename_i x d ho hdd
  split at hm <;> (simp only [Option.map_eq_some_iff] at hm; obtain ⟨x', hx, hm⟩ := hm)
  ·exact asgCase x x' hx hm.symm (fun val hv => by subst hv; simp [execOp, ho]) (by rw [hdd]; rfl)
  ·refine pureCase (.mv x') (by rw [ho]; simp [compPure, hx]) hm.symm rfl rfl ?_
   rw [← hm] at hq; exact hq
 ·split at hm
  ·rename_i m he
   simp only [Option.some.injEq] at hm
   have hds := dstSome (by rw [← hm]; exact eff_not_call he)
   obtain ⟨dst, op, type, pos, after, guard⟩ := o
   simp only at he hds hd hdst hK ⊢
   unfold compEff at he
   split at he
   ·simp only [Option.map_eq_some_iff] at he
    obtain ⟨x', hx, rfl⟩ := he
    exact asgCase _ x' hx hm.symm (fun val hv => by subst hv; simp [execOp]) (hds (by rw [← hm]; rfl))
   ·split at he
    ·rename_i hi
     split at he
     ·rename_i hz
      simp only [Option.map_eq_some_iff] at he
      obtain ⟨z', hz', rfl⟩ := he
      obtain ⟨d, rfl⟩ := Option.isSome_iff_exists.1 (hds (by rw [← hm]; rfl))
      rw [← hm] at hq hnm hK hbb
      have hbb := hbb rfl
      simp only [qval] at hq
      subst hq
      obtain ⟨b1, b2⟩ := hnm rfl
      obtain ⟨a', w', k1, k2⟩ := leaves_new (o := ⟨some d, _, type, pos, after, guard⟩) rfl hi hz hz' rfl (hd d rfl) h (.set b2 _) b1 (by rw [← hbb]; exact h.low.1)
      exact k1.wp (hK _ _ _ (by rw [hbb]; exact k2) (fun i k _ hk hk' => by simp only [Gh.addBox]; rw [if_neg (hk rfl)]; exact hk'))
     ·cases he
    ·cases he
   ·split at he
    ·simp only [Option.map_eq_some_iff] at he
     obtain ⟨x', hx, rfl⟩ := he
     obtain ⟨d, rfl⟩ := Option.isSome_iff_exists.1 (hds (by rw [← hm]; rfl))
     rw [← hm] at hq hK
     simp only [qval] at hq
     obtain ⟨hq1, rfl⟩ := hq
     obtain ⟨g', a', w', kl, k1, k2⟩ := leaves_boxr (o := ⟨some d, _, type, pos, after, guard⟩) rfl hx rfl (hd d rfl) h hq1
     exact k1.wp (hK _ _ _ k2 (fun i k _ _ hk' => by rw [kl]; exact hk'))
    simp only [Option.map_eq_some_iff] at he
    obtain ⟨x', hx, rfl⟩ := he
    obtain ⟨d, rfl⟩ := Option.isSome_iff_exists.1 (hds (by rw [← hm]; rfl))
    rw [← hm] at hq hnm hK hbb
    have hbb := hbb rfl
    simp only [qval] at hq
    obtain ⟨hq1, rfl⟩ := hq
    obtain ⟨b1, b2⟩ := hnm rfl
    obtain ⟨a', w', k1, k2⟩ := leaves_box (o := ⟨some d, _, type, pos, after, guard⟩) rfl hx rfl (hd d rfl) h hq1 (.set b2 _) b1 (by rw [← hbb]; exact h.low.1)
    exact k1.wp (hK _ _ _ (by rw [hbb]; exact k2) (fun i k _ hk hk' => by simp only [Gh.addBox]; rw [if_neg (hk rfl)]; exact hk'))
   ·split at he
    ·rename_i hu
     split at he
     ·rename_i he' hx
      split at he <;> cases he
      rename_i hcond
      obtain ⟨d, rfl⟩ := Option.isSome_iff_exists.1 (hds (by rw [← hm]; rfl))
      rw [← hm] at hq hK
      simp only [qval] at hq
      obtain ⟨hq1, rfl⟩ := hq
      simp only [S₀.hO, Ops.std] at hq1
      simp only [Bool.and_eq_true, List.all_eq_true, decide_eq_true_eq, beq_iff_eq] at hq1
      obtain ⟨g', a', w', kl, k1, k2⟩ := leaves_mks (o := ⟨some d, _, type, pos, after, guard⟩) rfl hu he' hx hcond.1 hcond.2.1 hcond.2.2 rfl (hd d rfl) h hq1.1 (by simpa using hq1.2)
      exact k1.wp (hK _ _ _ k2 (fun i k _ _ hk' => by rw [kl]; exact hk'))
     ·cases he
    ·cases he
   ·split at he <;> cases he
    rw [← hm] at hq
    exact hq.elim
   ·rename_i args ts _ _
    split at he
    ·rename_i x y t t' hargs hts
     split at he
     ·rename_i htt
      subst htt
      split at he
      ·rename_i hu
       split at he
       ·rename_i he' hx hy
        split at he <;> cases he
        rename_i hcond
        have hA : args = #[x, y] := by apply Array.ext'; simpa using hargs
        have hT : ts = #[t, t] := by apply Array.ext'; simpa using hts
        subst hA; subst hT
        obtain ⟨d, rfl⟩ := Option.isSome_iff_exists.1 (hds (by rw [← hm]; rfl))
        rw [← hm] at hq hK
        simp only [qval] at hq
        obtain ⟨g', a', w', kl, k1, k2⟩ := leaves_app (o := ⟨some d, _, type, pos, after, guard⟩) rfl hu he' hx hy hcond.1 hcond.2 rfl (hd d rfl) h (by rw [S.hO]; rw [S₀.hO] at hq; exact hq)
        refine k1.wp (hK _ _ _ ?_ (fun i k _ _ hk' => by rw [kl]; exact hk'))
        simp only [M.downs, M.isBox]
        rw [← x_down]
        exact k2
       ·cases he
      ·cases he
     ·cases he
    ·cases he
   ·split at he
    ·split at he
     ·split at he
      ·split at he
       ·split at he <;> cases he
        rw [← hm] at hq; simp [qval, M.val] at hq
       ·cases he
      ·cases he
     ·cases he
    ·cases he
   ·cases he
    rw [← hm] at hq; simp [qval, M.val] at hq
   ·split at he
    ·split at he <;> cases he
     rw [← hm] at hq; simp [qval, M.val] at hq
    ·cases he
   ·split at he
    ·split at he <;> cases he
     rw [← hm] at hq; simp [qval, M.val] at hq
    ·cases he
   ·cases he
  ·split at hm
   ·rename_i m hp
    simp only [Option.some.injEq] at hm
    rw [← hm] at hq
    have : m.downs = none ∧ m.isBox = false ∧ (qval P S₀ nm σ m v → m.val σ S₀ = some v) := by
     unfold compPure at hp
     split at hp
     all_goals (repeat' (first | (cases hp; done) | (simp only [Option.map_eq_some_iff] at hp; obtain ⟨_, _, rfl⟩ := hp; exact ⟨rfl, rfl, fun h => h⟩) | (cases hp; exact ⟨rfl, rfl, fun h => h⟩) | split at hp))
    exact pureCase m hp hm.symm this.1 this.2.1 (this.2.2 hq)
   ·exact callCase ro.m hm rfl
end
end Go.Pl
end
section
namespace Go.Pl
section
variable {P : Program} {g₀ g : Gh} {w₀ : World} [Tab P g₀ w₀] {N : Nat} {S₀ S S' : St} {w : World} {σ σ' : Nat → V} {a : Act} {ops : Array Oper} {ros : Array RO} {kA : Nat}
structure RelA (P : Program) (g₀ : Gh) (w₀ : World) (N : Nat) (S₀ : St) (ros : Array RO) (kA : Nat) (listed : Array Bool) (g : Gh) (σ : Nat → V) (S : St) (a : Act) (w : World) : Prop where
 sim : Sim g₀ w₀ N g σ S a w
 extra : (∃ i oi, i < kA ∧ listed.getD i true = false ∧ ros[i]? = some oi ∧ oi.m.blind = false) → S₀.le S ∧ (S.n = S₀.n ∧ S.b = S₀.b ∧ S.c = S₀.c + boxesB (ros.toList.take kA)) ∧
  ∀ i oi, i < kA → listed.getD i true = false → ros[i]? = some oi → oi.m.isBox = true → g.loc S₀.b (nameOf ros S₀ i) = none
theorem nameOf_top {i : Nat} {oi : RO} (hi : ros[i]? = some oi) (hb : oi.m.isBox = true) (hk : i < kA) : S₀.c ≤ nameOf ros S₀ i ∧ nameOf ros S₀ i < S₀.c + boxesB (ros.toList.take kA) := by
 refine ⟨by unfold nameOf; omega, ?_⟩
 have := nameOf_lt (S₀ := S₀) hi hb hk
 unfold nameOf at this ⊢
 exact this
theorem gw_wanted {o : Oper} {gd : Option (Nat × Bool)} {wt : Bool} (hg : compGuard ops.toList o.guard = some gd) (hr : ∀ t, Rep g (σ t) (a.tmps.getD t Go.undef)) (hw : gw σ gd = some wt) :
  Region.wanted o (yielded ops a.tmps) = wt := by
 have h := wanted_guard hg hr
 cases gd with
 | none => simp only [gw, Option.some.injEq] at hw; subst hw; exact h
 | some p =>
  obtain ⟨t, want⟩ := p
  simp only [gw] at hw
  simp only [GuardSays] at h
  cases hx : σ t with
  | bool b => rw [hx] at hw; simp only [V.plain, Option.some.injEq] at hw; rw [h.1 b hx, hw]
  | tup l => rw [hx] at hw; simp only [V.plain, Option.some.injEq] at hw; rw [h.2 l hx, hw]
  | _ => rw [hx] at hw; simp [V.plain] at hw
theorem listed_set {listed : Array Bool} {i j : Nat} (h : (listed.setIfInBounds i true).getD j true = false) : listed.getD j true = false ∧ j ≠ i := by
 by_cases hij : i = j
 ·subst hij
  exfalso
  rcases Nat.lt_or_ge i listed.size with h' | h'
  ·simp [h'] at h
  ·simp [Array.getElem?_eq_none (show (listed.setIfInBounds i true).size ≤ i by simpa using h')] at h
 ·rw [getD_set_ne true hij] at h
  exact ⟨h, fun e => hij e.symm⟩
theorem anyA_sound {rs : List Nat} {Q : AX → (Nat → V) → St → Prop} (hlen : ros.size = ops.size) (hc : ∀ (i : Nat) (o : Oper), ops[i]? = some o → ∃ ro, ros[i]? = some ro ∧ compRO P ops.toList rs o = some ro)
  (hd : ∀ (i : Nat) o, ops[i]? = some o → ∀ k, o.dst = some k → k < N) (hlate : laterWait ops ros kA = true) (hS₀ : ∀ j k x, S₀.H j k = some x → S₀.ok j k = true) :
  ∀ (fuel : Nat) (listed : Array Bool) (g : Gh) (σ : Nat → V) (S : St) (a : Act) (w : World), Closed ops listed → RelA P g₀ w₀ N S₀ ros kA listed g σ S a w → wpAnyA P N S₀ ops ros kA Q fuel listed σ S →
   wpAny P .any ops (APost g₀ w₀ N Q) fuel listed a w
 | 0, listed, g, σ, S, a, w, _, hR, h => ⟨h.1, ⟨g, σ, S, hR.sim, h.2⟩⟩
 | fuel + 1, listed, g, σ, S, a, w, hcl, hR, h => by
  refine ⟨fun h0 => ⟨g, σ, S, hR.sim, h.1 h0⟩, fun i hi => ?_⟩
  have hA := h.2 i hi
  obtain ⟨hun, o, ho, hall⟩ := mem_ready.1 hi
  obtain ⟨ro, hro, hcr⟩ := hc i o ho
  have hsp := compRO_spec hcr
  unfold aOp at hA
  simp only [hro] at hA
  unfold wpOp
  simp only [ho]
  by_cases hik : i < kA
  ·rw [if_pos hik] at hA
   obtain ⟨v, wt, hy, hK⟩ := hA
   have hw := gw_wanted (a := a) hsp.2.1 hR.sim.rep hy.g
   cases wt with
   | false =>
    rw [hw]
    simp only [Bool.false_eq_true, if_false]
    have hv := hy.n rfl
    subst hv
    refine anyA_sound hlen hc hd hlate hS₀ fuel _ g _ _ _ _ (hcl.set hi) ⟨?_, fun hsome => ?_⟩ hK
    ·simp only [stepF, stepS, Bool.false_and, Bool.false_eq_true, if_false]
     rw [hsp.2.2.1]
     exact hR.sim.undef (hd i o ho)
    ·obtain ⟨i', oi', q1, q2, q3⟩ := hsome
     have hex := hR.extra ⟨i', oi', q1, (listed_set q2).1, q3⟩
     refine ⟨by simpa [stepS] using hex.1, by simpa [stepS] using hex.2.1, ?_⟩
     intro k ok hk hl hok hb
     exact hex.2.2 k ok hk (listed_set hl).1 hok hb
   | true =>
    rw [hw]
    simp only [if_true]
    have hexb : ro.m.blind = false → _ := fun hbl => hR.extra ⟨i, ro, hik, hun, hro, hbl⟩
    have hboxb : ro.m.isBox = true → ro.m.blind = false := fun hb => by
     cases hbl : ro.m.blind with
     | false => rfl
     | true => rw [blind_isBox hbl] at hb; cases hb
    refine .inl (q_sound hcr hR.sim ?_ (hy.y rfl) (hd i o ho) (fun hb => ?_) (fun hb => (hexb (hboxb hb)).2.1.2.1) fun g' a' w' hs' hl' => ?_)
    ·cases hbl : ro.m.blind with
     | true => exact .inr rfl
     | false => exact .inl (hexb hbl).1
    ·have hex := hexb (hboxb hb)
     have := nameOf_top (S₀ := S₀) hro hb hik
     have hlow := hR.sim.low
     have hx := hex.2.1
     exact ⟨hex.2.2 i ro hik hun hro hb, (ok_iff _ _ _).2 ⟨by omega, fun _ => by omega⟩⟩
    ·refine anyA_sound hlen hc hd hlate hS₀ fuel _ g' _ _ _ _ (hcl.set hi) ⟨?_, fun hsome => ?_⟩ hK
     ·simp only [stepF, stepS, Bool.true_and, if_true]
      rw [hsp.2.2.1]
      exact hs'
     ·obtain ⟨i', oi', q1, q2, q3⟩ := hsome
      have hex := hR.extra ⟨i', oi', q1, (listed_set q2).1, q3⟩
      refine ⟨?_, ?_, ?_⟩
      ·unfold stepS
       split
       ·rename_i hb
        simp only [Bool.true_and] at hb
        have hnt := nameOf_top (S₀ := S₀) hro hb hik
        refine ⟨fun j k x hj => ?_, hex.1.2⟩
        have := (ok_iff _ _ _).1 (hS₀ j k x hj)
        have hx := hex.2.1
        simp only [St.set, upd2_eq S.hO]
        rw [if_neg (by rintro ⟨e1, e2⟩; have := this.2 (by omega); omega)]
        exact hex.1.1 j k x hj
       ·exact hex.1
      ·unfold stepS
       split <;> exact hex.2.1
      ·intro k ok hk hl hok hb
       obtain ⟨h1, h2⟩ := listed_set hl
       have hnt := nameOf_top (S₀ := S₀) hok hb hk
       have hlow := hR.sim.low
       have hx := hex.2.1
       exact hl' _ _ ((ok_iff _ _ _).2 ⟨by omega, fun _ => by omega⟩) (fun hb' e => nameOf_ne (S₀ := S₀) hok hro h2 hb hb' e.2) (hex.2.2 k ok hk h1 hok hb)
  ·rw [if_neg hik] at hA
   have hallA : ∀ k ok, k < kA → ros[k]? = some ok → ok.m.blind = false → listed.getD k true = true := by
    intro k ok hk hok hbl
    have hilt : i < ops.size := (Array.getElem?_eq_some_iff.1 ho).1
    simp only [laterWait, List.all_eq_true, List.mem_range] at hlate
    have hli := hlate i hilt
    simp only [Bool.or_eq_true, decide_eq_true_eq, hik, false_or, List.all_eq_true, List.mem_range] at hli
    have := hli k (by omega)
    have ek : ros.getD k default = ok := by
     obtain ⟨hk1, hk2⟩ := Array.getElem?_eq_some_iff.1 hok
     simp [hk1, hk2]
    rw [ek, hbl] at this
    simp only [Bool.and_false, Bool.false_eq_true, or_false] at this
    exact hcl.ready hi this
   have := vc_wpOp (ops := ops) (K' := wpAny P .any ops (APost g₀ w₀ N Q) fuel (listed.setIfInBounds i true)) hcr hR.sim hA (hd i o ho) fun g' σ' S' a' w' hs' hk' => by
    refine anyA_sound hlen hc hd hlate hS₀ fuel _ g' σ' S' a' w' (hcl.set hi) ⟨hs', ?_⟩ hk'
    rintro ⟨k, ok, hk, hl, hok, hbl⟩
    have := (listed_set hl).1
    rw [hallA k ok hk hok hbl] at this
    cases this
   split
   ·rename_i hw; rw [if_pos hw] at this; exact .inl this
   ·rename_i hw; rw [if_neg hw] at this; exact this
theorem compROs_get {rs : List Nat} {all : List Oper} : ∀ {l : List Oper} {r : List RO}, compROs P all rs l = some r → r.length = l.length ∧ ∀ (i : Nat) o, l[i]? = some o → ∃ ro, r[i]? = some ro ∧ compRO P all rs o = some ro
 | [], r, h => by simp [compROs] at h; subst h; simp
 | o :: l, r, h => by
  simp only [compROs] at h
  split at h
  ·rename_i x l' h1 h2
   cases h
   have ih := compROs_get h2
   refine ⟨by simp [ih.1], fun i o' ho => ?_⟩
   cases i with
   | zero => simp at ho; subst ho; exact ⟨x, by simp, h1⟩
   | succ i => simpa using ih.2 i o' (by simpa using ho)
  ·cases h
def drawOk (ops : Array Oper) (ros : List RO) (kA : Nat) : Bool :=
 decide (kA ≤ ops.size) && laterWait ops ros.toArray kA && lexAB ops ros.toArray kA ops.size 0 (Array.replicate ops.size false)
theorem draw_sound {rs : List Nat} {ros : List RO} {id : Nat} {Q : AX → (Nat → V) → St → Prop} (hm : P.follows .mixedOrders = true) (hc : compROs P ops.toList rs ops.toList = some ros)
  (hd : dstsOk N ops.toList = true) (hok : drawOk ops ros kA = true) (h : Sim g₀ w₀ N g σ S a w) (hv : vcDraw P Q kA ros σ S) : (Code.region id ops true).wp P (APost g₀ w₀ N Q) a w := by
 simp only [drawOk, Bool.and_eq_true, decide_eq_true_eq] at hok
 obtain ⟨⟨hk, hlate⟩, hlex⟩ := hok
 obtain ⟨hl, hget⟩ := compROs_get hc
 have hsz : ros.toArray.size = ops.size := by simpa using hl
 refine wp_region_any hm ?_
 have hbound : ∀ j k x, S.H j k = some x → S.ok j k = true := fun j k x hj => by
  obtain ⟨b, o, h1, _⟩ := h.sim.box j k x hj
  cases hok : S.ok j k with
  | true => rfl
  | false => rw [h.sim.fresh j k hok] at h1; cases h1
 have hmono : ∀ j k, S.ok j k = true → ({ S with c := S.c + boxesB (ros.take kA) } : St).ok j k = true := fun j k hj => by
  rw [ok_iff] at hj ⊢
  exact ⟨hj.1, fun e => Nat.lt_of_lt_of_le (hj.2 e) (Nat.le_add_right _ _)⟩
 have hdst : ∀ (i : Nat) (o : Oper), ops[i]? = some o → ∀ k, o.dst = some k → k < N := fun i o ho k hk' => by
  simp only [dstsOk, List.all_eq_true] at hd
  have := hd o (by obtain ⟨hi, rfl⟩ := Array.getElem?_eq_some_iff.1 ho; simp)
  rw [hk'] at this
  simpa using this
 have hdro : ∀ (i : Nat) (ro : RO), ros.toArray[i]? = some ro → ∀ k, ro.dst = some k → k < N := fun i ro hro k hk' => by
  have hi : i < ops.size := by rw [← hsz]; exact (Array.getElem?_eq_some_iff.1 hro).1
  obtain ⟨ro', h1, h2⟩ := hget i ops[i] (by simp [hi])
  have e : ro' = ro := by simp at hro; rw [hro] at h1; cases h1; rfl
  subst e
  exact hdst i ops[i] (by simp [hi]) k (by rw [← (compRO_spec h2).2.2.1]; exact hk')
 have hstart := lexA_sound hdro (P := P) (N := N) (S₀ := S) (ops := ops) (ros := ros.toArray) (kA := kA) (Q := Q) kA (ops.size - kA) 0 (Array.replicate ops.size false) σ { S with c := S.c + boxesB (ros.take kA) } (.start ops)
  (by rw [show kA + (ops.size - kA) = ops.size by omega]; exact hlex) (by omega) (by omega) hsz.symm (by unfold vcDraw at hv; simpa [nameOf, boxesB] using hv)
 rw [show kA + (ops.size - kA) = ops.size by omega] at hstart
 refine anyA_sound (kA := kA) (rs := rs) (S₀ := S) (ros := ros.toArray) hsz (fun i o ho => by
   obtain ⟨ro, h1, h2⟩ := hget i o (by simpa using ho)
   exact ⟨ro, by simpa using h1, h2⟩) hdst hlate hbound _ _ g σ { S with c := S.c + boxesB (ros.take kA) } a _ (.start ops) ⟨?_, fun _ => ⟨⟨fun _ _ _ hx => hx, hmono⟩, by simp, ?_⟩⟩ hstart
 ·have h' := h.drew (w.drawn + 1)
  exact ⟨h'.ext, ⟨h'.sim.mem, h'.sim.box, h'.sim.inj, h'.sim.boxM, h'.sim.locB, fun i k hi => h'.sim.fresh i k (by
   cases hok : S.ok i k with
   | false => rfl
   | true => rw [hmono i k hok] at hi; cases hi)⟩, h'.size, h'.dfr, h'.rep, h'.claim, h'.sep, h'.low, h'.none0⟩
 ·intro i oi hi _ hoi hb
  have := nameOf_top (S₀ := S) hoi hb hi
  exact h.sim.fresh _ _ (by rw [ok_not]; intro e; have := e.2 rfl; omega)
end
end Go.Pl
end
section
namespace Go.Pl
def isTmp (d : Nat) : Operand → Bool
 | .tmp t => t == d
 | _ => false
def pairOf (rs : List Nat) (o1 o2 : Oper) : Option (TypeId × Operand × Nat) :=
 match o1.op, o1.dst, o1.guard, o2.op, o2.dst, o2.guard with
 | .alloc t, some d, none, .store t' (.tmp d') y, none, none => if roAt rs (some d) = true ∧ t = t' ∧ d' = d ∧ isTmp d y = false then some (t, y, d) else none
 | _, _, _, _, _, _ => none
def compPair (P : Program) (p : TypeId × Operand × Nat) : Option RO :=
 match P.info? p.1, compX p.2.1 with
 | some ti, some y => match ti.zero with
  | some z => if z.cells.size = ti.size then some ⟨some p.2.2, .boxs ti.size y, none⟩ else none
  | none => none
 | _, _ => none
def compROp (P : Program) (ops : List Oper) (rs : List Nat) : List Oper → Option (List RO)
 | [] => some []
 | [o] => match compRO P ops rs o with
  | some x => some [x]
  | none => none
 | o1 :: o2 :: r => match pairOf rs o1 o2 with
  | some p => match compPair P p, compROp P ops rs r with
   | some x, some l => some (x :: l)
   | _, _ => none
  | none => match compRO P ops rs o1, compROp P ops rs (o2 :: r) with
   | some x, some l => some (x :: l)
   | _, _ => none
section
variable {P : Program} {g₀ g : Gh} {w₀ : World} [Tab P g₀ w₀] {N : Nat} {S S' : St} {w : World} {σ σ' : Nat → V} {a : Act}
theorem pair_spec {rs : List Nat} {o1 o2 : Oper} {t : TypeId} {y : Operand} {d : Nat} (h : pairOf rs o1 o2 = some (t, y, d)) :
  o1.op = .alloc t ∧ o1.dst = some d ∧ o1.guard = none ∧ o2.op = .store t (.tmp d) y ∧ o2.dst = none ∧ o2.guard = none ∧ isTmp d y = false := by
 unfold pairOf at h
 split at h
 ·rename_i e1 e2 e3 e4 e5 e6
  split at h <;> cases h
  rename_i hc
  obtain ⟨_, rfl, rfl, h4⟩ := hc
  exact ⟨e1, e2, e3, e4, e5, e6, h4⟩
 ·cases h
theorem pair_runs {o1 o2 : Oper} {t : TypeId} {ti : TypeInfo} {z : Value} {y : Operand} {y' : X} {d : Nat} (h1 : o1.op = .alloc t) (hd1 : o1.dst = some d) (h2 : o2.op = .store t (.tmp d) y) (hd2 : o2.dst = none) (hy : isTmp d y = false)
  (hi : P.info? t = some ti) (hz : ti.zero = some z) (hzs : z.cells.size = ti.size) (hx : compX y = some y') (hd : d < N) (h : Sim g₀ w₀ N g σ S a w) (hdata : (y'.ev σ).data = true) (hlen : (y'.ev σ).cells.length = ti.size) :
  ∃ g' a1 w1 w2, (execOp a.eval o1).run P w = .ok (.value (.pointer (some ⟨w.heap.size, 0, none⟩))) w1 ∧ a1 = a.put o1.dst (.pointer (some ⟨w.heap.size, 0, none⟩)) ∧
   (execOp a1.eval o2).run P w1 = .ok .skip w2 ∧ Sim g₀ w₀ N g' (upd σ d (.ro (y'.ev σ))) S a1 w2 := by
 have hr := (compX_rep hx h.rep).1
 have hc := hr.cells hdata
 refine ⟨g.addM w.heap.size (a.eval y).cells, a.put o1.dst (.pointer (some ⟨w.heap.size, 0, none⟩)), w.alloc (.cells z.cells t), ?_⟩
 have hev : (a.put o1.dst (.pointer (some ⟨w.heap.size, 0, none⟩))).eval y = a.eval y := by
  cases y with
  | tmp n =>
   have hne : n ≠ d := by
    intro e; subst e; simp [isTmp] at hy
   have := getD_put a d (.pointer (some ⟨w.heap.size, 0, none⟩)) n (by rw [h.size]; exact hd)
   rw [hd1]
   simp only [Act.eval]
   rw [if_neg hne] at this
   exact this
  | _ => rfl
 have hp : (a.put o1.dst (.pointer (some ⟨w.heap.size, 0, none⟩))).eval (.tmp d) = .pointer (some ⟨w.heap.size, 0, none⟩) := by
  rw [hd1]
  have := getD_put a d (.pointer (some ⟨w.heap.size, 0, none⟩)) d (by rw [h.size]; exact hd)
  rw [if_pos rfl] at this
  exact this
 have hvl : (a.eval y).cells.size = ti.size := by rw [← hc.1.1]; exact hlen
 have hone : ∀ v ∈ (a.eval y).cells.toList, v.oneCell' = true := fun v hv => by
  obtain ⟨j, hj, rfl⟩ := List.mem_iff_getElem.1 hv
  exact hc.2 j _ (by simp at hj; simp [hj])
 obtain ⟨cs', hrun, hget, hsz⟩ := store_raw (a := a.put o1.dst (.pointer (some ⟨w.heap.size, 0, none⟩))) (w := w.alloc (.cells z.cells t)) (P := P) h2 hi hp (heap_alloc_new _ _) (by rw [hev]; exact hvl) (by rw [hev]; exact hone) (by rw [hzs]; omega)
 rw [hev] at hget
 have hcs : cs' = (a.eval y).cells := by
  apply Array.ext
  ·rw [hsz, hzs, hvl]
  ·intro k k1 k2
   have := hget k
   rw [if_pos ⟨Nat.zero_le _, by omega⟩] at this
   simpa [k1, k2] using this
 subst hcs
 refine ⟨(w.alloc (.cells z.cells t)).setRow w.heap.size (a.eval y).cells, by simp [execOp, h1, Instr.alloc, zeroValue, typeInfo, hi, hz, newVar, newRow], rfl, hrun, ?_⟩
 have hM : ∀ k c, g.M w.heap.size k = some c → (a.eval y).cells[k]? = some c := fun k c hk => by
  have := World.block_lt_of_cell? _ _ (h.sim.mem _ _ _ hk)
  simp at this
 have hL : ∀ i k, g.loc i k ≠ some w.heap.size := fun i k hi => by have := h.sim.locB _ _ _ hi; omega
 have hle := Le.tell (g := g) hM
 have hnew : ((w.alloc (.cells z.cells t)).setRow w.heap.size (a.eval y).cells).heap[w.heap.size]? = some (.cells (a.eval y).cells t (0, 0)) := setRow_heap _ _ _ _ t _ (heap_alloc_new _ _)
 have hother : ∀ k, k ≠ w.heap.size → k < w.heap.size → ((w.alloc (.cells z.cells t)).setRow w.heap.size (a.eval y).cells).heap[k]? = w.heap[k]? := fun k hne hlt =>
  (setRow_other _ _ _ _ hne).trans (heap_alloc_lt _ _ _ hlt)
 have hsize : w.heap.size ≤ ((w.alloc (.cells z.cells t)).setRow w.heap.size (a.eval y).cells).heap.size := by simp [World.setRow]
 rw [hd1]
 generalize y'.ev σ = v at hr hc hdata hlen
 generalize a.eval y = pv at hr hc hM hle hnew hother hsize
 refine h.put' hd (h.ext.tell hM h.ext.size rfl rfl rfl hsize hother) (h.sim.tell (cur := pv.cells) (e := t) hM hnew (fun k c hk => hk) hL hsize hother) hle ?_ ?_ (.of_not rfl) (fun _ _ _ _ => by rw [spare_not rfl]; simp)
 ·refine .ro v w.heap.size 0 (fun j => pv.cells.getD j undef) (fun j z hz => ?_) (fun j z hz => ?_) (fun j z hz => ?_)
  all_goals
   have hlt : j < pv.cells.size := by rw [← hc.1.1]; exact (List.getElem?_eq_some_iff.1 hz).1
   have e : pv.cells.getD j undef = pv.cells[j] := by simp [hlt]
   rw [e]
  ·simp [Gh.addM, hlt]
  ·exact hc.2 j _ (by simp [hlt])
  ·exact (hc.1.2 j z _ hz (by simp [hlt])).mono hle
 ·intro t' _ hcl
  refine hcl.step (fun b _ hlt _ => hother b (by omega) hlt) (fun b' k hb' hlt hk => ?_) (fun i l b' _ hi => hi)
  have : b' ≠ w.heap.size := fun e => by omega
  simp only [Gh.addM, this, if_false]; exact hk
theorem opsp_sound {ops : Array Oper} {rs : List Nat} {Q : AX → (Nat → V) → St → Prop} : ∀ (l : List Oper) (ros : List RO) (g : Gh) (σ : Nat → V) (S : St) (a : Act) (w : World),
  compROp P ops.toList rs l = some ros → dstsOk N l = true → Sim g₀ w₀ N g σ S a w → vcOps P Q ros σ S → wpList P ops (APost g₀ w₀ N Q) l a w
 | [], ros, g, σ, S, a, w, hc, _, h, hv => by
  simp only [compROp, Option.some.injEq] at hc
  subst hc
  exact ⟨g, σ, S, h, hv⟩
 | [o], ros, g, σ, S, a, w, hc, hd, h, hv => by
  simp only [compROp] at hc
  split at hc
  ·rename_i ro h1
   simp only [Option.some.injEq] at hc
   subst hc
   exact ops_sound (rs := rs) [o] [ro] g σ S a w (by simp only [compROs, h1]) hd h hv
  ·cases hc
 | o1 :: o2 :: r, ros, g, σ, S, a, w, hc, hd, h, hv => by
  simp only [compROp] at hc
  have hd' := dstsOk_cons hd
  split at hc
  ·rename_i p hp
   split at hc <;> cases hc
   rename_i ro rl h1 h2
   obtain ⟨t, y, d⟩ := p
   obtain ⟨e1, e2, e3, e4, e5, e6, e7⟩ := pair_spec hp
   unfold compPair at h1
   simp only at h1
   split at h1
   case h_2 => cases h1
   rename_i ti y' hi hx
   split at h1
   case h_2 => cases h1
   rename_i z hz
   split at h1 <;> cases h1
   rename_i hzs
   simp only [vcOps, RO.vc, RO.vc1, M.eff] at hv
   split at hv
   case h_2 => rename_i hn; simp [M.val] at hv
   rename_i v σ' S' he
   split at he <;> cases he
   rename_i hcond
   obtain ⟨g', a1, w1, w2, k1, rfl, k2, k3⟩ := pair_runs (P := P) e1 e2 e4 e5 e7 hi hz hzs hx (hd'.1 d e2) h hcond.1 hcond.2
   unfold wpList
   have hw1 : Region.wanted o1 (yielded ops a.tmps) = true := by unfold Region.wanted; rw [e3]
   rw [if_pos hw1]
   refine .inl ?_
   unfold Oper.wp
   rw [k1]
   show wpList P ops (APost g₀ w₀ N Q) (o2 :: r) (a.put o1.dst _) w1
   unfold wpList
   have hw2 : ∀ q, Region.wanted o2 q = true := by intro q; unfold Region.wanted; rw [e6]
   rw [if_pos (hw2 _)]
   refine .inl ?_
   unfold Oper.wp
   rw [k2]
   have := opsp_sound r rl g' (upd σ d (.ro (y'.ev σ))) S _ w2 h2 (dstsOk_cons hd'.2).2 k3 hv
   show wpList P ops (APost g₀ w₀ N Q) r ((a.put o1.dst _).put o2.dst Go.undef) w2
   rw [e5]
   exact this
  ·split at hc <;> cases hc
   rename_i ro rl h1 h2
   change ro.vc P Q (vcOps P Q rl) σ S at hv
   have := vc_wpOp (K' := wpList P ops (APost g₀ w₀ N Q) (o2 :: r)) h1 h hv hd'.1 (fun g σ S a w hs hk => opsp_sound (o2 :: r) rl g σ S a w h2 hd'.2 hs hk)
   unfold wpList
   split
   ·rename_i hw; rw [if_pos hw] at this; exact .inl this
   ·rename_i hw; rw [if_neg hw] at this; exact this
end
end Go.Pl
end
section
namespace Go.Pl
inductive C where
 | skip
 | reg (l : List RO)
 | draw (k : Nat) (l : List RO)
 | seq (a b : C)
 | cond (x : X) (a b : C)
 | block (id : Nat) (c : C)
 | loop (c : C)
 | exit (id : Nat)
 | ret
 deriving Inhabited
def pickK (ops : Array Oper) (ros : Array RO) : Nat → Nat
 | 0 => 0
 | k + 1 => if (List.range k).all fun i => waitsOn ops k i || ((ros.getD k default).lateSt && (ros.getD i default).m.blind && (ros.getD i default).apart (ros.getD k default)) then pickK ops ros k else k + 1
def pickA (ops : Array Oper) (ros : Array RO) : Nat → Nat
 | 0 => 0
 | k + 1 => if (List.range k).all fun i => waitsAll ops k i || ((ros.getD k default).lateSt && (ros.getD i default).m.blind && (ros.getD i default).apart (ros.getD k default)) then pickA ops ros k else k + 1
def pickMark : Nat := 999999937
def pickQ (rs : List Nat) (ops : Array Oper) (ros : Array RO) (n : Nat) : Nat := bif rs.contains pickMark then pickA ops ros n else pickK ops ros n
def compC (P : Program) (N : Nat) (rs : List Nat) : Code → Option C
 | .skip => some .skip
 | .region _ ops false => match compROp P ops.toList rs ops.toList, dstsOk N ops.toList with
  | some l, true => some (.reg l)
  | _, _ => none
 | .region _ ops true => match compROs P ops.toList rs ops.toList with
  | some l => if dstsOk N ops.toList && drawOk ops l (pickQ rs ops l.toArray ops.size) then some (.draw (pickQ rs ops l.toArray ops.size) l) else none
  | none => none
 | .seq a b => match compC P N rs a, compC P N rs b with
  | some a, some b => some (.seq a b)
  | _, _ => none
 | .cond x a b => match compX x, compC P N rs a, compC P N rs b with
  | some x, some a, some b => some (.cond x a b)
  | _, _, _ => none
 | .block id c => (compC P N rs c).map (.block id)
 | .loop c => (compC P N rs c).map .loop
 | .exit id => some (.exit id)
 | .ret => some .ret
 | _ => none
structure AW (P : Program) (N n₀ : Nat) (c : C) (Q : AX → (Nat → V) → St → Prop) (σ : Nat → V) (S : St) : Prop where
 run : P.follows .mixedOrders = true → ∀ (rs : List Nat) (code : Code), compC P N rs code = some c → ∀ (g₀ : Gh) (w₀ : World) (g : Gh) (a : Act) (w : World), Base P g₀ w₀ n₀ → Sim g₀ w₀ N g σ S a w → code.wp P (APost g₀ w₀ N Q) a w
def AX.then (K : (Nat → V) → St → Prop) (Q : AX → (Nat → V) → St → Prop) : AX → (Nat → V) → St → Prop
 | .normal, σ, S => K σ S
 | e, σ, S => Q e σ S
def AX.inBlock (id : Nat) (Q : AX → (Nat → V) → St → Prop) : AX → (Nat → V) → St → Prop
 | .exit i, σ, S => if i = id then Q .normal σ S else Q (.exit i) σ S
 | e, σ, S => Q e σ S
def vc (P : Program) (N n₀ : Nat) : C → (AX → (Nat → V) → St → Prop) → (Nat → V) → St → Prop
 | .skip, Q, σ, S => Q .normal σ S
 | .reg l, Q, σ, S => vcOps P Q l σ S
 | .draw k l, Q, σ, S => vcDraw P Q k l σ S
 | .seq a b, Q, σ, S => vc P N n₀ a (AX.then (vc P N n₀ b Q) Q) σ S
 | .cond x a b, Q, σ, S => match x.ev σ with
  | .bool t => bif t then vc P N n₀ a Q σ S else vc P N n₀ b Q σ S
  | _ => False
 | .block id c, Q, σ, S => vc P N n₀ c (AX.inBlock id Q) σ S
 | .loop c, Q, σ, S => AW P N n₀ (.loop c) Q σ S
 | .exit id, Q, σ, S => Q (.exit id) σ S
 | .ret, Q, σ, S => Q .ret σ S
section
variable {P : Program} {N n₀ : Nat}
theorem APost.mono {g₀ : Gh} {w₀ : World} {Q Q' : AX → (Nat → V) → St → Prop} (h : ∀ e σ S, Q e σ S → Q' e σ S) {e : Exit} {a : Act} {w : World} (hp : APost g₀ w₀ N Q e a w) : APost g₀ w₀ N Q' e a w := by
 cases e with
 | normal => obtain ⟨g, σ, S, h1, h2⟩ := hp; exact ⟨g, σ, S, h1, h _ _ _ h2⟩
 | exit id => obtain ⟨g, σ, S, h1, h2⟩ := hp; exact ⟨g, σ, S, h1, h _ _ _ h2⟩
 | ret => obtain ⟨g, σ, S, h1, h2⟩ := hp; exact ⟨g, σ, S, h1, h _ _ _ h2⟩
 | panic chain => obtain ⟨g, σ, S, v, val, h1, h2, h3, h4⟩ := hp; exact ⟨g, σ, S, v, val, h1, h2, h3, h _ _ _ h4⟩
 | goto l => exact hp.elim
 | outgrown => exact hp.elim
theorem vc_sound : ∀ (c : C) (Q : AX → (Nat → V) → St → Prop) (σ : Nat → V) (S : St), vc P N n₀ c Q σ S → AW P N n₀ c Q σ S
 | .skip, Q, σ, S, h => by
  refine ⟨?_⟩
  intro _ rs code hc g₀ w₀ g a w ht₀ hs
  haveI := ht₀.tab
  cases code <;> (try simp only [compC, Option.some.injEq, reduceCtorEq, Option.map_eq_some_iff, and_false, exists_const] at hc)
  ·exact wp_skip ⟨g, σ, S, hs, h⟩
  ·rename_i id ops d; cases d <;> (try simp only [compC] at hc) <;> (repeat' split at hc) <;> cases hc
  all_goals (repeat' split at hc) <;> cases hc
 | .reg l, Q, σ, S, h => by
  refine ⟨?_⟩
  intro _ rs code hc g₀ w₀ g a w ht₀ hs
  haveI := ht₀.tab
  cases code <;> (try simp only [compC, Option.some.injEq, reduceCtorEq, Option.map_eq_some_iff, and_false, exists_const] at hc)
  ·rename_i id ops d
   cases d with
   | false =>
    (try simp only [compC] at hc)
    split at hc <;> cases hc
    rename_i h2 h1
    exact wp_region_list (opsp_sound ops.toList l g σ S a w h1 h2 hs h)
   | true => (try simp only [compC] at hc); (repeat' split at hc) <;> cases hc
  all_goals (repeat' split at hc) <;> cases hc
 | .draw k l, Q, σ, S, h => by
  refine ⟨?_⟩
  intro hm rs code hc g₀ w₀ g a w ht₀ hs
  haveI := ht₀.tab
  cases code <;> (try simp only [compC, Option.some.injEq, reduceCtorEq, Option.map_eq_some_iff, and_false, exists_const] at hc)
  ·rename_i id ops d
   cases d with
   | false => (try simp only [compC] at hc); (repeat' split at hc) <;> cases hc
   | true =>
    (try simp only [compC] at hc)
    split at hc
    ·rename_i l' h1
     split at hc <;> cases hc
     rename_i h2
     simp only [Bool.and_eq_true] at h2
     exact draw_sound hm h1 h2.1 h2.2 hs h
    ·cases hc
  all_goals (repeat' split at hc) <;> cases hc
 | .seq c d, Q, σ, S, h => by
  refine ⟨?_⟩
  intro hm rs code hc g₀ w₀ g a w ht₀ hs
  haveI := ht₀.tab
  cases code <;> (try simp only [compC, Option.some.injEq, reduceCtorEq, Option.map_eq_some_iff, and_false, exists_const] at hc)
  ·rename_i id ops d'; cases d' <;> (try simp only [compC] at hc) <;> (repeat' split at hc) <;> cases hc
  ·rename_i x y
   split at hc <;> cases hc
   rename_i h1 h2
   refine wp_seq (Go.wp_mono ((vc_sound c _ σ S h).run hm rs x h1 g₀ w₀ g a w ht₀ hs) ?_)
   intro e a' w' hp
   cases e with
   | normal => obtain ⟨g', σ', S', k1, k2⟩ := hp; exact (vc_sound d _ σ' S' k2).run hm rs y h2 g₀ w₀ g' a' w' ht₀ k1
   | exit id => exact hp
   | ret => exact hp
   | panic chain => exact hp
   | goto l => exact hp
   | outgrown => exact hp
  all_goals (repeat' split at hc) <;> cases hc
 | .cond x c d, Q, σ, S, h => by
  refine ⟨?_⟩
  intro hm rs code hc g₀ w₀ g a w ht₀ hs
  haveI := ht₀.tab
  cases code <;> (try simp only [compC, Option.some.injEq, reduceCtorEq, Option.map_eq_some_iff, and_false, exists_const] at hc)
  ·rename_i id ops d'; cases d' <;> (try simp only [compC] at hc) <;> (repeat' split at hc) <;> cases hc
  ·split at hc <;> cases hc
  ·rename_i x' y z
   split at hc <;> cases hc
   rename_i h0 h1 h2
   have hr := (compX_rep h0 hs.rep).1
   simp only [vc] at h
   split at h
   ·rename_i t ht
    rw [ht] at hr
    generalize hev : a.eval x' = v at hr
    cases hr
    refine wp_cond_split hev (fun e => ?_) (fun e => ?_)
    ·exact (vc_sound c _ σ S (by rw [e] at h; exact h)).run hm rs y h1 g₀ w₀ g a w ht₀ hs
    ·exact (vc_sound d _ σ S (by rw [e] at h; exact h)).run hm rs z h2 g₀ w₀ g a w ht₀ hs
   ·exact h.elim
 | .block id c, Q, σ, S, h => by
  refine ⟨?_⟩
  intro hm rs code hc g₀ w₀ g a w ht₀ hs
  haveI := ht₀.tab
  cases code <;> (try simp only [compC, Option.some.injEq, reduceCtorEq, Option.map_eq_some_iff, and_false, exists_const, C.block.injEq] at hc)
  ·rename_i id ops d'; cases d' <;> (try simp only [compC] at hc) <;> (repeat' split at hc) <;> cases hc
  ·split at hc <;> cases hc
  ·split at hc <;> cases hc
  ·rename_i id' c'
   obtain ⟨c₀, h1, rfl, rfl⟩ := hc
   refine wp_block (Go.wp_mono ((vc_sound c₀ _ σ S h).run hm rs c' h1 g₀ w₀ g a w ht₀ hs) ?_)
   intro e a' w' hp
   cases e with
   | exit i =>
    obtain ⟨g', σ', S', k1, k2⟩ := hp
    simp only [AX.inBlock] at k2
    simp only [Exit.inBlock]
    split
    ·rename_i e; rw [if_pos e] at k2; exact ⟨g', σ', S', k1, k2⟩
    ·rename_i e; rw [if_neg e] at k2; exact ⟨g', σ', S', k1, k2⟩
   | normal => exact hp
   | ret => exact hp
   | panic chain => exact hp
   | goto l => exact hp
   | outgrown => exact hp
 | .loop c, Q, σ, S, h => h
 | .exit id, Q, σ, S, h => by
  refine ⟨?_⟩
  intro _ rs code hc g₀ w₀ g a w ht₀ hs
  haveI := ht₀.tab
  cases code <;> (try simp only [compC, Option.some.injEq, reduceCtorEq, Option.map_eq_some_iff, and_false, exists_const, C.exit.injEq] at hc)
  ·rename_i id ops d; cases d <;> (try simp only [compC] at hc) <;> (repeat' split at hc) <;> cases hc
  ·split at hc <;> cases hc
  ·split at hc <;> cases hc
  ·subst hc; exact wp_exit ⟨g, σ, S, hs, h⟩
 | .ret, Q, σ, S, h => by
  refine ⟨?_⟩
  intro _ rs code hc g₀ w₀ g a w ht₀ hs
  haveI := ht₀.tab
  cases code <;> (try simp only [compC, Option.some.injEq, reduceCtorEq, Option.map_eq_some_iff, and_false, exists_const] at hc)
  ·rename_i id ops d; cases d <;> (try simp only [compC] at hc) <;> (repeat' split at hc) <;> cases hc
  ·split at hc <;> cases hc
  ·split at hc <;> cases hc
  ·exact wp_ret ⟨g, σ, S, hs, h⟩
end
end Go.Pl
end
