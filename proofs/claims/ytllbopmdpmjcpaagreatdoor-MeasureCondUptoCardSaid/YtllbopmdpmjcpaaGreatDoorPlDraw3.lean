/- Regions that draw their order: the machine's side. -/
import Derived.Test.YtllbopmdpmjcpaaGreatDoorPlDraw2
set_option linter.unusedSimpArgs false
set_option linter.unusedVariables false
set_option linter.unusedSectionVars false
namespace Go.Pl
section
variable {P : Program} {g₀ g : Gh} {w₀ : World} {N : Nat} {S₀ S S' : St} {w : World} {σ σ' : Nat → V} {a : Act}

theorem val_le {m : M} {v : V} (h : m.val σ S₀ = some v) (hl : S₀.le S) : m.val σ S = some v := by
  cases m
  case ld sz ag x =>
    simp only [M.val] at h ⊢
    split at h
    · exact h
    · rename_i i k off hx
      split at h
      · rename_i y hy; rw [hl.1 _ _ _ hy]; exact h
      · cases h
    · cases h
  case slc sz x lo hi mx =>
    cases mx with
    | none => simp only [M.val, S.hO]; simp only [M.val, S₀.hO] at h; exact h
    | some m => simp only [M.val] at h; cases h
  all_goals first
    | exact h
    | (simp only [M.val, S.hO]; simp only [M.val, S₀.hO] at h; exact h)

theorem Boxed.set {i l : Nat} (h : S.ok i l = true) (x : V) : Boxed S i l x (S.set i l x) := ⟨rfl, h, fun _ _ h => h, Nat.le_refl _, rfl⟩

theorem val_blind {m : M} {v : V} (hb : m.blind = true) (h : m.val σ S₀ = some v) : m.val σ S = some v := by
  cases m
  case ld sz ag x => simp [M.blind] at hb
  case slc sz x lo hi mx =>
    cases mx with
    | none => simp only [M.val, S.hO]; simp only [M.val, S₀.hO] at h; exact h
    | some m => simp only [M.val] at h; cases h
  all_goals first
    | exact h
    | (simp only [M.val, S.hO]; simp only [M.val, S₀.hO] at h; exact h)

/-- What an operation that may come up at any time leaves. -/
theorem q_sound {ops : List Oper} {rs : List Nat} {o : Oper} {ro : RO} {nm : Nat} {v : V} {Q : Exit → Act → World → Prop} {K' : Act → World → Prop} (hc : compRO P ops rs o = some ro)
    (h : Sim g₀ w₀ N g σ S a w) (hl : S₀.le S ∨ ro.m.blind = true) (hq : qval P S₀ nm σ ro.m v) (hd : ∀ k, o.dst = some k → k < N) (hnm : ro.m.isBox = true → g.loc S₀.b nm = none ∧ S.ok S₀.b nm = true) (hbb : ro.m.isBox = true → S.b = S₀.b)
    (hK : ∀ g' a' w', Sim g₀ w₀ N g' (Pl.putD (downF σ ro.m.downs) o.dst v) (if ro.m.isBox then S.set S.b nm (ro.m.boxed σ) else S) a' w' →
      (∀ i k, S.ok i k = true → (ro.m.isBox = true → ¬ (i = S₀.b ∧ k = nm)) → g.loc i k = none → g'.loc i k = none) → K' a' w') : o.wp P a w K' Q := by
  obtain ⟨hm, _, hdst, hst, hkind⟩ := compRO_spec hc
  have pureCase : ∀ m, compPure P o.op = some m → ro.m = m → m.downs = none → m.isBox = false → m.val σ S₀ = some v → o.wp P a w K' Q := by
    intro m hp hmm h1 h2 hval
    obtain ⟨val, e1, e2, e3⟩ := pure_val hp h.sim h.rep (hl.elim (val_le hval) fun hb => val_blind (by rw [← hmm]; exact hb) hval)
    refine Leaves.wp (.inl ⟨val, e1, rfl⟩) (hK g _ _ ?_ (fun i k _ _ hk => hk))
    rw [hmm, h1, h2]
    exact h.putD hd e2 e3
  have asgCase : ∀ x x', compX x = some x' → ro.m = .asg x' → (∀ val, val = a.eval x → (execOp a.eval o).run P w = .ok (.value val) w) → o.dst.isSome = true → o.wp P a w K' Q := by
    intro x x' hx hmm hrun hsome
    obtain ⟨r1, r2, r3⟩ := raw_rep h hx
    obtain ⟨d, hdd⟩ := Option.isSome_iff_exists.1 hsome
    rw [hmm] at hq
    simp only [qval] at hq
    subst hq
    refine Leaves.wp (a' := a.put o.dst (a.eval x)) (w' := w) (.inl ⟨a.eval x, hrun _ rfl, rfl⟩) (hK g _ _ ?_ (fun i k _ _ hk => hk))
    rw [hmm, hdd]
    simp only [M.downs, M.isBox]
    rw [← x_down]
    exact (down_sim h x').put' (hd d hdd) h.ext h.sim (.refl g) r1 (fun _ _ c => c) r2 (fun t b _ hs => r3 t b hs)
  have dstSome : (∀ f xs, ro.m ≠ .call f xs) → (∀ x xs, ro.m ≠ .callv x xs) → ro.m.isSt = false → o.dst.isSome = true := by
    intro n1 n2 h3
    rcases hkind with ⟨f, xs, e⟩ | ⟨x, xs, e⟩ | e
    · exact absurd e (n1 _ _)
    · exact absurd e (n2 _ _)
    · exact e h3
  have callEnd : S₀.le S → ∀ (f : Nat) (args : List V) (vals : Array Value), Pl.Pure P f args S₀ v → Reps g args vals → ro.m.downs = none → ro.m.isBox = false → (execOp a.eval o).run P w = .ok (.enter f vals) w → o.wp P a w K' Q := by
    intro hl f args vals hp hr h1 h2 hrun
    have hcall := hp.run S hl
    unfold Oper.wp
    rw [hrun]
    refine (hcall.2 (g.at S.n) w vals (h.sim.at _) rfl (hr.mono (Le.at g _))).mono ?_
    rintro e w' ⟨g₁, S', ae, hx₁, hs₁, hn, he₁, rfl, rfl⟩
    cases e with
    | returned val =>
      have hx := hx₁.back h.low'
      have hs : SimW (g₁.at g.top) S' w' := hs₁.at _
      have he : RepEnd (g₁.at g.top) w' w.heap.size (.ret v) (.returned val) := he₁.at _
      refine hK (g₁.at g.top) _ _ ?_ (fun i k hk _ hk' => hx₁.newName i k ((ok_iff _ _ _).1 hk).1 hk')
      rw [h1, h2]
      exact h.returned hx hs hn hd he.1 he.2
    | panicked chain => exact he₁.elim
    | outgrown => exact he₁.elim
  have callCase : ∀ m, compCall P o.op = some m → ro.m = m → o.wp P a w K' Q := by
    intro m hp hmm
    rcases call_of_op hp with ⟨f, args, xs, ho, hf, hx, rfl⟩ | ⟨t, args, xs, ho, hx, rfl⟩
    · rw [hmm] at hq
      refine callEnd (hl.resolve_right (by rw [hmm]; simp [M.blind])) f _ (args.1.toList.map a.eval).toArray hq (reps_args hx h.rep) (by rw [hmm]; rfl) (by rw [hmm]; rfl) ?_
      have e : args.1.map a.eval = (args.1.toList.map a.eval).toArray := by apply Array.ext'; simp
      simp [execOp, ho, resolve, Act.eval, Deferred.ofValue, invoke, callFunc_run hf, e]
    · rw [hmm] at hq
      simp only [qval] at hq
      have hxr := (compX_rep (o := .tmp t) (x := .t t) rfl h.rep).1
      revert hq hxr
      generalize (X.t t).ev σ = fv
      intro hq hxr
      cases fv with
      | fn f caps =>
        simp only at hq
        generalize hev : a.eval (.tmp t) = pv at hxr
        cases hxr with
        | fn _ _ vs hl' hcap =>
          have hra := reps_args hx h.rep
          have hrr : Reps g (xs.map (·.ev σ) ++ caps) ((args.1.toList.map a.eval).toArray ++ vs) := by
            refine ⟨by simp only [List.length_append, Array.size_append, hl', hra.1], fun j y v hy hv' => ?_⟩
            rw [List.getElem?_append] at hy
            rw [Array.getElem?_append] at hv'
            rw [hra.1] at hy
            split at hy
            · rename_i hlt; rw [if_pos hlt] at hv'; exact hra.2 _ _ _ hy hv'
            · rename_i hlt; rw [if_neg hlt] at hv'; exact hcap _ _ _ hy hv'
          have hl := hl.resolve_right (by rw [hmm]; simp [M.blind])
          refine callEnd hl f _ _ hq hrr (by rw [hmm]; rfl) (by rw [hmm]; rfl) ?_
          have e : args.1.map a.eval = (args.1.toList.map a.eval).toArray := by apply Array.ext'; simp
          simp [execOp, ho, resolve, hev, Deferred.ofValue, invoke, callFunc_run (hq.run S hl).1, e]
      | _ => simp at hq
  unfold compM at hm
  split at hm
  · rename_i x d ho hdd
    split at hm <;> (simp only [Option.map_eq_some_iff] at hm; obtain ⟨x', hx, hm⟩ := hm)
    · exact asgCase x x' hx hm.symm (fun val hv => by subst hv; simp [execOp, ho]) (by rw [hdd]; rfl)
    · refine pureCase (.mv x') (by rw [ho]; simp [compPure, hx]) hm.symm rfl rfl ?_
      rw [← hm] at hq; exact hq
  · split at hm
    · rename_i m he
      simp only [Option.some.injEq] at hm
      have nc := eff_not_call he
      have n1 : ∀ f xs, ro.m ≠ .call f xs := by rw [← hm]; exact nc.1
      have n2 : ∀ x xs, ro.m ≠ .callv x xs := by rw [← hm]; exact nc.2
      have hds := dstSome n1 n2
      obtain ⟨dst, op, type, pos, after, guard⟩ := o
      simp only at he hds hd hdst hK ⊢
      unfold compEff at he
      split at he
      · simp only [Option.map_eq_some_iff] at he
        obtain ⟨x', hx, rfl⟩ := he
        exact asgCase _ x' hx hm.symm (fun val hv => by subst hv; simp [execOp]) (hds (by rw [← hm]; rfl))
      · split at he
        · rename_i hi
          split at he
          · rename_i hz
            simp only [Option.map_eq_some_iff] at he
            obtain ⟨z', hz', rfl⟩ := he
            obtain ⟨d, rfl⟩ := Option.isSome_iff_exists.1 (hds (by rw [← hm]; rfl))
            rw [← hm] at hq hnm hK hbb
            have hbb := hbb rfl
            simp only [qval] at hq
            subst hq
            obtain ⟨b1, b2⟩ := hnm rfl
            obtain ⟨a', w', k1, k2⟩ := leaves_new (o := ⟨some d, _, type, pos, after, guard⟩) rfl hi hz hz' rfl (hd d rfl) h (.set b2 _) b1 (by rw [← hbb]; exact h.low.1)
            exact k1.wp (hK _ _ _ (by rw [hbb]; exact k2) (fun i k _ hk hk' => by simp only [Gh.addBox]; rw [if_neg (hk rfl)]; exact hk'))
          · cases he
        · cases he
      · simp only [Option.map_eq_some_iff] at he
        obtain ⟨x', hx, rfl⟩ := he
        obtain ⟨d, rfl⟩ := Option.isSome_iff_exists.1 (hds (by rw [← hm]; rfl))
        rw [← hm] at hq hnm hK hbb
        have hbb := hbb rfl
        simp only [qval] at hq
        obtain ⟨hq1, rfl⟩ := hq
        obtain ⟨b1, b2⟩ := hnm rfl
        obtain ⟨a', w', k1, k2⟩ := leaves_box (o := ⟨some d, _, type, pos, after, guard⟩) rfl hx rfl (hd d rfl) h hq1 (.set b2 _) b1 (by rw [← hbb]; exact h.low.1)
        exact k1.wp (hK _ _ _ (by rw [hbb]; exact k2) (fun i k _ hk hk' => by simp only [Gh.addBox]; rw [if_neg (hk rfl)]; exact hk'))
      · split at he
        · rename_i hu
          split at he
          · rename_i he' hx
            split at he <;> cases he
            rename_i hcond
            obtain ⟨d, rfl⟩ := Option.isSome_iff_exists.1 (hds (by rw [← hm]; rfl))
            rw [← hm] at hq hK
            simp only [qval] at hq
            obtain ⟨hq1, rfl⟩ := hq
            simp only [S₀.hO, Ops.std] at hq1
            simp only [Bool.and_eq_true, List.all_eq_true, decide_eq_true_eq, beq_iff_eq] at hq1
            obtain ⟨g', a', w', kl, k1, k2⟩ := leaves_mks (o := ⟨some d, _, type, pos, after, guard⟩) rfl hu he' hx hcond.1 hcond.2.1 hcond.2.2 rfl (hd d rfl) h hq1.1 (by simpa using hq1.2)
            exact k1.wp (hK _ _ _ k2 (fun i k _ _ hk' => by rw [kl]; exact hk'))
          · cases he
        · cases he
      · split at he <;> cases he
        rw [← hm] at hq
        exact hq.elim
      · rename_i args ts _ _
        split at he
        · rename_i x y t t' hargs hts
          split at he
          · rename_i htt
            subst htt
            split at he
            · rename_i hu
              split at he
              · rename_i he' hx hy
                split at he <;> cases he
                rename_i hcond
                have hA : args = #[x, y] := by apply Array.ext'; simpa using hargs
                have hT : ts = #[t, t] := by apply Array.ext'; simpa using hts
                subst hA; subst hT
                obtain ⟨d, rfl⟩ := Option.isSome_iff_exists.1 (hds (by rw [← hm]; rfl))
                rw [← hm] at hq hK
                simp only [qval] at hq
                obtain ⟨g', a', w', kl, k1, k2⟩ := leaves_app (o := ⟨some d, _, type, pos, after, guard⟩) rfl hu he' hx hy hcond.1 hcond.2 rfl (hd d rfl) h (by rw [S.hO]; rw [S₀.hO] at hq; exact hq)
                refine k1.wp (hK _ _ _ ?_ (fun i k _ _ hk' => by rw [kl]; exact hk'))
                simp only [M.downs, M.isBox]
                rw [← x_down]
                exact k2
              · cases he
            · cases he
          · cases he
        · cases he
      · cases he
    · split at hm
      · rename_i m hp
        simp only [Option.some.injEq] at hm
        rw [← hm] at hq
        have : m.downs = none ∧ m.isBox = false ∧ (qval P S₀ nm σ m v → m.val σ S₀ = some v) := by
          unfold compPure at hp
          split at hp
          all_goals (repeat' (first | (cases hp; done) | (simp only [Option.map_eq_some_iff] at hp; obtain ⟨_, _, rfl⟩ := hp; exact ⟨rfl, rfl, fun h => h⟩) | (cases hp; exact ⟨rfl, rfl, fun h => h⟩) | split at hp))
        exact pureCase m hp hm.symm this.1 this.2.1 (this.2.2 hq)
      · exact callCase ro.m hm rfl

end
end Go.Pl
