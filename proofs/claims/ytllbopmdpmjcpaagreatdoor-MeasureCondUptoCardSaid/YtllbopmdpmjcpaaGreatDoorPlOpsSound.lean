/- One operation of a region, and all in the order of the text. -/
import Derived.Test.YtllbopmdpmjcpaaGreatDoorPlVc
set_option linter.unusedSimpArgs false
set_option linter.unusedVariables false
set_option linter.unusedSectionVars false
namespace Go.Pl
section
variable {P : Program} {g₀ g : Gh} {w₀ : World} {N : Nat} {S S' : St} {w : World} {σ σ' : Nat → V} {a : Act}

def M.isSt : M → Bool
  | .st _ _ _ => true
  | _ => false

theorem putD_none (σ : Nat → V) (v : V) : putD σ none v = σ := rfl
theorem putD_some (σ : Nat → V) (d : Nat) (v : V) : putD σ (some d) v = upd σ d v := rfl

theorem Boxed.add (h : S.b < S.n) (x : V) : Boxed S S.b S.c x (S.add x) where
  H := rfl
  ok := by rw [ok_iff]; simp only [St.add]; omega
  mono j m := by rw [ok_not, ok_not]; simp only [St.add]; omega
  n := Nat.le_refl _
  b := rfl

theorem ok_new : S.ok S.b S.c = false := by rw [ok_not]; omega

/-- THE OPERATIONS THAT MAKE OR WRITE MEMORY. -/
theorem eff_sound {o : Oper} {m : M} (hm : compEff P o.op = some m) (h : Sim g₀ w₀ N g σ S a w) {v : V} (he : m.eff σ S = some (v, σ', S')) (hd : ∀ d, o.dst = some d → d < N)
    (hst : m.isSt = true → o.dst = none) (hst' : m.isSt = false → o.dst.isSome = true) :
    ∃ g' a' w', Leaves P o a w a' w' ∧ Sim g₀ w₀ N g' (putD σ' o.dst v) S' a' w' := by
  obtain ⟨dst, op, type, pos, after, guard⟩ := o
  simp only at hm hd hst hst'
  unfold compEff at hm
  split at hm
  · -- assign
    rename_i x
    simp only [Option.map_eq_some_iff] at hm
    obtain ⟨x', hx, rfl⟩ := hm
    obtain ⟨d, rfl⟩ := Option.isSome_iff_exists.1 (hst' rfl)
    simp only [M.eff, Option.some.injEq, Prod.mk.injEq] at he
    obtain ⟨rfl, rfl, rfl⟩ := he
    obtain ⟨a', h1, h2⟩ := leaves_asg (P := P) (o := ⟨some d, .assign x, type, pos, after, guard⟩) rfl hx rfl (hd d rfl) h
    exact ⟨g, a', w, h1, h2⟩
  · -- alloc
    split at hm
    · rename_i hi
      split at hm
      · rename_i hz
        simp only [Option.map_eq_some_iff] at hm
        obtain ⟨z', hz', rfl⟩ := hm
        obtain ⟨d, rfl⟩ := Option.isSome_iff_exists.1 (hst' rfl)
        simp only [M.eff, Option.some.injEq, Prod.mk.injEq] at he
        obtain ⟨rfl, rfl, rfl⟩ := he
        obtain ⟨a', w', h1, h2⟩ := leaves_new (o := ⟨some d, _, type, pos, after, guard⟩) rfl hi hz hz' rfl (hd d rfl) h (.add h.low.2 _) (h.sim.fresh _ _ ok_new) h.low.1
        exact ⟨_, a', w', h1, h2⟩
      · cases hm
    · cases hm
  · -- box
    simp only [Option.map_eq_some_iff] at hm
    obtain ⟨x', hx, rfl⟩ := hm
    obtain ⟨d, rfl⟩ := Option.isSome_iff_exists.1 (hst' rfl)
    simp only [M.eff] at he
    split at he <;> cases he
    rename_i hdata
    obtain ⟨a', w', h1, h2⟩ := leaves_box (o := ⟨some d, _, type, pos, after, guard⟩) rfl hx rfl (hd d rfl) h hdata (.add h.low.2 _) (h.sim.fresh _ _ ok_new) h.low.1
    exact ⟨_, a', w', h1, h2⟩
  · -- buildSlice
    split at hm
    · rename_i hu
      split at hm
      · rename_i he' hx
        split at hm <;> cases hm
        rename_i hc
        obtain ⟨d, rfl⟩ := Option.isSome_iff_exists.1 (hst' rfl)
        simp only [M.eff, S.hO, Ops.std] at he
        split at he <;> cases he
        rename_i hc2
        simp only [Bool.and_eq_true, List.all_eq_true, decide_eq_true_eq, beq_iff_eq] at hc2
        obtain ⟨g', a', w', _, h1, h2⟩ := leaves_mks (o := ⟨some d, _, type, pos, after, guard⟩) rfl hu he' hx hc.1 hc.2.1 hc.2.2 rfl (hd d rfl) h hc2.1 (by simpa using hc2.2)
        exact ⟨g', a', w', h1, h2⟩
      · cases hm
    · cases hm
  · -- store
    split at hm <;> cases hm
    rename_i hi hx hy
    have hdn : dst = none := hst rfl
    subst hdn
    simp only [M.eff] at he
    split at he
    · rename_i i l off hxe
      split at he
      · rename_i c hH
        split at he <;> cases he
        rename_i hc
        obtain ⟨a', w', h1, h2⟩ := leaves_st (o := ⟨none, _, type, pos, after, guard⟩) rfl hi hx hy rfl h hxe hH hc.1 hc.2.1 hc.2.2.1 hc.2.2.2
        exact ⟨g, a', w', h1, h2⟩
      · cases he
    · cases he
  · -- append
    rename_i args ts
    split at hm
    · rename_i x y t t' hargs hts
      split at hm
      · rename_i htt
        subst htt
        split at hm
        · rename_i hu
          split at hm
          · rename_i he' hx hy
            split at hm <;> cases hm
            rename_i hc
            have hA : args = #[x, y] := by apply Array.ext'; simpa using hargs
            have hT : ts = #[t, t] := by apply Array.ext'; simpa using hts
            subst hA; subst hT
            obtain ⟨d, rfl⟩ := Option.isSome_iff_exists.1 (hst' rfl)
            simp only [M.eff] at he
            split at he <;> cases he
            rename_i hv
            obtain ⟨g', a', w', _, h1, h2⟩ := leaves_app (o := ⟨some d, _, type, pos, after, guard⟩) rfl hu he' hx hy hc.1 hc.2 rfl (hd d rfl) h hv
            exact ⟨g', a', w', h1, h2⟩
          · cases hm
        · cases hm
      · cases hm
    · cases hm
  · cases hm

theorem eff_none_of_pure {o : Op} {m : M} (h : compPure P o = some m) : m.eff σ S = none := by
  unfold compPure at h
  split at h
  all_goals (repeat' (first | (cases h; done) | (simp only [Option.map_eq_some_iff] at h; obtain ⟨_, _, rfl⟩ := h; rfl) | (cases h; rfl) | split at h))

theorem val_none_of_eff {o : Op} {m : M} (h : compEff P o = some m) : m.val σ S = none := by
  unfold compEff at h
  split at h
  all_goals (repeat' (first | (cases h; done) | (simp only [Option.map_eq_some_iff] at h; obtain ⟨_, _, rfl⟩ := h; rfl) | (cases h; rfl) | split at h))

theorem eff_not_call {o : Op} {m : M} (h : compEff P o = some m) : (∀ f xs, m ≠ .call f xs) ∧ ∀ x xs, m ≠ .callv x xs := by
  unfold compEff at h
  split at h
  all_goals (repeat' (first | (cases h; done) | (simp only [Option.map_eq_some_iff] at h; obtain ⟨_, _, rfl⟩ := h; exact ⟨fun _ _ => by simp, fun _ _ => by simp⟩) | (cases h; exact ⟨fun _ _ => by simp, fun _ _ => by simp⟩) | split at h))

theorem pure_not_call {o : Op} {m : M} (h : compPure P o = some m) : (∀ f xs, m ≠ .call f xs) ∧ ∀ x xs, m ≠ .callv x xs := by
  unfold compPure at h
  split at h
  all_goals (repeat' (first | (cases h; done) | (simp only [Option.map_eq_some_iff] at h; obtain ⟨_, _, rfl⟩ := h; exact ⟨fun _ _ => by simp, fun _ _ => by simp⟩) | (cases h; exact ⟨fun _ _ => by simp, fun _ _ => by simp⟩) | split at h))

theorem call_of_op {o : Oper} {m : M} (hm : compCall P o.op = some m) : (∃ (f : FuncId) (args : Array Operand × Array TypeId) (xs : List X), o.op = .call { callee := .value (.func f), args := args.1, argTypes := args.2 } ∧ isGo P f = true ∧ compXs args.1.toList = some xs ∧ m = .call f xs) ∨
    ∃ (t : Tmp) (args : Array Operand × Array TypeId) (xs : List X), o.op = .call { callee := .value (.tmp t), args := args.1, argTypes := args.2 } ∧ compXs args.1.toList = some xs ∧ m = .callv (.t t) xs := by
  unfold compCall at hm
  split at hm
  · rename_i f args ts heq
    split at hm
    · rename_i hf
      simp only [Option.map_eq_some_iff] at hm
      obtain ⟨xs, hx, rfl⟩ := hm
      exact .inl ⟨f, (args, ts), xs, heq, hf, hx, rfl⟩
    · cases hm
  · rename_i t args ts heq
    simp only [Option.map_eq_some_iff] at hm
    obtain ⟨xs, hx, rfl⟩ := hm
    exact .inr ⟨t, (args, ts), xs, heq, hx, rfl⟩
  · cases hm

/-- What an operation's compiled form tells. -/
theorem compRO_spec {ops : List Oper} {rs : List Nat} {o : Oper} {ro : RO} (h : compRO P ops rs o = some ro) :
    compM P ops rs o = some ro.m ∧ compGuard ops o.guard = some ro.guard ∧ ro.dst = o.dst ∧ (ro.m.isSt = true → o.dst = none) ∧
      ((∃ f xs, ro.m = .call f xs) ∨ (∃ x xs, ro.m = .callv x xs) ∨ (ro.m.isSt = false → o.dst.isSome = true)) := by
  unfold compRO at h
  split at h
  · rename_i m g hm hg
    split at h
    · cases h
    · rename_i hd; cases h; exact ⟨hm, hg, hd.symm, fun _ => hd, .inr (.inr fun h => by simp [M.isSt] at h)⟩
    · cases h; exact ⟨hm, hg, rfl, fun h => by simp [M.isSt] at h, .inl ⟨_, _, rfl⟩⟩
    · cases h; exact ⟨hm, hg, rfl, fun h => by simp [M.isSt] at h, .inr (.inl ⟨_, _, rfl⟩)⟩
    · rename_i m' o' d h1 h2 h3 hd
      cases h
      refine ⟨hm, hg, hd.symm, fun h' => ?_, .inr (.inr fun _ => by rw [hd]; rfl)⟩
      exfalso
      unfold M.isSt at h'
      split at h'
      · rename_i hh; exact h1 _ _ _ hh
      · cases h'
    · cases h
  · cases h

theorem vc1_eff {ro : RO} {Q : AX → (Nat → V) → St → Prop} {K : (Nat → V) → St → Prop} (h1 : ∀ f xs, ro.m ≠ .call f xs) (h2 : ∀ x xs, ro.m ≠ .callv x xs) (h : ro.vc1 P Q K σ S) :
    (∃ v σ' S', ro.m.eff σ S = some (v, σ', S') ∧ K (putD σ' ro.dst v) S') ∨ (ro.m.eff σ S = none ∧ ∃ v, ro.m.val σ S = some v ∧ K (putD σ ro.dst v) S) := by
  unfold RO.vc1 at h
  split at h
  · rename_i f args hm; exact absurd hm (h1 _ _)
  · rename_i x args hm; exact absurd hm (h2 _ _)
  · split at h
    · rename_i v σ' S' he; exact .inl ⟨v, σ', S', he, h⟩
    · rename_i he
      split at h
      · rename_i v hv; exact .inr ⟨he, v, hv, h⟩
      · exact h.elim

/-- ONE OPERATION THAT IS WANTED. -/
theorem op_sound {ops : List Oper} {rs : List Nat} {o : Oper} {ro : RO} {Q : AX → (Nat → V) → St → Prop} {K : (Nat → V) → St → Prop} {K' : Act → World → Prop} (hc : compRO P ops rs o = some ro)
    (h : Sim g₀ w₀ N g σ S a w) (hd : ∀ k, o.dst = some k → k < N) (hv : ro.vc1 P Q K σ S) (hK : ∀ g σ S a w, Sim g₀ w₀ N g σ S a w → K σ S → K' a w) : o.wp P a w K' (APost g₀ w₀ N Q) := by
  obtain ⟨hm, _, hdst, hst, hkind⟩ := compRO_spec hc
  have pureCase : ∀ m, compPure P o.op = some m → ro.m = m → (∀ f xs, ro.m ≠ .call f xs) → (∀ x xs, ro.m ≠ .callv x xs) → o.wp P a w K' (APost g₀ w₀ N Q) := by
    intro m hp hmm n1 n2
    rcases vc1_eff n1 n2 hv with ⟨v, σ', S', he, _⟩ | ⟨_, v, hval, hk⟩
    · rw [hmm, eff_none_of_pure hp] at he; cases he
    · rw [hmm] at hval
      obtain ⟨val, e1, e2, e3⟩ := pure_val hp h.sim h.rep hval
      refine Leaves.wp (.inl ⟨val, e1, rfl⟩) (hK _ _ _ _ _ (h.putD hd e2 e3) ?_)
      rw [← hdst]; exact hk
  have effCase : ∀ m, compEff P o.op = some m → ro.m = m → (∀ f xs, ro.m ≠ .call f xs) → (∀ x xs, ro.m ≠ .callv x xs) → o.wp P a w K' (APost g₀ w₀ N Q) := by
    intro m hp hmm n1 n2
    rcases vc1_eff n1 n2 hv with ⟨v, σ', S', he, hk⟩ | ⟨_, v, hval, _⟩
    · rw [hmm] at he
      have hkind' : m.isSt = false → o.dst.isSome = true := by
        rcases hkind with ⟨f, xs, e⟩ | ⟨x, xs, e⟩ | e
        · exact absurd e (n1 _ _)
        · exact absurd e (n2 _ _)
        · rw [hmm] at e; exact e
      obtain ⟨g', a', w', hl, hs⟩ := eff_sound hp h he hd (by rw [← hmm]; exact hst) hkind'
      exact hl.wp (hK _ _ _ _ _ hs (by rw [← hdst]; exact hk))
    · rw [hmm, val_none_of_eff hp] at hval; cases hval
  have callCase : ∀ m, compCall P o.op = some m → ro.m = m → o.wp P a w K' (APost g₀ w₀ N Q) := by
    intro m hp hmm
    rcases call_of_op hp with ⟨f, args, xs, ho, hf, hx, rfl⟩ | ⟨t, args, xs, ho, hx, rfl⟩
    · have hv2 := hv
      unfold RO.vc1 at hv2
      rw [hmm] at hv2
      simp only at hv2
      refine wp_enter (f := f) (vals := (args.1.toList.map a.eval).toArray) ?_ (call_ends h hd hK (reps_args hx h.rep) (by rw [← hdst]; exact hv2))
      have e : args.1.map a.eval = (args.1.toList.map a.eval).toArray := by apply Array.ext'; simp
      simp [execOp, ho, resolve, Act.eval, Deferred.ofValue, invoke, callFunc_run hf, e]
    · have hv2 := hv
      unfold RO.vc1 at hv2
      rw [hmm] at hv2
      simp only at hv2
      have hxr := (compX_rep (o := .tmp t) (x := .t t) rfl h.rep).1
      revert hv2 hxr
      generalize (X.t t).ev σ = fv
      intro hv2 hxr
      cases fv with
      | fn f caps =>
        simp only at hv2
        generalize hev : a.eval (.tmp t) = pv at hxr
        cases hxr with
        | fn _ _ vs hl hcap =>
          have hra := reps_args hx h.rep
          have hrr : Reps g (xs.map (·.ev σ) ++ caps) ((args.1.toList.map a.eval).toArray ++ vs) := by
            refine ⟨by simp only [List.length_append, Array.size_append, hl, hra.1], fun j y v hy hv' => ?_⟩
            rw [List.getElem?_append] at hy
            rw [Array.getElem?_append] at hv'
            rw [hra.1] at hy
            split at hy
            · rename_i hlt; rw [if_pos hlt] at hv'; exact hra.2 _ _ _ hy hv'
            · rename_i hlt; rw [if_neg hlt] at hv'; exact hcap _ _ _ hy hv'
          refine wp_enter (f := f) (vals := (args.1.toList.map a.eval).toArray ++ vs) ?_ (call_ends h hd hK hrr (by rw [← hdst]; exact hv2))
          have e : args.1.map a.eval = (args.1.toList.map a.eval).toArray := by apply Array.ext'; simp
          simp [execOp, ho, resolve, hev, Deferred.ofValue, invoke, callFunc_run hv2.1, e]
      | _ => simp at hv2
  unfold compM at hm
  split at hm
  · rename_i x d ho hdd
    have hmove : ∀ x', compX x = some x' → o.dst = some d → (ro.m = .asg x' → o.wp P a w K' (APost g₀ w₀ N Q)) ∧ (ro.m = .mv x' → o.wp P a w K' (APost g₀ w₀ N Q)) := by
      intro x' hx hdd
      refine ⟨fun e => ?_, fun e => ?_⟩
      · rcases vc1_eff (by rw [e]; simp) (by rw [e]; simp) hv with ⟨v, σ', S', he, hk⟩ | ⟨hn, _⟩
        · rw [e] at he
          simp only [M.eff, Option.some.injEq, Prod.mk.injEq] at he
          obtain ⟨rfl, rfl, rfl⟩ := he
          obtain ⟨r1, r2, r3⟩ := raw_rep h hx
          refine Leaves.wp (a' := a.put o.dst (a.eval x)) (w' := w) (.inl ⟨a.eval x, by simp [execOp, ho], rfl⟩) (hK g (Pl.putD (x'.down σ) o.dst (x'.raw σ)) S _ w ?_ (by rw [← hdst]; exact hk))
          rw [hdd]
          exact (down_sim h x').put' (hd d hdd) h.ext h.sim (.refl g) r1 (fun _ _ c => c) r2 (fun t b _ hs => r3 t b hs)
        · rw [e] at hn; simp [M.eff] at hn
      · rcases vc1_eff (by rw [e]; simp) (by rw [e]; simp) hv with ⟨v, σ', S', he, _⟩ | ⟨_, v, hval, hk⟩
        · rw [e] at he; simp [M.eff] at he
        · rw [e] at hval
          have := val_mv hx h.rep hval
          exact Leaves.wp (a' := a.put o.dst (a.eval x)) (w' := w) (.inl ⟨a.eval x, by simp [execOp, ho], rfl⟩) (hK _ _ _ _ _ (h.putD hd this.1 this.2) (by rw [← hdst]; exact hk))
    split at hm <;> (simp only [Option.map_eq_some_iff] at hm; obtain ⟨x', hx, hm⟩ := hm)
    · exact (hmove x' hx hdd).1 hm.symm
    · exact (hmove x' hx hdd).2 hm.symm
  · split at hm
    · rename_i m he
      simp only [Option.some.injEq] at hm
      exact effCase m he hm.symm (by rw [← hm]; exact (eff_not_call he).1) (by rw [← hm]; exact (eff_not_call he).2)
    · split at hm
      · rename_i m hp
        simp only [Option.some.injEq] at hm
        exact pureCase m hp hm.symm (by rw [← hm]; exact (pure_not_call hp).1) (by rw [← hm]; exact (pure_not_call hp).2)
      · exact callCase ro.m hm rfl

end
end Go.Pl
