import Derived.Test.YtllbopmdpmjcpaaGreatDoorM06
set_option linter.unusedSimpArgs false
set_option linter.unusedVariables false
set_option linter.unusedSectionVars false
section
namespace Go.Pl
section
variable {P : Program} {g₀ g : Gh} {w₀ : World} {N : Nat} {S S' : St} {w : World} {σ σ' : Nat → V} {a : Act}
def M.isSt : M → Bool
 | .st _ _ _ => true
 | _ => false
def M.noDst : M → Bool
 | .st _ _ _ | .mup _ _ _ _ | .clr _ _ _ => true
 | _ => false
def M.isCall : M → Bool
 | .call _ _ | .callv _ _ | .pan _ => true
 | _ => false
theorem Boxed.add (h : S.b < S.n) (x : V) : Boxed S S.b S.c x (S.add x) where
 H := rfl
 ok := by rw [ok_iff]; simp only [St.add]; omega
 mono j m := by rw [ok_not, ok_not]; simp only [St.add]; omega
 n := Nat.le_refl _
 b := rfl
theorem ok_new : S.ok S.b S.c = false := by rw [ok_not]; omega
theorem eff_sound {o : Oper} {m : M} {rom : Bool} (hm : compEff P rom o.op = some m) (h : Sim g₀ w₀ N g σ S a w) {v : V} (he : m.eff σ S = some (v, σ', S')) (hd : ∀ d, o.dst = some d → d < N)
  (hst : m.noDst = true → o.dst = none) (hst' : m.noDst = false → o.dst.isSome = true) :
  ∃ g' a' w', Leaves P o a w a' w' ∧ Sim g₀ w₀ N g' (putD σ' o.dst v) S' a' w' := by
 obtain ⟨dst, op, type, pos, after, guard⟩ := o
 simp only at hm hd hst hst'
 unfold compEff at hm
 split at hm
 ·
  rename_i x
  simp only [Option.map_eq_some_iff] at hm
  obtain ⟨x', hx, rfl⟩ := hm
  obtain ⟨d, rfl⟩ := Option.isSome_iff_exists.1 (hst' rfl)
  simp only [M.eff, Option.some.injEq, Prod.mk.injEq] at he
  obtain ⟨rfl, rfl, rfl⟩ := he
  obtain ⟨a', h1, h2⟩ := leaves_asg (P := P) (o := ⟨some d, .assign x, type, pos, after, guard⟩) rfl hx rfl (hd d rfl) h
  exact ⟨g, a', w, h1, h2⟩
 ·
  split at hm
  ·rename_i hi
   split at hm
   ·rename_i hz
    simp only [Option.map_eq_some_iff] at hm
    obtain ⟨z', hz', rfl⟩ := hm
    obtain ⟨d, rfl⟩ := Option.isSome_iff_exists.1 (hst' rfl)
    simp only [M.eff, Option.some.injEq, Prod.mk.injEq] at he
    obtain ⟨rfl, rfl, rfl⟩ := he
    obtain ⟨a', w', h1, h2⟩ := leaves_new (o := ⟨some d, _, type, pos, after, guard⟩) rfl hi hz hz' rfl (hd d rfl) h (.add h.low.2 _) (h.sim.fresh _ _ ok_new) h.low.1
    exact ⟨_, a', w', h1, h2⟩
   ·cases hm
  ·cases hm
 ·
  split at hm
  ·simp only [Option.map_eq_some_iff] at hm
   obtain ⟨x', hx, rfl⟩ := hm
   obtain ⟨d, rfl⟩ := Option.isSome_iff_exists.1 (hst' rfl)
   simp only [M.eff] at he
   split at he <;> cases he
   rename_i hdata
   obtain ⟨g', a', w', _, h1, h2⟩ := leaves_boxr (o := ⟨some d, _, type, pos, after, guard⟩) rfl hx rfl (hd d rfl) h hdata
   exact ⟨_, a', w', h1, h2⟩
  simp only [Option.map_eq_some_iff] at hm
  obtain ⟨x', hx, rfl⟩ := hm
  obtain ⟨d, rfl⟩ := Option.isSome_iff_exists.1 (hst' rfl)
  simp only [M.eff] at he
  split at he <;> cases he
  rename_i hdata
  obtain ⟨a', w', h1, h2⟩ := leaves_box (o := ⟨some d, _, type, pos, after, guard⟩) rfl hx rfl (hd d rfl) h hdata (.add h.low.2 _) (h.sim.fresh _ _ ok_new) h.low.1
  exact ⟨_, a', w', h1, h2⟩
 ·
  split at hm
  ·rename_i hu
   split at hm
   ·rename_i he' hx
    split at hm <;> cases hm
    rename_i hc
    obtain ⟨d, rfl⟩ := Option.isSome_iff_exists.1 (hst' rfl)
    simp only [M.eff, S.hO, Ops.std] at he
    split at he <;> cases he
    rename_i hc2
    simp only [Bool.and_eq_true, List.all_eq_true, decide_eq_true_eq, beq_iff_eq] at hc2
    obtain ⟨g', a', w', _, h1, h2⟩ := leaves_mks (o := ⟨some d, _, type, pos, after, guard⟩) rfl hu he' hx hc.1 hc.2.1 hc.2.2 rfl (hd d rfl) h hc2.1 (by simpa using hc2.2)
    exact ⟨g', a', w', h1, h2⟩
   ·cases hm
  ·cases hm
 ·
  split at hm <;> cases hm
  rename_i hi hx hy
  have hdn : dst = none := hst rfl
  subst hdn
  simp only [M.eff] at he
  split at he
  ·rename_i i l off hxe
   split at he
   ·rename_i c hH
    split at he <;> cases he
    rename_i hc
    obtain ⟨a', w', h1, h2⟩ := leaves_st (o := ⟨none, _, type, pos, after, guard⟩) rfl hi hx hy rfl h hxe hH hc.1 hc.2.1 hc.2.2.1 hc.2.2.2.1 hc.2.2.2.2
    exact ⟨g, a', w', h1, h2⟩
   ·cases he
  ·rename_i i l sz' j hxe
   split at he
   ·rename_i sz'' xs hH
    split at he
    ·rename_i hc
     obtain ⟨rfl, rfl, hc1, hc2⟩ := hc
     rw [S.hO] at he
     simp only [Ops.std] at he
     split at he <;> cases he
     rename_i xs' hp
     split at hp <;> cases hp
     rename_i hb
     obtain ⟨a', w', h1, h2⟩ := leaves_ste (o := ⟨none, _, type, pos, after, guard⟩) rfl hi hx hy rfl h hxe hH hc1 hc2 hb.1 hb.2
     exact ⟨g, a', w', h1, h2⟩
    ·cases he
   ·cases he
  ·cases he
 ·
  rename_i args ts
  split at hm
  ·rename_i x y t t' hargs hts
   split at hm
   ·rename_i htt
    subst htt
    split at hm
    ·rename_i hu
     split at hm
     ·rename_i he' hx hy
      split at hm <;> cases hm
      rename_i hc
      have hA : args = #[x, y] := by apply Array.ext'; simpa using hargs
      have hT : ts = #[t, t] := by apply Array.ext'; simpa using hts
      subst hA; subst hT
      obtain ⟨d, rfl⟩ := Option.isSome_iff_exists.1 (hst' rfl)
      simp only [M.eff] at he
      split at he <;> cases he
      rename_i hv
      obtain ⟨g', a', w', _, h1, h2⟩ := leaves_app (o := ⟨some d, _, type, pos, after, guard⟩) rfl hu he' hx hy hc.1 hc.2 rfl (hd d rfl) h hv
      exact ⟨g', a', w', h1, h2⟩
     ·cases hm
    ·cases hm
   ·cases hm
  ·cases hm
 ·
  rename_i args ts
  split at hm
  ·rename_i x t hargs hts
   split at hm
   ·rename_i hu
    split at hm
    ·rename_i he' hx
     split at hm
     ·rename_i hz
      split at hm <;> cases hm
      rename_i hz'
      have hA : args = #[x] := by apply Array.ext'; simpa using hargs
      have hT : ts = #[t] := by apply Array.ext'; simpa using hts
      subst hA; subst hT
      have hdn : dst = none := hst rfl
      subst hdn
      simp only [M.eff] at he
      split at he <;> cases he
      rename_i hc
      obtain ⟨a', w', h1, h2⟩ := leaves_clr (o := ⟨none, _, type, pos, after, guard⟩) rfl hu he' hz hz' hx rfl h hc
      exact ⟨g, a', w', h1, h2⟩
     ·cases hm
    ·cases hm
   ·cases hm
  ·cases hm
 ·
  cases hm
  obtain ⟨d, rfl⟩ := Option.isSome_iff_exists.1 (hst' rfl)
  simp only [M.eff, Option.some.injEq, Prod.mk.injEq] at he
  obtain ⟨rfl, rfl, rfl⟩ := he
  obtain ⟨a', w', h1, h2⟩ := leaves_mmk (o := ⟨some d, _, type, pos, after, guard⟩) rfl rfl (hd d rfl) h (.add h.low.2 _) (h.sim.fresh _ _ ok_new) h.low.1
  exact ⟨_, a', w', h1, h2⟩
 ·
  split at hm
  ·rename_i hu
   split at hm <;> cases hm
   rename_i hk hx hkx hy
   have hdn : dst = none := hst rfl
   subst hdn
   obtain ⟨kind, hku, hkk⟩ := keyKind_spec hk
   simp only [M.eff] at he
   split at he
   ·rename_i i j hxe
    split at he
    ·rename_i ks vs hH
     rw [S.hO] at he
     simp only [Ops.std] at he
     split at he <;> cases he
     rename_i p hp
     obtain ⟨a', w', h1, h2⟩ := leaves_mup (o := ⟨none, _, type, pos, after, guard⟩) (.inl rfl) hu hku hkk hx hkx hy rfl h hxe hH hp
     exact ⟨g, a', w', h1, h2⟩
    ·cases he
   ·cases he
  ·cases hm
 ·
  split at hm
  ·rename_i hu
   split at hm <;> cases hm
   rename_i hk hx hkx hy
   have hdn : dst = none := hst rfl
   subst hdn
   obtain ⟨kind, hku, hkk⟩ := keyKind_spec hk
   simp only [M.eff] at he
   split at he
   ·rename_i i j hxe
    split at he
    ·rename_i ks vs hH
     rw [S.hO] at he
     simp only [Ops.std] at he
     split at he <;> cases he
     rename_i p hp
     obtain ⟨a', w', h1, h2⟩ := leaves_mup (o := ⟨none, _, type, pos, after, guard⟩) (.inr rfl) hu hku hkk hx hkx hy rfl h hxe hH hp
     exact ⟨g, a', w', h1, h2⟩
    ·cases he
   ·cases he
  ·cases hm
 ·cases hm
theorem eff_none_of_pure {o : Op} {m : M} (h : compPure P o = some m) : m.eff σ S = none := by
 unfold compPure at h
 split at h
 all_goals (repeat' (first | (cases h; done) | (simp only [Option.map_eq_some_iff] at h; obtain ⟨_, _, rfl⟩ := h; rfl) | (cases h; rfl) | split at h))
theorem val_none_of_eff {o : Op} {m : M} {rom : Bool} (h : compEff P rom o = some m) : m.val σ S = none := by
 unfold compEff at h
 split at h
 all_goals (repeat' (first | (cases h; done) | (simp only [Option.map_eq_some_iff] at h; obtain ⟨_, _, rfl⟩ := h; rfl) | (cases h; rfl) | split at h))
theorem eff_not_call {o : Op} {m : M} {rom : Bool} (h : compEff P rom o = some m) : m.isCall = false := by
 unfold compEff at h
 split at h
 all_goals (repeat' (first | (cases h; done) | (simp only [Option.map_eq_some_iff] at h; obtain ⟨_, _, rfl⟩ := h; rfl) | (cases h; rfl) | split at h))
theorem pure_not_call {o : Op} {m : M} (h : compPure P o = some m) : m.isCall = false := by
 unfold compPure at h
 split at h
 all_goals (repeat' (first | (cases h; done) | (simp only [Option.map_eq_some_iff] at h; obtain ⟨_, _, rfl⟩ := h; rfl) | (cases h; rfl) | split at h))
theorem call_of_op {o : Oper} {m : M} (hm : compCall P o.op = some m) : (∃ (f : FuncId) (args : Array Operand × Array TypeId) (xs : List X), o.op = .call { callee := .value (.func f), args := args.1, argTypes := args.2 } ∧ isGo P f = true ∧ compXs args.1.toList = some xs ∧ m = .call f xs) ∨
  (∃ (t : Tmp) (args : Array Operand × Array TypeId) (xs : List X), o.op = .call { callee := .value (.tmp t), args := args.1, argTypes := args.2 } ∧ compXs args.1.toList = some xs ∧ m = .callv (.t t) xs) ∨
  ∃ (x : Operand) (x' : X), o.op = .panic x ∧ compX x = some x' ∧ m = .pan x' := by
 unfold compCall at hm
 split at hm
 ·rename_i f args ts heq
  split at hm
  ·rename_i hf
   simp only [Option.map_eq_some_iff] at hm
   obtain ⟨xs, hx, rfl⟩ := hm
   exact .inl ⟨f, (args, ts), xs, heq, hf, hx, rfl⟩
  ·cases hm
 ·rename_i t args ts heq
  simp only [Option.map_eq_some_iff] at hm
  obtain ⟨xs, hx, rfl⟩ := hm
  exact .inr (.inl ⟨t, (args, ts), xs, heq, hx, rfl⟩)
 ·rename_i x heq
  simp only [Option.map_eq_some_iff] at hm
  obtain ⟨x', hx, rfl⟩ := hm
  exact .inr (.inr ⟨x, x', heq, hx, rfl⟩)
 ·cases hm
theorem compRO_spec {ops : List Oper} {rs : List Nat} {o : Oper} {ro : RO} (h : compRO P ops rs o = some ro) :
  compM P ops rs o = some ro.m ∧ compGuard ops o.guard = some ro.guard ∧ ro.dst = o.dst ∧ (ro.m.noDst = true → o.dst = none) ∧
   (ro.m.isCall = true ∨ (ro.m.noDst = false → o.dst.isSome = true)) := by
 unfold compRO at h
 split at h
 ·rename_i m g hm hg
  split at h
  ·cases h
  ·rename_i hd; cases h; exact ⟨hm, hg, hd.symm, fun _ => hd, .inr fun h => by simp [M.noDst] at h⟩
  ·cases h; exact ⟨hm, hg, rfl, fun h => by simp [M.noDst] at h, .inl rfl⟩
  ·cases h; exact ⟨hm, hg, rfl, fun h => by simp [M.noDst] at h, .inl rfl⟩
  ·cases h
  ·rename_i hd; cases h; exact ⟨hm, hg, hd.symm, fun _ => hd, .inr fun h => by simp [M.noDst] at h⟩
  ·cases h
  ·rename_i hd; cases h; exact ⟨hm, hg, hd.symm, fun _ => hd, .inr fun h => by simp [M.noDst] at h⟩
  ·cases h; exact ⟨hm, hg, rfl, fun h => by simp [M.noDst] at h, .inl rfl⟩
  ·rename_i m' o' d h1 h2 h3 h4 h6 h5 hd
   cases h
   refine ⟨hm, hg, hd.symm, fun h' => ?_, .inr fun _ => by rw [hd]; rfl⟩
   exfalso
   unfold M.noDst at h'
   split at h'
   ·rename_i hh; exact h1 _ _ _ hh
   ·rename_i hh; exact h4 _ _ _ _ hh
   ·rename_i hh; exact h6 _ _ _ hh
   ·cases h'
  ·cases h
 ·cases h
theorem vc1_eff {ro : RO} {Q : AX → (Nat → V) → St → Prop} {K : (Nat → V) → St → Prop} (h1 : ro.m.isCall = false) (h : ro.vc1 P Q K σ S) :
  (∃ v σ' S', ro.m.eff σ S = some (v, σ', S') ∧ K (putD σ' ro.dst v) S') ∨ (ro.m.eff σ S = none ∧ ∃ v, ro.m.val σ S = some v ∧ K (putD σ ro.dst v) S) := by
 unfold RO.vc1 at h
 split at h
 ·rename_i f args hm; rw [hm] at h1; cases h1
 ·rename_i x args hm; rw [hm] at h1; cases h1
 ·rename_i x hm; rw [hm] at h1; cases h1
 ·split at h
  ·rename_i v σ' S' he; exact .inl ⟨v, σ', S', he, h⟩
  ·rename_i he
   split at h
   ·rename_i v hv; exact .inr ⟨he, v, hv, h⟩
   ·exact h.elim
theorem op_sound [Tab P g₀ w₀] {ops : List Oper} {rs : List Nat} {o : Oper} {ro : RO} {Q : AX → (Nat → V) → St → Prop} {K : (Nat → V) → St → Prop} {K' : Act → World → Prop} (hc : compRO P ops rs o = some ro)
  (h : Sim g₀ w₀ N g σ S a w) (hd : ∀ k, o.dst = some k → k < N) (hv : ro.vc1 P Q K σ S) (hK : ∀ g σ S a w, Sim g₀ w₀ N g σ S a w → K σ S → K' a w) : o.wp P a w K' (APost g₀ w₀ N Q) := by
 obtain ⟨hm, _, hdst, hst, hkind⟩ := compRO_spec hc
 have pureCase : ∀ m, compPure P o.op = some m → ro.m = m → ro.m.isCall = false → o.wp P a w K' (APost g₀ w₀ N Q) := by
  intro m hp hmm n1
  rcases vc1_eff n1 hv with ⟨v, σ', S', he, _⟩ | ⟨_, v, hval, hk⟩
  ·rw [hmm, eff_none_of_pure hp] at he; cases he
  ·rw [hmm] at hval
   obtain ⟨val, e1, e2, e3⟩ := pure_val hp h.sim h.rep hval
   refine Leaves.wp (.inl ⟨val, e1, rfl⟩) (hK _ _ _ _ _ (h.putD hd e2 e3) ?_)
   rw [← hdst]; exact hk
 have effCase : ∀ m rom, compEff P rom o.op = some m → ro.m = m → ro.m.isCall = false → o.wp P a w K' (APost g₀ w₀ N Q) := by
  intro m rom hp hmm n1
  rcases vc1_eff n1 hv with ⟨v, σ', S', he, hk⟩ | ⟨_, v, hval, _⟩
  ·rw [hmm] at he
   have hkind' : m.noDst = false → o.dst.isSome = true := by
    rcases hkind with e | e
    ·rw [n1] at e; cases e
    ·rw [hmm] at e; exact e
   obtain ⟨g', a', w', hl, hs⟩ := eff_sound hp h he hd (by rw [← hmm]; exact hst) hkind'
   exact hl.wp (hK _ _ _ _ _ hs (by rw [← hdst]; exact hk))
  ·rw [hmm, val_none_of_eff hp] at hval; cases hval
 have callCase : ∀ m, compCall P o.op = some m → ro.m = m → o.wp P a w K' (APost g₀ w₀ N Q) := by
  intro m hp hmm
  rcases call_of_op hp with ⟨f, args, xs, ho, hf, hx, rfl⟩ | ⟨t, args, xs, ho, hx, rfl⟩ | ⟨x, x', ho, hx, rfl⟩
  ·have hv2 := hv
   unfold RO.vc1 at hv2
   rw [hmm] at hv2
   simp only at hv2
   refine wp_enter (f := f) (vals := (args.1.toList.map a.eval).toArray) ?_ (call_ends h hd hK (reps_args hx h.rep) (by rw [← hdst]; exact hv2))
   have e : args.1.map a.eval = (args.1.toList.map a.eval).toArray := by apply Array.ext'; simp
   simp [execOp, ho, resolve, Act.eval, Deferred.ofValue, invoke, callFunc_run hf, e]
  ·have hv2 := hv
   unfold RO.vc1 at hv2
   rw [hmm] at hv2
   simp only at hv2
   have hxr := (compX_rep (o := .tmp t) (x := .t t) rfl h.rep).1
   revert hv2 hxr
   generalize (X.t t).ev σ = fv
   intro hv2 hxr
   cases fv with
   | fn f caps =>
    simp only at hv2
    generalize hev : a.eval (.tmp t) = pv at hxr
    cases hxr with
    | fn _ _ vs hl hcap =>
     have hra := reps_args hx h.rep
     have hrr : Reps g (xs.map (·.ev σ) ++ caps) ((args.1.toList.map a.eval).toArray ++ vs) := by
      refine ⟨by simp only [List.length_append, Array.size_append, hl, hra.1], fun j y v hy hv' => ?_⟩
      rw [List.getElem?_append] at hy
      rw [Array.getElem?_append] at hv'
      rw [hra.1] at hy
      split at hy
      ·rename_i hlt; rw [if_pos hlt] at hv'; exact hra.2 _ _ _ hy hv'
      ·rename_i hlt; rw [if_neg hlt] at hv'; exact hcap _ _ _ hy hv'
     refine wp_enter (f := f) (vals := (args.1.toList.map a.eval).toArray ++ vs) ?_ (call_ends h hd hK hrr (by rw [← hdst]; exact hv2))
     have e : args.1.map a.eval = (args.1.toList.map a.eval).toArray := by apply Array.ext'; simp
     simp [execOp, ho, resolve, hev, Deferred.ofValue, invoke, callFunc_run hv2.1, e]
   | _ => simp at hv2
  ·have hv2 := hv
   unfold RO.vc1 at hv2
   rw [hmm] at hv2
   simp only at hv2
   have hxr := (compX_rep hx h.rep).1
   split at hv2
   ·rename_i t' y hxe
    rw [hxe] at hxr
    generalize hev : a.eval x = pv at hxr
    cases hxr with
    | iface _ _ u hu =>
     have hrun : (execOp a.eval o).run P w = .halt (.panic (.iface t' u)) w := by simp [execOp, ho, hev, Instr.panic, goPanic, Sem.run]
     unfold Oper.wp
     rw [hrun]
     exact ⟨g, σ, S, _, _, h, rfl, .iface _ _ _ hu, hv2⟩
   ·exact hv2.elim
 unfold compM at hm
 split at hm
 ·rename_i x d ho hdd
  have hmove : ∀ x', compX x = some x' → o.dst = some d → (ro.m = .asg x' → o.wp P a w K' (APost g₀ w₀ N Q)) ∧ (ro.m = .mv x' → o.wp P a w K' (APost g₀ w₀ N Q)) := by
   intro x' hx hdd
   refine ⟨fun e => ?_, fun e => ?_⟩
   ·rcases vc1_eff (by rw [e]; rfl) hv with ⟨v, σ', S', he, hk⟩ | ⟨hn, _⟩
    ·rw [e] at he
     simp only [M.eff, Option.some.injEq, Prod.mk.injEq] at he
     obtain ⟨rfl, rfl, rfl⟩ := he
     obtain ⟨r1, r2, r3⟩ := raw_rep h hx
     refine Leaves.wp (a' := a.put o.dst (a.eval x)) (w' := w) (.inl ⟨a.eval x, by simp [execOp, ho], rfl⟩) (hK g (Pl.putD (x'.down σ) o.dst (x'.raw σ)) S _ w ?_ (by rw [← hdst]; exact hk))
     rw [hdd]
     exact (down_sim h x').put' (hd d hdd) h.ext h.sim (.refl g) r1 (fun _ _ c => c) r2 (fun t b _ hs => r3 t b hs)
    ·rw [e] at hn; simp [M.eff] at hn
   ·rcases vc1_eff (by rw [e]; rfl) hv with ⟨v, σ', S', he, _⟩ | ⟨_, v, hval, hk⟩
    ·rw [e] at he; simp [M.eff] at he
    ·rw [e] at hval
     have := val_mv hx h.rep hval
     exact Leaves.wp (a' := a.put o.dst (a.eval x)) (w' := w) (.inl ⟨a.eval x, by simp [execOp, ho], rfl⟩) (hK _ _ _ _ _ (h.putD hd this.1 this.2) (by rw [← hdst]; exact hk))
  split at hm <;> (simp only [Option.map_eq_some_iff] at hm; obtain ⟨x', hx, hm⟩ := hm)
  ·exact (hmove x' hx hdd).1 hm.symm
  ·exact (hmove x' hx hdd).2 hm.symm
 ·split at hm
  ·rename_i m he
   simp only [Option.some.injEq] at hm
   exact effCase m _ he hm.symm (by rw [← hm]; exact eff_not_call he)
  ·split at hm
   ·rename_i m hp
    simp only [Option.some.injEq] at hm
    exact pureCase m hp hm.symm (by rw [← hm]; exact pure_not_call hp)
   ·exact callCase ro.m hm rfl
end
end Go.Pl
end
section
namespace Go.Pl
section
variable {P : Program} {g₀ g : Gh} {w₀ : World} [Tab P g₀ w₀] {N : Nat} {S S' : St} {w : World} {σ σ' : Nat → V} {a : Act}
theorem Sim.undef (h : Sim g₀ w₀ N g σ S a w) {d : Option Nat} (hd : ∀ k, d = some k → k < N) : Sim g₀ w₀ N g (Pl.putD σ d .undef) S (a.put d Go.undef) w :=
 h.putD hd (.tup [] #[] rfl (by simp)) rfl
def GuardSays (W : Bool) (σ : Nat → V) : Option (Nat × Bool) → Prop
 | none => W = true
 | some (t, want) => (∀ b, σ t = .bool b → W = (b == want)) ∧ (∀ l, σ t = .tup l → W = false)
theorem wanted_guard {ops : Array Oper} {o : Oper} {gd : Option (Nat × Bool)} (hg : compGuard ops.toList o.guard = some gd) (hr : ∀ t, Rep g (σ t) (a.tmps.getD t Go.undef)) :
  GuardSays (Region.wanted o (yielded ops a.tmps)) σ gd := by
 unfold Region.wanted
 cases hgd : o.guard with
 | none => rw [hgd] at hg; simp only [compGuard, Option.some.injEq] at hg; subst hg; rfl
 | some p =>
  obtain ⟨j, want⟩ := p
  rw [hgd] at hg
  simp only [compGuard] at hg
  split at hg
  ·rename_i oj hoj
   split at hg <;> cases hg
   rename_i t ht
   have hoj' : ops[j]? = some oj := by simpa using hoj
   have hy : yielded ops a.tmps j = match a.tmps[t]? with
    | some (.bool b) => some b
    | _ => none := by
    simp only [yielded, hoj', Option.bind_some, ht]
    rfl
   refine ⟨fun b hb => ?_, fun l hl => ?_⟩
   ·have := hr t
    rw [hb] at this
    generalize hx : a.tmps.getD t Go.undef = x at this
    cases this
    have : a.tmps[t]? = some (.bool b) := by
     cases h2 : a.tmps[t]? with
     | none => simp [h2, Go.undef] at hx
     | some y => simp [h2] at hx; rw [hx]
    simp only [hy, this]
    cases b <;> cases want <;> rfl
   ·have := hr t
    rw [hl] at this
    generalize hx : a.tmps.getD t Go.undef = x at this
    cases this with
    | tup _ vs h1 h2 =>
     have : yielded ops a.tmps j = none := by
      rw [hy]
      cases h2 : a.tmps[t]? with
      | none => rfl
      | some y => simp [h2] at hx; rw [hx]
     simp only [this]
     rfl
  ·cases hg
theorem vc_wpOp {ops : Array Oper} {rs : List Nat} {o : Oper} {ro : RO} {Q : AX → (Nat → V) → St → Prop} {K : (Nat → V) → St → Prop} {K' : Act → World → Prop} (hc : compRO P ops.toList rs o = some ro)
  (h : Sim g₀ w₀ N g σ S a w) (hv : ro.vc P Q K σ S) (hd : ∀ k, o.dst = some k → k < N) (hK : ∀ g σ S a w, Sim g₀ w₀ N g σ S a w → K σ S → K' a w) :
  if Region.wanted o (yielded ops a.tmps) then o.wp P a w K' (APost g₀ w₀ N Q) else K' (a.put o.dst Go.undef) w := by
 have hsp := compRO_spec hc
 have hg := wanted_guard (a := a) hsp.2.1 h.rep
 unfold RO.vc at hv
 cases hgd : ro.guard with
 | none =>
  rw [hgd] at hv hg
  simp only at hv
  simp only [GuardSays] at hg
  rw [if_pos hg]
  exact op_sound hc h hd hv hK
 | some p =>
  obtain ⟨t, want⟩ := p
  rw [hgd] at hv hg
  simp only at hv
  simp only [GuardSays] at hg
  split at hv
  ·rename_i b hb
   rw [hg.1 b hb]
   by_cases hbw : b = want
   ·rw [if_pos (by simp [hbw])]
    have e : (b == want) = true := by simpa using hbw
    rw [e] at hv
    exact op_sound hc h hd hv hK
   ·rw [if_neg (by simpa using hbw)]
    have e : (b == want) = false := by simpa using hbw
    rw [e] at hv
    simp only [cond_false] at hv
    rw [hsp.2.2.1] at hv
    exact hK _ _ _ _ _ (h.undef hd) hv
  ·rename_i l hl
   rw [hg.2 l hl, if_neg (by simp)]
   rw [hsp.2.2.1] at hv
   exact hK _ _ _ _ _ (h.undef hd) hv
  ·exact hv.elim
def dstsOk (N : Nat) (l : List Oper) : Bool := l.all fun o => match o.dst with
 | some d => decide (d < N)
 | none => true
theorem dstsOk_cons {N : Nat} {o : Oper} {l : List Oper} (h : dstsOk N (o :: l) = true) : (∀ k, o.dst = some k → k < N) ∧ dstsOk N l = true := by
 simp only [dstsOk, List.all_cons, Bool.and_eq_true] at h
 refine ⟨fun k hk => ?_, h.2⟩
 have := h.1
 rw [hk] at this
 simpa using this
theorem ops_sound {ops : Array Oper} {rs : List Nat} {Q : AX → (Nat → V) → St → Prop} : ∀ (l : List Oper) (ros : List RO) (g : Gh) (σ : Nat → V) (S : St) (a : Act) (w : World),
  compROs P ops.toList rs l = some ros → dstsOk N l = true → Sim g₀ w₀ N g σ S a w → vcOps P Q ros σ S → wpList P ops (APost g₀ w₀ N Q) l a w
 | [], ros, g, σ, S, a, w, hc, _, h, hv => by
  simp only [compROs, Option.some.injEq] at hc
  subst hc
  exact ⟨g, σ, S, h, hv⟩
 | o :: l, ros, g, σ, S, a, w, hc, hd, h, hv => by
  simp only [compROs] at hc
  split at hc
  ·rename_i ro rl h1 h2
   cases hc
   have hd' := dstsOk_cons hd
   simp only [vcOps] at hv
   have := vc_wpOp (K' := wpList P ops (APost g₀ w₀ N Q) l) h1 h hv hd'.1 (fun g σ S a w hs hk => ops_sound l rl g σ S a w h2 hd'.2 hs hk)
   unfold wpList
   split
   ·rename_i hw; rw [if_pos hw] at this; exact .inl this
   ·rename_i hw; rw [if_neg hw] at this; exact this
  ·cases hc
end
end Go.Pl
end
