import Derived.Test.YtllbopmdpmjcpaaGreatDoorM09
import Derived.KernelRfl
import Derived.LoopN
set_option linter.unusedSimpArgs false
set_option linter.unusedVariables false
set_option linter.unusedSectionVars false
section
namespace Go.Pl
inductive RX where
 | tmp (t : Nat)
 | cell (t sz : Nat) (ag : Bool)
 deriving Inhabited
def RX.v (σ : Nat → V) (S : St) : RX → Option V
 | .tmp t => some (σ t).plain
 | .cell t sz ag => (M.ld sz ag (.t t)).val σ S
def resVs (σ : Nat → V) (S : St) : List RX → Option (List V)
 | [] => some []
 | r :: l => match r.v σ S, resVs σ S l with
  | some x, some xs => some (x :: xs)
  | _, _ => none
def resV (σ : Nat → V) (S : St) : List RX → Option V
 | [.tmp t] => some (σ t)
 | [.cell t sz ag] => (RX.cell t sz ag).v σ S
 | l => match resVs σ S l with
  | some xs => some (.tup xs)
  | none => none
def compRX (P : Program) : ResultVar → Option RX
 | .tmp t => some (.tmp t)
 | .cell t ty => match aggOf P ty, P.info? ty with
  | some ag, some i => some (.cell t i.size ag)
  | _, _ => none
def compRXs (P : Program) : List ResultVar → Option (List RX)
 | [] => some []
 | r :: l => match compRX P r, compRXs P l with
  | some x, some xs => some (x :: xs)
  | _, _ => none
def rxTmps : List RX → List Nat
 | [.tmp t] => [t]
 | _ => []
structure F where
 N : Nat
 rs : List RX
 c : C
 deriving Inhabited
def compFn (P : Program) (fn : Func) : Option F :=
 match fn.body, compRXs P fn.results.toList with
 | some b, some rs => match compC P fn.ntmps (rxTmps rs) b with
  | some c => some ⟨fn.ntmps, rs, c⟩
  | none => none
 | _, _ => none
def WFS (S : St) : Prop := ∀ i k x, S.H i k = some x → S.ok i k = true ∧ x.refsB S.ok
def St.enter (S : St) : St := ⟨S.H, S.n + 1, S.n, 0, S.O, S.hO⟩
structure Over (S₀ S S' : St) : Prop where
 n : S₀.n ≤ S'.n
 b : S'.b = S₀.b
 c : S₀.c ≤ S'.c
 H : ∀ i k x, S'.H i k = some x → S.H i k = some x ∧ S'.ok i k = true ∧ x.refsB S'.ok
def frame0 (args : List V) : Nat → V := fun t => ((args[t]?).getD .undef).plain
def retPost (rs : List RX) (S₀ : St) (Q : AE → St → Prop) : AX → (Nat → V) → St → Prop
 | .normal, σ, S | .ret, σ, S => ∃ v S', resV σ S rs = some v ∧ v.refsB S'.ok ∧ Over S₀ S S' ∧ Q (.ret v) S'
 | .pan v, _, S => ∃ S', v.refsB S'.ok ∧ Over S₀ S S' ∧ Q (.pan v) S'
 | .exit _, _, _ => False
section
variable {P : Program} {g₀ g : Gh} {w₀ : World} {N n₀ : Nat} {S S' : St} {w : World} {σ σ' : Nat → V} {a : Act}
theorem cut_some {p : Nat → Nat → Bool} {i k b : Nat} (h : (g.cut p).loc i k = some b) : p i k = true ∧ g.loc i k = some b := by
 simp only [Gh.cut] at h
 split at h
 ·rename_i hp; exact ⟨hp, h⟩
 ·cases h
theorem SimW.cut (h : SimW g S w) (hH : ∀ i k x, S'.H i k = some x → S.H i k = some x ∧ S'.ok i k = true ∧ x.refsB S'.ok) : SimW (g.cut S'.ok) S' w where
 mem := h.mem
 box i k x hx := by
  obtain ⟨h1, h2, h3⟩ := hH i k x hx
  obtain ⟨b, o, k1, k2, k3⟩ := h.box i k x h1
  exact ⟨b, o, by simp [Gh.cut, h2, k1], k2, k3.cut _ h3⟩
 inj i k j l b hi hj := h.inj i k j l b (cut_some hi).2 (cut_some hj).2
 boxM i k b hi := h.boxM i k b (cut_some hi).2
 locB i k b hi := h.locB i k b (cut_some hi).2
 fresh i k hi := by simp only [Gh.cut]; rw [if_neg (by rw [hi]; simp)]
theorem Claim.cut {base : Nat} {x : V} {v : Value} (h : Claim g w base x v) (p : Nat → Nat → Bool) : Claim (g.cut p) w base x v :=
 h.step (fun _ _ _ _ => rfl) (fun _ _ _ _ hk => hk) (fun i k b _ hi hc => hi (cut_some hc).2)
theorem Ext.cut (h : Ext g₀ w₀ g w) {p : Nat → Nat → Bool} (h0 : ∀ i k b, g₀.loc i k = some b → p i k = true) : Ext g₀ w₀ (g.cut p) w where
 le := ⟨h.le.M, fun i k b hi => by
  simp only [Gh.cut, h0 i k b hi, if_true]; exact h.le.loc i k b hi⟩
 os := h.os
 tape := h.tape
 output := h.output
 size := h.size
 block := h.block
 newLoc i k b hi := h.newLoc i k b (cut_some hi).2
 newM := h.newM
 top := h.top
 newName i k hi hl := by simp only [Gh.cut]; split; exact h.newName i k hi hl; rfl
theorem SimW.ok_of_loc (h : SimW g S w) {i k b : Nat} (hb : g.loc i k = some b) : S.ok i k = true := by
 cases hok : S.ok i k with
 | true => rfl
 | false => rw [h.fresh i k hok] at hb; cases hb
theorem Sim.wfs (h : SimW g S w) : WFS S := fun i k x hx => by
 obtain ⟨b, o, h1, _, h3⟩ := h.box i k x hx
 exact ⟨h.ok_of_loc h1, h3.refsB _ fun _ _ _ hb => h.ok_of_loc hb⟩
theorem Sim.drop (h : Sim g₀ w₀ N g σ S a w) (hlow : g₀.top ≤ S'.b ∧ S'.b < S'.n) (hσ : ∀ t, (σ t).refsB S'.ok) (hH : ∀ i k x, S'.H i k = some x → S.H i k = some x ∧ S'.ok i k = true ∧ x.refsB S'.ok) :
  Sim g₀ w₀ N (g.cut S'.ok) σ S' a w where
 ext := h.ext.cut fun i k b hb => by
  rcases Nat.lt_or_ge i g₀.top with h' | h'
  ·rw [ok_iff]; omega
  ·rw [h.none0 i k h'] at hb; cases hb
 sim := h.sim.cut hH
 size := h.size
 dfr := h.dfr
 rep t := (h.rep t).cut _ (hσ t)
 claim t := (h.claim t).cut _
 sep := h.sep
 low := hlow
 none0 := h.none0
theorem AW.weaken {c : C} {Q : AX → (Nat → V) → St → Prop} (h : AW P N n₀ c Q σ' S') (hw : ∀ t, σ' t = σ t ∨ σ' t = .any ∨ σ' t = (σ t).plain) (hn : n₀ ≤ S'.b ∧ S'.b < S'.n) (hσ : ∀ t, (σ' t).refsB S'.ok)
  (hH : ∀ i k x, S'.H i k = some x → S.H i k = some x ∧ S'.ok i k = true ∧ x.refsB S'.ok) : AW P N n₀ c Q σ S := by
 refine ⟨?_⟩
 intro hm rs code hc g₀ w₀ g a w ht₀ hs
 exact h.run hm rs code hc g₀ w₀ (g.cut S'.ok) a w ht₀ ((hs.weaken hw).drop (by rw [ht₀.top]; exact hn) hσ hH)
theorem AW.less {c : C} {Q : AX → (Nat → V) → St → Prop} (h : AW P N n₀ c Q σ' S) (hw : ∀ t, σ' t = σ t ∨ σ' t = .any ∨ σ' t = (σ t).plain) : AW P N n₀ c Q σ S := by
 refine ⟨?_⟩
 intro hm rs code hc g₀ w₀ g a w ht₀ hs
 exact h.run hm rs code hc g₀ w₀ g a w ht₀ (hs.weaken hw)
def resOne (a : Act) (r : ResultVar) : Sem Value := match r with
 | .tmp t => Pure.pure (a.tmps.getD t Go.undef)
 | .cell ad t => do loadVar t (← asAddr (a.tmps.getD ad Go.undef))
theorem run_rx {r : ResultVar} {x : RX} (hx : compRX P r = some x) (h : Sim g₀ w₀ N g σ S a w) {v : V} (hv : x.v σ S = some v) :
  ∃ val, (resOne a r).run P w = .ok val w ∧ Rep g v val ∧ v.isGr = false := by
 cases r with
 | tmp t =>
  simp only [compRX, Option.some.injEq] at hx
  subst hx
  simp only [RX.v, Option.some.injEq] at hv
  subst hv
  exact ⟨_, rfl, (h.rep t).toPlain, plain_isGr _⟩
 | cell ad t =>
  simp only [compRX] at hx
  split at hx <;> cases hx
  rename_i h1 h2
  simp only [RX.v] at hv
  obtain ⟨val, e1, e2, e3⟩ := val_ld (x := .tmp ad) h1 h2 rfl h.sim h.rep hv
  refine ⟨val, ?_, e2, e3⟩
  have e1' : ((do loadVar t (← Instr.sureAddr (a.tmps.getD ad Go.undef)) : Sem Value)).run P w = .ok val w := e1
  simp only [resOne, Sem.run_bind] at e1' ⊢
  cases hx : a.tmps.getD ad Go.undef with
  | pointer p =>
   rw [hx] at e1'
   cases p with
   | none => simp [Instr.sureAddr] at e1'
   | some p => simpa [Instr.sureAddr, asAddr] using e1'
  | _ => rw [hx] at e1'; simp [Instr.sureAddr] at e1'
theorem run_rxs : ∀ {l : List ResultVar} {xs : List RX}, compRXs P l = some xs → Sim g₀ w₀ N g σ S a w → ∀ {vs : List V}, resVs σ S xs = some vs →
  ∃ vals : List Value, (l.mapM (resOne a)).run P w = .ok vals w ∧ vals.length = vs.length ∧ ∀ (j : Nat) (y : V) (v : Value), vs[j]? = some y → vals[j]? = some v → Rep g y v
 | [], xs, hx, h, vs, hv => by
  simp only [compRXs, Option.some.injEq] at hx
  subst hx
  simp only [resVs, Option.some.injEq] at hv
  subst hv
  exact ⟨[], rfl, rfl, by simp⟩
 | r :: l, xs, hx, h, vs, hv => by
  simp only [compRXs] at hx
  split at hx <;> cases hx
  rename_i x xs' h1 h2
  simp only [resVs] at hv
  split at hv <;> cases hv
  rename_i y ys k1 k2
  obtain ⟨val, e1, e2, _⟩ := run_rx h1 h k1
  obtain ⟨vals, f1, f2, f3⟩ := run_rxs h2 h k2
  refine ⟨val :: vals, ?_, by simp [f2], fun j z v hz hv => ?_⟩
  ·rw [List.mapM_cons]
   simp only [Sem.run_bind, e1, f1, Result.andThen_ok, Sem.run_pure]
  ·cases j with
   | zero => simp at hz hv; subst hz; subst hv; exact e2
   | succ j => exact f3 j z v (by simpa using hz) (by simpa using hv)
theorem run_results {fn : Func} {rs : List RX} (hrs : compRXs P fn.results.toList = some rs) (h : Sim g₀ w₀ N g σ S a w) {v : V} (hv : resV σ S rs = some v) :
  ∃ val, (results fn a.tmps).run P w = .ok val w ∧ Rep g v val ∧ Claim g w w₀.heap.size v val := by
 have hres : results fn a.tmps = (do let vs ← fn.results.mapM (resOne a); Pure.pure (if h : vs.size = 1 then vs[0] else .tuple vs)) := rfl
 have hlist : ∀ (l : List ResultVar), fn.results.toList = l → (fn.results.mapM (resOne a)) = (do let vs ← l.mapM (resOne a); Pure.pure vs.toArray) := by
  intro l hl
  subst hl
  rw [Array.mapM_eq_mapM_toList]
  rfl
 have many : ∀ (vs : List V), resVs σ S rs = some vs → vs.length ≠ 1 → v = .tup vs → ∃ val, (results fn a.tmps).run P w = .ok val w ∧ Rep g v val ∧ Claim g w w₀.heap.size v val := by
  intro vs hvs hne he
  subst he
  obtain ⟨vals, e1, e2, e3⟩ := run_rxs hrs h hvs
  refine ⟨.tuple vals.toArray, ?_, .tup vs _ (by simp [e2]) (fun j y u hy hu => e3 j y u hy (by simpa using hu)), .of_not rfl⟩
  rw [hres, hlist _ rfl]
  simp [e1, e2, hne]
 cases hl : fn.results.toList with
 | nil =>
  rw [hl] at hrs
  simp only [compRXs, Option.some.injEq] at hrs
  subst hrs
  simp only [resV, resVs, Option.some.injEq] at hv
  exact many [] rfl (by simp) hv.symm
 | cons r l =>
  have hrs' := hrs
  rw [hl] at hrs
  simp only [compRXs] at hrs
  split at hrs <;> cases hrs
  rename_i x xs h1 h2
  cases l with
  | nil =>
   simp only [compRXs, Option.some.injEq] at h2
   subst h2
   have single : ∀ val, (resOne a r).run P w = .ok val w → (results fn a.tmps).run P w = .ok val w := by
    intro val hval
    rw [hres, hlist _ hl]
    simp [List.mapM_cons, hval]
   cases r with
   | tmp t =>
    simp only [compRX, Option.some.injEq] at h1
    subst h1
    simp only [resV, Option.some.injEq] at hv
    subst hv
    exact ⟨_, single _ rfl, h.rep t, h.claim t⟩
   | cell ad t =>
    have hcell : ∃ t' sz ag, x = .cell t' sz ag := by
     simp only [compRX] at h1
     split at h1 <;> cases h1
     exact ⟨_, _, _, rfl⟩
    obtain ⟨t', sz, ag, rfl⟩ := hcell
    simp only [resV] at hv
    obtain ⟨val, e1, e2, e3⟩ := run_rx h1 h hv
    exact ⟨val, single _ e1, e2, .of_not e3⟩
  | cons r2 l2 =>
   simp only [compRXs] at h2
   split at h2 <;> cases h2
   rename_i x2 xs2 k1 k2
   have : resV σ S (x :: x2 :: xs2) = match resVs σ S (x :: x2 :: xs2) with
    | some xs => some (.tup xs)
    | none => none := by
    cases x <;> rfl
   rw [this] at hv
   split at hv <;> cases hv
   rename_i vs hvs
   refine many vs hvs ?_ rfl
   simp only [resVs] at hvs
   split at hvs <;> cases hvs
   rename_i q1
   split at q1 <;> cases q1
   simp
mutual
theorem refsB_mono {p q : Nat → Nat → Bool} (h : ∀ i k, p i k = true → q i k = true) : ∀ (x : V), x.refsB p → x.refsB q
 | .ref i k _, hx => by simp only [V.refsB] at *; exact h _ _ hx
 | .ro x, hx => by simp only [V.refsB] at *; exact refsB_mono h x hx
 | .sl _ _ xs, hx => by simp only [V.refsB] at *; exact refsBs_mono h xs hx
 | .gr _ _ _ xs, hx => by simp only [V.refsB] at *; exact refsBs_mono h xs hx
 | .agg xs, hx => by simp only [V.refsB] at *; exact refsBs_mono h xs hx
 | .tup xs, hx => by simp only [V.refsB] at *; exact refsBs_mono h xs hx
 | .fn _ xs, hx => by simp only [V.refsB] at *; exact refsBs_mono h xs hx
 | .iface _ x, hx => by simp only [V.refsB] at *; exact refsB_mono h x hx
 | .any, _ => by simp only [V.refsB]
 | .bool _, _ => by simp only [V.refsB]
 | .int _ _, _ => by simp only [V.refsB]
 | .str _, _ => by simp only [V.refsB]
 | .nilp, _ => by simp only [V.refsB]
 | .nilfn, _ => by simp only [V.refsB]
 | .niliface, _ => by simp only [V.refsB]
 | .rows _ xs, hx => by simp only [V.refsB] at *; exact refsBs_mono h xs hx
 | .bs i k _ _ _, hx => by simp only [V.refsB] at *; exact h _ _ hx
 | .eref i k _ _, hx => by simp only [V.refsB] at *; exact h _ _ hx
 | .mapv ks vs, hx => by simp only [V.refsB] at *; exact ⟨refsBs_mono h ks hx.1, refsBs_mono h vs hx.2⟩
 | .mref i k, hx => by simp only [V.refsB] at *; exact h _ _ hx
 | .nilmap, _ => by simp only [V.refsB]
theorem refsBs_mono {p q : Nat → Nat → Bool} (h : ∀ i k, p i k = true → q i k = true) : ∀ (l : List V), V.refsBs p l → V.refsBs q l
 | [], _ => by simp only [V.refsBs]
 | x :: r, hx => by simp only [V.refsBs] at *; exact ⟨refsB_mono h x hx.1, refsBs_mono h r hx.2⟩
end
theorem vcOps_mono {Q Q' : AX → (Nat → V) → St → Prop} (hq : ∀ e σ S, Q e σ S → Q' e σ S) : ∀ (l : List RO) (σ : Nat → V) (S : St), vcOps P Q l σ S → vcOps P Q' l σ S
 | [], σ, S, h => hq _ _ _ h
 | o :: l, σ, S, h => vc_mono' (σ := σ) (S := S) hq (fun σ S hk => vcOps_mono hq l σ S hk) h
theorem vcA_mono {S₀ : St} {K K' : (Nat → V) → St → Prop} (hK : ∀ σ S, K σ S → K' σ S) : ∀ (l : List RO) (nm : Nat) (σ : Nat → V) (S : St), vcA P S₀ l nm K σ S → vcA P S₀ l nm K' σ S
 | [], _, σ, S, h => hK _ _ h
 | o :: l, nm, σ, S, h => by
  simp only [vcA] at h ⊢
  have ih := fun σ S => vcA_mono (S₀ := S₀) hK l (bif o.m.isBox then nm + 1 else nm) σ S
  generalize vcA P S₀ l (bif o.m.isBox then nm + 1 else nm) K = A at h ih
  generalize vcA P S₀ l (bif o.m.isBox then nm + 1 else nm) K' = B at ih ⊢
  have step : o.q1 P S₀ nm A σ S → o.q1 P S₀ nm B σ S := by
   intro h
   unfold RO.q1 at h ⊢
   revert h
   generalize o.m = m
   intro h
   cases m <;> simp only at h ⊢
   case call f args => obtain ⟨v, h1, h2⟩ := h; exact ⟨v, h1, ih _ _ h2⟩
   case callv x args =>
    split at h
    ·obtain ⟨v, h1, h2⟩ := h; exact ⟨v, h1, ih _ _ h2⟩
    ·exact h.elim
   case new z => exact ih _ _ h
   case box x =>
    cases hb : (x.ev σ).data with
    | false => rw [hb] at h; exact h.elim
    | true => rw [hb] at h; exact ih _ _ h
   case boxr x =>
    cases hb : (x.ev σ).data with
    | false => rw [hb] at h; exact h.elim
    | true => rw [hb] at h; exact ih _ _ h
   case asg x => exact ih _ _ h
   all_goals
    split at h
    ·exact ih _ _ h
    ·exact h.elim
  unfold RO.q at h ⊢
  cases hg : o.guard with
  | none => rw [hg] at h; exact step h
  | some p =>
   obtain ⟨t, want⟩ := p
   rw [hg] at h
   simp only at h ⊢
   split at h
   ·rename_i b hb
    cases hbw : (b == want) with
    | true => rw [hbw] at h; exact step h
    | false => rw [hbw] at h; exact ih _ _ h
   ·exact ih _ _ h
   ·exact h.elim
theorem vc_mono : ∀ (c : C) (Q Q' : AX → (Nat → V) → St → Prop) (σ : Nat → V) (S : St), (∀ e σ S, Q e σ S → Q' e σ S) → vc P N n₀ c Q σ S → vc P N n₀ c Q' σ S
 | .skip, Q, Q', σ, S, hq, h => hq _ _ _ h
 | .reg l, Q, Q', σ, S, hq, h => vcOps_mono hq l σ S h
 | .draw k l, Q, Q', σ, S, hq, h => by
  simp only [vc, vcDraw] at h ⊢
  exact vcA_mono (fun σ S hk => vcOps_mono hq _ σ S hk) _ _ _ _ h
 | .seq a b, Q, Q', σ, S, hq, h => by
  simp only [vc] at h ⊢
  refine vc_mono a _ _ σ S (fun e σ S he => ?_) h
  cases e with
  | normal => exact vc_mono b _ _ σ S hq he
  | exit id => exact hq _ _ _ he
  | ret => exact hq _ _ _ he
  | pan v => exact hq _ _ _ he
 | .cond x a b, Q, Q', σ, S, hq, h => by
  simp only [vc] at h ⊢
  split at h
  ·rename_i t _
   cases t with
   | true => exact vc_mono a _ _ σ S hq h
   | false => exact vc_mono b _ _ σ S hq h
  ·exact h.elim
 | .block id c, Q, Q', σ, S, hq, h => by
  simp only [vc] at h ⊢
  refine vc_mono c _ _ σ S (fun e σ S he => ?_) h
  cases e with
  | exit i =>
   simp only [AX.inBlock] at he ⊢
   split
   ·rename_i e; rw [if_pos e] at he; exact hq _ _ _ he
   ·rename_i e; rw [if_neg e] at he; exact hq _ _ _ he
  | normal => exact hq _ _ _ he
  | ret => exact hq _ _ _ he
  | pan v => exact hq _ _ _ he
 | .loop c, Q, Q', σ, S, hq, h => by
  refine ⟨?_⟩
  intro hm rs code hc g₀ w₀ g a w ht₀ hs
  exact Go.wp_mono (h.run hm rs code hc g₀ w₀ g a w ht₀ hs) fun e a' w' hp => APost.mono hq hp
 | .exit id, Q, Q', σ, S, hq, h => hq _ _ _ h
 | .ret, Q, Q', σ, S, hq, h => hq _ _ _ h
theorem ACalls_of_vc {f : Nat} {fn : Func} {F : F} {args : List V} {Q : AE → St → Prop} (hm : P.follows .mixedOrders = true) (hf : P.funcs[f]? = some fn) (hgo : isGo P f = true) (hc : compFn P fn = some F)
  (hN : args.length ≤ F.N) (h : WFS S → vc P F.N S.n F.c (retPost F.rs S Q) (frame0 args) S.enter) : ACalls P f args S Q := by
 unfold compFn at hc
 split at hc
 ·rename_i body rs hb hrs
  split at hc <;> cases hc
  rename_i c hcc
  refine ⟨hgo, fun g w vals hs hB hr => ?_⟩
  have ht := hB.top
  refine calls_of_wp hf hb ?_
  have hvl : vals.size ≤ fn.ntmps := by rw [← hr.1]; exact hN
  have hse : SimW g S.enter w := ⟨hs.mem, hs.box, hs.inj, hs.boxM, hs.locB, fun i k hi => hs.fresh i k (by rw [ok_not] at hi ⊢; simp only [St.enter] at hi; omega)⟩
  have hsim : Sim (g.def []) w fn.ntmps g (frame0 args) S.enter { tmps := vals ++ Array.replicate (fn.ntmps - vals.size) Go.undef, defers := [] } w := by
   have hget : ∀ t, (vals ++ Array.replicate (fn.ntmps - vals.size) Go.undef).getD t Go.undef = vals.getD t Go.undef := by
    intro t
    by_cases ht : t < vals.size
    ·simp [Array.getElem?_append, ht]
    ·have : vals.getD t Go.undef = Go.undef := by simp [Array.getElem?_eq_none (Nat.le_of_not_lt ht)]
     rw [this]
     simp only [Array.getD_eq_getD_getElem?, Array.getElem?_append, ht, if_false, Array.getElem?_replicate]
     split <;> rfl
   have hrep : ∀ t, Rep g (frame0 args t) (vals.getD t Go.undef) := fun t => by
    by_cases ht : t < args.length
    ·have ht' : t < vals.size := by rw [← hr.1]; exact ht
     have := hr.2 t args[t] vals[t] (by simp [ht]) (by simp [ht'])
     simp only [frame0, List.getElem?_eq_getElem ht, Option.getD_some]
     have e : vals.getD t Go.undef = vals[t] := by simp [ht']
     rw [e]; exact this.toPlain
    ·have ht' : ¬ t < vals.size := by rw [← hr.1]; exact ht
     have e : vals.getD t Go.undef = Go.undef := by simp [Array.getElem?_eq_none (Nat.le_of_not_lt ht')]
     simp only [frame0, List.getElem?_eq_none (Nat.le_of_not_lt ht), Option.getD_none]
     rw [e]
     exact .tup [] #[] rfl (by simp)
   have hng : ∀ t, (frame0 args t).isGr = false := fun t => plain_isGr _
   refine ⟨(Ext.refl g w).def, hse, by simp; omega, rfl, fun t => by rw [hget]; exact hrep t, fun t => .of_not (hng t), fun t t' b h1 _ => ?_, by simp only [St.enter, Gh.def]; omega, fun i k hi => hs.fresh i k (by rw [ok_not]; simp only [Gh.def] at hi; omega)⟩
   rw [spare_not (hng t)] at h1; cases h1
  have hw := (vc_sound c _ _ _ (h (Sim.wfs hs))).run hm (rxTmps rs) body hcc (g.def []) w g _ w ⟨hB.top, ⟨hB.tab.is, hB.tab.no⟩⟩ hsim
  refine Go.wp_mono hw ?_
  have hok : ∀ (S'' : St) (S' : St), Over S S' S'' → ∀ i k b, g.loc i k = some b → S''.ok i k = true := fun S'' S' ho i k b hb => by
   have := (ok_iff _ _ _).1 (hs.ok_of_loc hb)
   rw [ok_iff]
   have h1 := ho.n; have h2 := ho.b; have h3 := ho.c
   exact ⟨by omega, fun e => by have := this.2 (by omega); omega⟩
  have fin : ∀ (σ : Nat → V) (S' : St) (g' : Gh) (a' : Act) (w' : World), Sim (g.def []) w fn.ntmps g' σ S' a' w' → (∃ v S'', resV σ S' rs = some v ∧ v.refsB S''.ok ∧ Over S S' S'' ∧ Q (.ret v) S'') →
    a'.defers = [] ∧ ∃ v, (results fn a'.tmps).run P w' = .ok v w' ∧ ∃ g'' S'' ae, Ext g w g'' w' ∧ SimW g'' S'' w' ∧ (S.n ≤ S''.n ∧ S''.b = S.b) ∧ RepEnd g'' w' w.heap.size ae (.returned v) ∧ Q ae S'' := by
   rintro σ S' g' a' w' hs' ⟨v, S'', hv, hb, ho, hq⟩
   obtain ⟨val, e1, e2, e3⟩ := run_results hrs hs' hv
   refine ⟨hs'.dfr, val, e1, g'.cut S''.ok, S'', .ret v, hs'.ext.undef.cut (hok _ _ ho), hs'.sim.cut ho.H, ⟨ho.n, ho.b⟩, ⟨e2.cut _ hb, e3.cut _⟩, hq⟩
  intro e a' w' hp
  cases e with
  | normal => obtain ⟨g', σ, S', k1, k2⟩ := hp; exact fin σ S' g' a' w' k1 k2
  | ret => obtain ⟨g', σ, S', k1, k2⟩ := hp; exact fin σ S' g' a' w' k1 k2
  | exit id => obtain ⟨g', σ, S', k1, k2⟩ := hp; exact k2.elim
  | panic chain =>
   obtain ⟨g', σ, S', v, val, k1, k2, k3, S'', hb, ho, hq⟩ := hp
   exact ⟨k1.dfr, g'.cut S''.ok, S'', .pan v, k1.ext.undef.cut (hok _ _ ho), k1.sim.cut ho.H, ⟨ho.n, ho.b⟩, ⟨val, k2, k3.cut _ hb⟩, hq⟩
  | goto l => exact hp.elim
  | outgrown => exact hp.elim
 ·cases hc
def retPure (rs : List RX) (S₀ : St) (v : V) : AX → (Nat → V) → St → Prop
 | .normal, σ, S | .ret, σ, S => resV σ S rs = some v ∧ ∀ i k x, S₀.H i k = some x → S.H i k = some x
 | _, _, _ => False
theorem Pure_of_vc {f : Nat} {fn : Func} {F : F} {args : List V} {v : V} (hm : P.follows .mixedOrders = true) (hf : P.funcs[f]? = some fn) (hgo : isGo P f = true) (hc : compFn P fn = some F)
  (hN : args.length ≤ F.N) (hv : v.refsB S.ok) (h : ∀ S', S.le S' → WFS S' → vc P F.N S'.n F.c (retPure F.rs S' v) (frame0 args) S'.enter) : Pure P f args S v := by
 refine ⟨?_⟩
 intro S' hle
 refine ACalls_of_vc hm hf hgo hc hN fun hw => ?_
 have hv' : v.refsB S'.ok := refsB_mono hle.2 v hv
 refine vc_mono F.c _ _ _ _ (fun e σ S'' hp => ?_) (h S' hle hw)
 cases e with
 | normal => exact ⟨v, S', hp.1, hv', ⟨Nat.le_refl _, rfl, Nat.le_refl _, fun i k x hx => ⟨hp.2 i k x hx, hw i k x hx⟩⟩, rfl, rfl⟩
 | ret => exact ⟨v, S', hp.1, hv', ⟨Nat.le_refl _, rfl, Nat.le_refl _, fun i k x hx => ⟨hp.2 i k x hx, hw i k x hx⟩⟩, rfl, rfl⟩
 | exit id => exact hp.elim
 | pan u => exact hp.elim
end
end Go.Pl
end
section
namespace Go.Pl
inductive Fm where
 | mk (kind n : Int) (text : List UInt8) (nl : Bool) (kids : List Fm)
 deriving Inhabited
def Fm.kind : Fm → Int | .mk k _ _ _ _ => k
def Fm.n : Fm → Int | .mk _ n _ _ _ => n
def Fm.text : Fm → List UInt8 | .mk _ _ t _ _ => t
def Fm.nl : Fm → Bool | .mk _ _ _ b _ => b
def Fm.kids : Fm → List Fm | .mk _ _ _ _ l => l
mutual
def enc : Fm → V
 | .mk k n t b l => .agg [.int .i64 k, .int .i64 n, .str t, .sl b 4 (encs l)]
def encs : List Fm → List V
 | [] => []
 | f :: l => enc f :: encs l
end
theorem encs_map (l : List Fm) : encs l = l.map enc := by
 induction l with
 | nil => rfl
 | cons f l ih => simp [encs, ih]
theorem encs_length (l : List Fm) : (encs l).length = l.length := by rw [encs_map]; simp
theorem encs_get (l : List Fm) (i : Nat) : (encs l)[i]? = (l[i]?).map enc := by rw [encs_map]; simp
theorem encs_append (l m : List Fm) : encs (l ++ m) = encs l ++ encs m := by simp [encs_map]
theorem encs_take (l : List Fm) (n : Nat) : (encs l).take n = encs (l.take n) := by simp [encs_map]
theorem encs_drop (l : List Fm) (n : Nat) : (encs l).drop n = encs (l.drop n) := by simp [encs_map]
theorem enc_plain (f : Fm) : (enc f).plain = enc f := by cases f; rfl
theorem enc_isGr (f : Fm) : (enc f).isGr = false := by cases f; rfl
theorem enc_data (f : Fm) : (enc f).data = true := by cases f; rfl
theorem enc_isAgg (f : Fm) : (enc f).isAgg = true := by cases f; rfl
theorem enc_cells_length (f : Fm) : (enc f).cells.length = 4 := by cases f; rfl
mutual
theorem enc_refsB (n : Nat → Nat → Bool) : ∀ (f : Fm), (enc f).refsB n
 | .mk k m t b l => by simp only [enc, V.refsB, V.refsBs, true_and, and_true]; exact encs_refsB n l
theorem encs_refsB (n : Nat → Nat → Bool) : ∀ (l : List Fm), V.refsBs n (encs l)
 | [] => by simp only [encs, V.refsBs]
 | f :: l => by simp only [encs, V.refsBs]; exact ⟨enc_refsB n f, encs_refsB n l⟩
end
end Go.Pl
end
section
namespace Go.Pl
section
variable {O : Ops} (hO : O = Ops.std)
include hO
theorem w_same (n : Nat) : O.same n n = true := by subst hO; simp [Ops.std]
theorem w_same_f {m n : Nat} (h : m ≠ n) : O.same m n = false := by subst hO; simp [Ops.std, h]
theorem w_ieq_t {a b : Int} (h : a = b) : O.ieq a b = true := by subst hO; simp [Ops.std, h]
theorem w_ieq_f {a b : Int} (h : a ≠ b) : O.ieq a b = false := by subst hO; simp [Ops.std, h]
theorem w_ilt_t {a b : Int} (h : a < b) : O.ilt a b = true := by subst hO; simp [Ops.std, h]
theorem w_ilt_f {a b : Int} (h : b ≤ a) : O.ilt a b = false := by subst hO; simp [Ops.std, h]
theorem w_ile_t {a b : Int} (h : a ≤ b) : O.ile a b = true := by subst hO; simp [Ops.std, h]
theorem w_ile_f {a b : Int} (h : b < a) : O.ile a b = false := by subst hO; simp [Ops.std, h]
theorem w_seq_t {a b : List UInt8} (h : a = b) : O.seq a b = true := by subst hO; simp [Ops.std, h]
theorem w_seq_f {a b : List UInt8} (h : a ≠ b) : O.seq a b = false := by subst hO; simp [Ops.std, h]
theorem w_good1 {sz : Nat} {x : V} (h : x.data = true) (hl : x.cells.length = sz) (hs : sz ≤ 100) : O.good sz [x] = true := by
 subst hO; simp [Ops.std, h, hl]; omega
theorem w_good2 {sz : Nat} {x y : V} (h : x.data = true) (hl : x.cells.length = sz) (h' : y.data = true) (hl' : y.cells.length = sz) (hs : sz ≤ 100) : O.good sz [x, y] = true := by
 subst hO; simp [Ops.std, h, hl, h', hl']; omega
theorem w_emp_c (x : V) (l : List V) : O.emp (x :: l) = false := by subst hO; rfl
theorem w_fit {bytes : Nat} {xs ys : List V} (h : (xs.length + ys.length) * bytes ≤ 1099511627776 ∧ xs.length + ys.length ≤ 1099511627776) : O.fit bytes xs ys = true := by subst hO; simp only [Ops.std, decide_eq_true_eq]; exact h
theorem w_len (l : List V) : O.len l = (l.length : Int) := by subst hO; rfl
theorem w_slen (l : List UInt8) : O.slen l = (l.length : Int) := by subst hO; rfl
theorem w_sget (s : List UInt8) (i : Int) : O.sget s i = if 0 ≤ i then (s[i.toNat]?).map fun b => (b.toNat : Int) else none := by subst hO; rfl
theorem w_get {l : List V} {i : Int} {x : V} (h0 : 0 ≤ i) (h : l[i.toNat]? = some x) : O.get l i = some x := by
 subst hO
 have : i.toNat < l.length := (List.getElem?_eq_some_iff.1 h).1
 simp only [Ops.std]
 rw [if_pos ⟨h0, by omega⟩]; exact h
theorem w_get0 (x : V) (l : List V) : O.get (x :: l) 0 = some x := w_get hO (Int.le_refl _) rfl
theorem w_get1 (x y : V) (l : List V) : O.get (x :: y :: l) 1 = some y := w_get hO (by decide) rfl
theorem w_add {a b : Int} (h : -9223372036854775808 ≤ a + b) (h' : a + b ≤ 9223372036854775807) : O.iop .add .i64 a .i64 b = some (.int .i64 (a + b)) := by
 subst hO
 have : IntKind.i64.wrap (a + b) = a + b := by
  simp [IntKind.wrap, IntKind.bits, IntKind.signed]
  omega
 simp [Ops.std, binOp, Op.intArith, this, absS]
 rfl
theorem w_upd2_ne {H : Nat → Nat → Option V} {b k : Nat} {x : V} {i j : Nat} (h : i ≠ b) : upd2 O H b k x i j = H i j := by
 rw [upd2_eq hO, if_neg (by rintro ⟨e, _⟩; exact h e)]
end
def roundsA (P : Program) (N n₀ : Nat) (c : C) (Q : AX → (Nat → V) → St → Prop) : Nat → (Nat → V) → St → Prop
 | 0, _, _ => False
 | k + 1, σ, S => vc P N n₀ c (AX.then (roundsA P N n₀ c Q k) Q) σ S
theorem AW_rounds {P : Program} {N n₀ : Nat} {c : C} {Q : AX → (Nat → V) → St → Prop} {σ : Nat → V} {S : St} (k : Nat) (h : roundsA P N n₀ c Q k σ S) : AW P N n₀ (.loop c) Q σ S := by
 refine ⟨?_⟩
 intro hm rs code hc g₀ w₀ g a w ht₀ hs
 cases code <;> (try simp only [compC, Option.some.injEq, reduceCtorEq, Option.map_eq_some_iff, and_false, exists_const, C.loop.injEq] at hc)
 ·rename_i id ops d; cases d <;> (try simp only [compC] at hc) <;> (repeat' split at hc) <;> cases hc
 ·split at hc <;> cases hc
 ·split at hc <;> cases hc
 ·rename_i c'
  obtain ⟨c₀, h1, rfl⟩ := hc
  refine wp_loop_rounds k ?_
  have key : ∀ (k : Nat) (g : Gh) (σ : Nat → V) (S : St) (a : Act) (w : World), Sim g₀ w₀ N g σ S a w → roundsA P N n₀ c₀ Q k σ S → Code.rounds P c' (APost g₀ w₀ N Q) k a w := by
   intro k
   induction k with
   | zero => intro g σ S a w _ h; exact h.elim
   | succ k ih =>
    intro g σ S a w hs h
    refine Go.wp_mono ((vc_sound c₀ _ σ S h).run hm rs c' h1 g₀ w₀ g a w ht₀ hs) ?_
    intro e a' w' hp
    cases e with
    | normal => obtain ⟨g', σ', S', k1, k2⟩ := hp; exact ih g' σ' S' a' w' k1 k2
    | exit id => exact hp
    | ret => exact hp
    | panic chain => exact hp
    | goto l => exact hp
    | outgrown => exact hp
  exact key k g σ S a w hs h
structure Drops (n₀ : Nat) (σ : Nat → V) (S : St) (σ' : Nat → V) (S' : St) : Prop where
 w : ∀ t, σ' t = σ t ∨ σ' t = .any ∨ σ' t = (σ t).plain
 low : n₀ ≤ S'.b ∧ S'.b < S'.n
 refs : ∀ t, (σ' t).refsB S'.ok
 H : ∀ i k x, S'.H i k = some x → S.H i k = some x ∧ S'.ok i k = true ∧ x.refsB S'.ok
structure Round (n₀ : Nat) (I : Nat → (Nat → V) → St → Prop) (k : Nat) (σ : Nat → V) (S : St) : Prop where
 h : ∃ m σ' S', m < k ∧ I m σ' S' ∧ Drops n₀ σ S σ' S'
theorem AW_loopD {P : Program} {N n₀ : Nat} {c : C} {Q : AX → (Nat → V) → St → Prop} {σ : Nat → V} {S : St} (I : Nat → (Nat → V) → St → Prop) (k₀ : Nat) (h₀ : I k₀ σ S)
  (round : ∀ k σ S, I k σ S → vc P N n₀ c (AX.then (Round n₀ I k) Q) σ S) : AW P N n₀ (.loop c) Q σ S := by
 refine ⟨?_⟩
 intro hm rs code hc g₀ w₀ g a w ht₀ hs
 cases code <;> (try simp only [compC, Option.some.injEq, reduceCtorEq, Option.map_eq_some_iff, and_false, exists_const, C.loop.injEq] at hc)
 ·rename_i id ops d; cases d <;> (try simp only [compC] at hc) <;> (repeat' split at hc) <;> cases hc
 ·split at hc <;> cases hc
 ·split at hc <;> cases hc
 ·rename_i c'
  obtain ⟨c₀, h1, rfl⟩ := hc
  refine wp_loop_ghost (fun k a w => ∃ g σ S, Sim g₀ w₀ N g σ S a w ∧ I k σ S) k₀ ⟨g, σ, S, hs, h₀⟩ ?_
  rintro k a w ⟨g, σ, S, hs, hI⟩
  refine Go.wp_mono ((vc_sound c₀ _ σ S (round k σ S hI)).run hm rs c' h1 g₀ w₀ g a w ht₀ hs) ?_
  intro e a' w' hp
  cases e with
  | normal =>
   obtain ⟨g', σ', S', k1, ⟨m, σ'', S'', hlt, hI', hd⟩⟩ := hp
   exact ⟨m, hlt, g'.cut S''.ok, σ'', S'', (k1.weaken hd.w).drop (by rw [ht₀.top]; exact hd.low) hd.refs hd.H, hI'⟩
  | exit id => exact hp
  | ret => exact hp
  | panic chain => exact hp
  | goto l => exact hp
  | outgrown => exact hp
theorem byEq {α : Type} {a b : α} (h : a = b) : a = b := h
theorem mkPure {P : Program} {N : Nat} {fn : Func} {F : F} (hm : P.follows .mixedOrders = true) (hf : P.funcs[N]? = some fn) (hgo : isGo P N = true) (hc : compFn P fn = some F) {args : List V} {v : V}
  (hN : args.length ≤ F.N) (hv : ∀ p, v.refsB p)
  (h : ∀ (H : Nat → Nat → Option V) (n b c : Nat) (O : Ops) (hO : O = Ops.std), WFS ⟨H, n, b, c, O, hO⟩ → vc P F.N n F.c (retPure F.rs ⟨H, n, b, c, O, hO⟩ v) (frame0 args) ⟨H, n + 1, n, 0, O, hO⟩) (S : St) :
  Pure P N args S v :=
 Pure_of_vc hm hf hgo hc hN (hv _) fun S' _ hw => by
  obtain ⟨H, n, b, c, O, hO⟩ := S'
  exact h H n b c O hO hw
theorem WFS.ne {H : Nat → Nat → Option V} {n b c : Nat} {O : Ops} {hO : O = Ops.std} (hw : WFS ⟨H, n, b, c, O, hO⟩) (i k : Nat) (x : V) (hx : H i k = some x) : i ≠ n :=
 Nat.ne_of_lt ((ok_iff _ _ _).1 (hw i k x hx).1).1
theorem Pure.go {P : Program} {f : Nat} {args : List V} {S : St} {v : V} (h : Pure P f args S v) {Q : AE → St → Prop} (hq : Q (.ret v) S) : ACalls P f args S Q :=
 (h.run S (St.le_refl S)).mono fun e S' ⟨h1, h2⟩ => by subst h1; subst h2; exact hq
end Go.Pl
end
section
namespace Go.Pl
def tabF : List (Nat × V) → Nat → V
 | [], _ => .any
 | (k, v) :: r, t => if t = k then v else tabF r t
def updL (O : Ops) (n : Nat) : List V → Nat → (Nat → Nat → Option V) → (Nat → Nat → Option V)
 | [], _, H => H
 | v :: r, c, H => updL O n r (c + 1) (upd2 O H n c v)
def tabOk (σ : Nat → V) (p : Nat → Nat → Bool) : List (Nat × V) → Prop
 | [] => True
 | (k, v) :: r => (v = σ k ∨ v = (σ k).plain) ∧ v.refsB p ∧ tabOk σ p r
theorem tabF_ok {σ : Nat → V} {p : Nat → Nat → Bool} : ∀ {l : List (Nat × V)}, tabOk σ p l → ∀ t, (tabF l t = σ t ∨ tabF l t = .any ∨ tabF l t = (σ t).plain) ∧ (tabF l t).refsB p
 | [], _, t => ⟨.inr (.inl rfl), by simp only [tabF, V.refsB]⟩
 | (k, v) :: r, h, t => by
  simp only [tabF]
  by_cases e : t = k
  ·rw [if_pos e]
   subst e
   exact ⟨h.1.elim .inl fun h => .inr (.inr h), h.2.1⟩
  ·rw [if_neg e]; exact tabF_ok h.2.2 t
def boxesOk (p : Nat → Nat → Bool) : List V → Prop
 | [] => True
 | v :: r => v.refsB p ∧ boxesOk p r
def frameS (H : Nat → Nat → Option V) (n : Nat) (O : Ops) (hO : O = Ops.std) (l : List V) : St := ⟨updL O n l 0 H, n + 1, n, l.length, O, hO⟩
theorem updL_get {O : Ops} (hO : O = Ops.std) {n : Nat} {p : Nat → Nat → Bool} : ∀ (l : List V) (c : Nat) (H : Nat → Nat → Option V), boxesOk p l → ∀ (i k : Nat) (x : V), updL O n l c H i k = some x →
  (i = n ∧ c ≤ k ∧ k < c + l.length ∧ x.refsB p) ∨ H i k = some x
 | [], _, H, _, i, k, x, h => .inr h
 | v :: r, c, H, hb, i, k, x, h => by
  simp only [updL] at h
  rcases updL_get hO r (c + 1) _ hb.2 i k x h with ⟨h1, h2, h3, h4⟩ | h'
  ·exact .inl ⟨h1, by omega, by simp only [List.length_cons]; omega, h4⟩
  ·rw [upd2_eq hO] at h'
   split at h'
   ·rename_i e
    cases h'
    exact .inl ⟨e.1, by omega, by simp only [List.length_cons]; omega, hb.1⟩
   ·exact .inr h'
theorem upd2_above {O : Ops} (hO : O = Ops.std) {H : Nat → Nat → Option V} {n l c i k : Nat} {x : V} (hne : ¬ (i = n ∧ l ≤ k)) (hc : l ≤ c) : upd2 O H n c x i k = H i k := by
 rw [upd2_eq hO, if_neg (by rintro ⟨a, b⟩; exact hne ⟨a, by omega⟩)]
theorem Drops.tab {H : Nat → Nat → Option V} {n b c : Nat} {O : Ops} {hO : O = Ops.std} (hw : WFS ⟨H, n, b, c, O, hO⟩) {n₀ : Nat} (hn : n₀ ≤ n) {σ : Nat → V} {S : St} (l : List V) {r : List (Nat × V)}
  (hS : ∀ i k, ¬ (i = n ∧ l.length ≤ k) → S.H i k = updL O n l 0 H i k) (hl : boxesOk (frameS H n O hO l).ok l) (hr : tabOk σ (frameS H n O hO l).ok r) : Drops n₀ σ S (tabF r) (frameS H n O hO l) where
 w t := (tabF_ok hr t).1
 low := ⟨hn, Nat.lt_succ_self _⟩
 refs t := (tabF_ok hr t).2
 H i k x hx := by
  have hx' : updL O n l 0 H i k = some x := hx
  rcases updL_get hO l 0 H hl i k x hx' with ⟨h1, h2, h3, h4⟩ | h'
  ·refine ⟨?_, (ok_iff _ _ _).2 ⟨by simp only [frameS]; omega, fun _ => by simp only [frameS]; omega⟩, h4⟩
   rw [hS _ _ (by omega)]; exact hx'
  ·have h1 := hw i k x h'
   have h2 := (ok_iff _ _ _).1 h1.1
   simp only at h2
   have hne : i ≠ n := Nat.ne_of_lt h2.1
   refine ⟨?_, (ok_iff _ _ _).2 ⟨by simp only [frameS]; omega, fun e => absurd e hne⟩, ?_⟩
   ·rw [hS _ _ (by rintro ⟨e, _⟩; exact hne e)]; exact hx'
   ·refine refsB_mono (fun i' k' h'' => ?_) x h1.2
    rw [ok_iff] at h'' ⊢
    simp only at h''
    simp only [frameS]
    exact ⟨Nat.lt_succ_of_lt h''.1, fun e => absurd e (Nat.ne_of_lt h''.1)⟩
theorem AW_loopT {P : Program} {N n₀ : Nat} {c : C} {Q : AX → (Nat → V) → St → Prop} {σ : Nat → V} {S : St} {A : Type} (f : A → List (Nat × V)) (g : A → St) (I : A → Prop) (meas : A → Nat) (a₀ : A) (h₀ : I a₀)
  (hd : Drops n₀ σ S (tabF (f a₀)) (g a₀))
  (round : ∀ a, I a → ∀ K : (Nat → V) → St → Prop, (∀ σ' S' a', meas a' < meas a → I a' → Drops n₀ σ' S' (tabF (f a')) (g a') → K σ' S') → vc P N n₀ c (AX.then K Q) (tabF (f a)) (g a)) : AW P N n₀ (.loop c) Q σ S := by
 refine AW.weaken (σ' := tabF (f a₀)) (S' := g a₀) ?_ hd.w hd.low hd.refs hd.H
 refine AW_loopD (fun k σ S => ∃ a, k = meas a ∧ I a ∧ σ = tabF (f a) ∧ S = g a) (meas a₀) ⟨a₀, rfl, h₀, rfl, rfl⟩ ?_
 rintro k σ S ⟨a, rfl, ha, rfl, rfl⟩
 exact round a ha _ fun σ' S' a' h1 h2 h3 => ⟨meas a', _, _, h1, ⟨a', rfl, h2, rfl, rfl⟩, h3⟩
theorem WFS.set {S : St} (hw : WFS S) {i k : Nat} {y : V} (hok : S.ok i k = true) (hy : y.refsB S.ok) : WFS (S.set i k y) := by
 intro i' k' x hx
 have hx' : upd2 S.O S.H i k y i' k' = some x := hx
 rw [upd2_eq S.hO] at hx'
 split at hx'
 ·rename_i e; cases hx'; obtain ⟨rfl, rfl⟩ := e; exact ⟨hok, hy⟩
 ·exact hw i' k' x hx'
theorem Over.of {S₀ S S' : St} (hn : S'.n = S₀.n) (hb : S'.b = S₀.b) (hc : S'.c = S₀.c) (hw : WFS S') (hag : ∀ i k, i ≠ S₀.n → S.H i k = S'.H i k) : Over S₀ S S' where
 n := by rw [hn]; exact Nat.le_refl _
 b := hb
 c := by rw [hc]; exact Nat.le_refl _
 H i k x hx := by
  have h := hw i k x hx
  have h' := (ok_iff _ _ _).1 h.1
  refine ⟨?_, h⟩
  rw [hag i k (by omega)]; exact hx
theorem upd2_ne {O : Ops} (hO : O = Ops.std) {H : Nat → Nat → Option V} {n c i k : Nat} {x : V} (hne : i ≠ n) : upd2 O H n c x i k = H i k := by
 rw [upd2_eq hO, if_neg (by rintro ⟨a, b⟩; exact hne a)]
theorem upd2_congr {O : Ops} (hO : O = Ops.std) {H H' : Nat → Nat → Option V} {n c i k : Nat} {x : V} (h : H i k = H' i k) : upd2 O H n c x i k = upd2 O H' n c x i k := by
 rw [upd2_eq hO, upd2_eq hO, h]
end Go.Pl
end
section
namespace Go.Pl
def thrown (tid : Nat) (c : Int) : V := .iface tid (.agg [.int .i64 c])
def AE.of (tid : Nat) : Except Int V → AE
 | .ok v => .ret v
 | .error c => .pan (thrown tid c)
structure Throws (tid : Nat) (P : Program) (f : Nat) (args : List V) (S : St) (r : Except Int V) : Prop where
 run : ∀ S', S.le S' → ACalls P f args S' fun e S'' => e = AE.of tid r ∧ S'' = S'
def retT (tid : Nat) (rs : List RX) (S₀ : St) : Except Int V → AX → (Nat → V) → St → Prop
 | .ok v, .normal, σ, S | .ok v, .ret, σ, S => resV σ S rs = some v ∧ ∀ i k x, S₀.H i k = some x → S.H i k = some x
 | .error c, .pan v, _, S => v = thrown tid c ∧ ∀ i k x, S₀.H i k = some x → S.H i k = some x
 | _, _, _, _ => False
section
variable {P : Program} {S : St} {tid : Nat}
theorem Throws_of_vc {f : Nat} {fn : Func} {F : F} {args : List V} {r : Except Int V} (hm : P.follows .mixedOrders = true) (hf : P.funcs[f]? = some fn) (hgo : isGo P f = true) (hc : compFn P fn = some F)
  (hN : args.length ≤ F.N) (hv : ∀ v, r = .ok v → v.refsB S.ok) (h : ∀ S', S.le S' → WFS S' → vc P F.N S'.n F.c (retT tid F.rs S' r) (frame0 args) S'.enter) : Throws tid P f args S r := by
 refine ⟨?_⟩
 intro S' hle
 refine ACalls_of_vc hm hf hgo hc hN fun hw => ?_
 refine vc_mono F.c _ _ _ _ (fun e σ S'' hp => ?_) (h S' hle hw)
 have over : (∀ i k x, S'.H i k = some x → S''.H i k = some x) → Over S' S'' S' := fun h => ⟨Nat.le_refl _, rfl, Nat.le_refl _, fun i k x hx => ⟨h i k x hx, hw i k x hx⟩⟩
 cases r with
 | ok v =>
  have hv' : v.refsB S'.ok := refsB_mono hle.2 v (hv v rfl)
  cases e with
  | normal => exact ⟨v, S', hp.1, hv', over hp.2, rfl, rfl⟩
  | ret => exact ⟨v, S', hp.1, hv', over hp.2, rfl, rfl⟩
  | exit id => exact hp.elim
  | pan u => exact hp.elim
 | error c =>
  cases e with
  | normal => exact hp.elim
  | ret => exact hp.elim
  | exit id => exact hp.elim
  | pan u =>
   obtain ⟨rfl, h2⟩ := hp
   exact ⟨S', by simp only [thrown, V.refsB, V.refsBs, and_self], over h2, rfl, rfl⟩
def WalksT (tid : Nat) (P : Program) (F : F) (args : List V) (r : Except Int V) : Prop :=
 ∀ (H : Nat → Nat → Option V) (n b c : Nat) (O : Ops) (hO : O = Ops.std), WFS ⟨H, n, b, c, O, hO⟩ → vc P F.N n F.c (retT tid F.rs ⟨H, n, b, c, O, hO⟩ r) (frame0 args) ⟨H, n + 1, n, 0, O, hO⟩
theorem mkThrows {N : Nat} {fn : Func} {F : F} (hm : P.follows .mixedOrders = true) (hf : P.funcs[N]? = some fn) (hgo : isGo P N = true) (hc : compFn P fn = some F) {args : List V} {r : Except Int V}
  (hN : args.length ≤ F.N) (hv : ∀ v, r = .ok v → ∀ p, v.refsB p) (h : WalksT tid P F args r) (S : St) : Throws tid P N args S r :=
 Throws_of_vc hm hf hgo hc hN (fun v e => hv v e _) fun S' _ hw => by
  obtain ⟨H, n, b, c, O, hO⟩ := S'
  exact h H n b c O hO hw
theorem Throws.go {f : Nat} {args : List V} {r : Except Int V} (h : Throws tid P f args S r) {Q : AE → St → Prop} (hq : Q (AE.of tid r) S) : ACalls P f args S Q :=
 (h.run S (St.le_refl S)).mono fun e S' ⟨h1, h2⟩ => by subst h1; subst h2; exact hq
end
end Go.Pl
end
