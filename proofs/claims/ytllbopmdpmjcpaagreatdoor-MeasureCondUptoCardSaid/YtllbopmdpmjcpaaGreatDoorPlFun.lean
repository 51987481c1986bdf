/- Functions. -/
import Derived.Test.YtllbopmdpmjcpaaGreatDoorPlCode
set_option linter.unusedSimpArgs false
set_option linter.unusedVariables false
set_option linter.unusedSectionVars false
namespace Go.Pl

/-- A result's variable. -/
inductive RX where
  | tmp (t : Nat)
  | cell (t sz : Nat) (ag : Bool)
  deriving Inhabited

def RX.v (σ : Nat → V) (S : St) : RX → Option V
  | .tmp t => some (σ t).plain
  | .cell t sz ag => (M.ld sz ag (.t t)).val σ S

def resVs (σ : Nat → V) (S : St) : List RX → Option (List V)
  | [] => some []
  | r :: l => match r.v σ S, resVs σ S l with
    | some x, some xs => some (x :: xs)
    | _, _ => none

/-- What a call hands back. -/
def resV (σ : Nat → V) (S : St) : List RX → Option V
  | [.tmp t] => some (σ t)
  | [.cell t sz ag] => (RX.cell t sz ag).v σ S
  | l => match resVs σ S l with
    | some xs => some (.tup xs)
    | none => none

def compRX (P : Program) : ResultVar → Option RX
  | .tmp t => some (.tmp t)
  | .cell t ty => match aggOf P ty, P.info? ty with
    | some ag, some i => some (.cell t i.size ag)
    | _, _ => none

def compRXs (P : Program) : List ResultVar → Option (List RX)
  | [] => some []
  | r :: l => match compRX P r, compRXs P l with
    | some x, some xs => some (x :: xs)
    | _, _ => none

def rxTmps : List RX → List Nat
  | [.tmp t] => [t]
  | _ => []

structure F where
  N : Nat
  rs : List RX
  c : C
  deriving Inhabited

def compFn (P : Program) (fn : Func) : Option F :=
  match fn.body, compRXs P fn.results.toList with
  | some b, some rs => match compC P fn.ntmps (rxTmps rs) b with
    | some c => some ⟨fn.ntmps, rs, c⟩
    | none => none
  | _, _ => none

/-- What holds of all boxes that there are. -/
def WFS (S : St) : Prop := ∀ i k x, S.H i k = some x → S.ok i k = true ∧ x.refsB S.ok

/-- The boxes as a function begins. -/
def St.enter (S : St) : St := ⟨S.H, S.n + 1, S.n, 0, S.O, S.hO⟩

/-- S₀ as a call begins, S' as it is over, S as its text is over. -/
structure Over (S₀ S S' : St) : Prop where
  n : S₀.n ≤ S'.n
  b : S'.b = S₀.b
  c : S₀.c ≤ S'.c
  H : ∀ i k x, S'.H i k = some x → S.H i k = some x ∧ S'.ok i k = true ∧ x.refsB S'.ok

def frame0 (args : List V) : Nat → V := fun t => ((args[t]?).getD .undef).plain

/-- The end of a function: what is handed back, once the boxes that nobody can see any more are dropped. -/
def retPost (rs : List RX) (S₀ : St) (Q : AE → St → Prop) : AX → (Nat → V) → St → Prop
  | .normal, σ, S | .ret, σ, S => ∃ v S', resV σ S rs = some v ∧ v.refsB S'.ok ∧ Over S₀ S S' ∧ Q (.ret v) S'
  | .pan v, _, S => ∃ S', v.refsB S'.ok ∧ Over S₀ S S' ∧ Q (.pan v) S'
  | .exit _, _, _ => False

section
variable {P : Program} {g₀ g : Gh} {w₀ : World} {N n₀ : Nat} {S S' : St} {w : World} {σ σ' : Nat → V} {a : Act}

theorem cut_some {p : Nat → Nat → Bool} {i k b : Nat} (h : (g.cut p).loc i k = some b) : p i k = true ∧ g.loc i k = some b := by
  simp only [Gh.cut] at h
  split at h
  · rename_i hp; exact ⟨hp, h⟩
  · cases h

theorem SimW.cut (h : SimW g S w) (hH : ∀ i k x, S'.H i k = some x → S.H i k = some x ∧ S'.ok i k = true ∧ x.refsB S'.ok) : SimW (g.cut S'.ok) S' w where
  mem := h.mem
  box i k x hx := by
    obtain ⟨h1, h2, h3⟩ := hH i k x hx
    obtain ⟨b, cs, e, k1, k2, k3⟩ := h.box i k x h1
    refine ⟨b, cs, e, by simp [Gh.cut, h2, k1], k2, ⟨k3.1.1, fun j y v hy hv => (k3.1.2 j y v hy hv).cut _ (V.refsBs_get (V.refsB_cells h3) hy)⟩, k3.2⟩
  inj i k j l b hi hj := h.inj i k j l b (cut_some hi).2 (cut_some hj).2
  boxM i k b hi := h.boxM i k b (cut_some hi).2
  locB i k b hi := h.locB i k b (cut_some hi).2
  fresh i k hi := by simp only [Gh.cut]; rw [if_neg (by rw [hi]; simp)]

theorem Claim.cut {base : Nat} {x : V} {v : Value} (h : Claim g w base x v) (p : Nat → Nat → Bool) : Claim (g.cut p) w base x v :=
  h.step (fun _ _ _ _ => rfl) (fun _ _ _ _ hk => hk) (fun i k b _ hi hc => hi (cut_some hc).2)

theorem Ext.cut (h : Ext g₀ w₀ g w) {p : Nat → Nat → Bool} (h0 : ∀ i k b, g₀.loc i k = some b → p i k = true) : Ext g₀ w₀ (g.cut p) w where
  le := ⟨h.le.M, fun i k b hi => by
    simp only [Gh.cut, h0 i k b hi, if_true]; exact h.le.loc i k b hi⟩
  os := h.os
  tape := h.tape
  output := h.output
  size := h.size
  block := h.block
  newLoc i k b hi := h.newLoc i k b (cut_some hi).2
  newM := h.newM
  top := h.top
  newName i k hi hl := by simp only [Gh.cut]; split; exact h.newName i k hi hl; rfl
  froz := h.froz

theorem SimW.ok_of_loc (h : SimW g S w) {i k b : Nat} (hb : g.loc i k = some b) : S.ok i k = true := by
  cases hok : S.ok i k with
  | true => rfl
  | false => rw [h.fresh i k hok] at hb; cases hb

theorem Sim.wfs (h : SimW g S w) : WFS S := fun i k x hx => by
  obtain ⟨b, cs, e, h1, _, h3⟩ := h.box i k x hx
  refine ⟨h.ok_of_loc h1, V.refsB_of_cells ((V.refsBs_iff _ _).2 fun y hy => ?_)⟩
  obtain ⟨j, hj⟩ := mem_get hy
  have hlt : j < cs.size := by rw [← h3.1.1]; exact (List.getElem?_eq_some_iff.1 hj).1
  exact (h3.1.2 j y cs[j] hj (by simp [hlt])).refsB _ (fun _ _ _ hb => h.ok_of_loc hb)

/-- Less may be known, and boxes that nobody can see be dropped. -/
theorem Sim.drop (h : Sim g₀ w₀ N g σ S a w) (hlow : g₀.top ≤ S'.b ∧ S'.b < S'.n) (hσ : ∀ t, (σ t).refsB S'.ok) (hH : ∀ i k x, S'.H i k = some x → S.H i k = some x ∧ S'.ok i k = true ∧ x.refsB S'.ok) :
    Sim g₀ w₀ N (g.cut S'.ok) σ S' a w where
  ext := h.ext.cut fun i k b hb => by
    rcases Nat.lt_or_ge i g₀.top with h' | h'
    · rw [ok_iff]; omega
    · rw [h.none0 i k h'] at hb; cases hb
  sim := h.sim.cut hH
  size := h.size
  dfr := h.dfr
  rep t := (h.rep t).cut _ (hσ t)
  claim t := (h.claim t).cut _
  sep := h.sep
  low := hlow
  none0 := h.none0

theorem AW.weaken {c : C} {Q : AX → (Nat → V) → St → Prop} (h : AW P N n₀ c Q σ' S') (hw : ∀ t, σ' t = σ t ∨ σ' t = .any ∨ σ' t = (σ t).plain) (hn : n₀ ≤ S'.b ∧ S'.b < S'.n) (hσ : ∀ t, (σ' t).refsB S'.ok)
    (hH : ∀ i k x, S'.H i k = some x → S.H i k = some x ∧ S'.ok i k = true ∧ x.refsB S'.ok) : AW P N n₀ c Q σ S := by
  refine ⟨?_⟩
  intro hm rs code hc g₀ w₀ g a w ht₀ hs
  exact h.run hm rs code hc g₀ w₀ (g.cut S'.ok) a w ht₀ ((hs.weaken hw).drop (by rw [ht₀]; exact hn) hσ hH)

/-- The same boxes, less known of the frame. -/
theorem AW.less {c : C} {Q : AX → (Nat → V) → St → Prop} (h : AW P N n₀ c Q σ' S) (hw : ∀ t, σ' t = σ t ∨ σ' t = .any ∨ σ' t = (σ t).plain) : AW P N n₀ c Q σ S := by
  refine ⟨?_⟩
  intro hm rs code hc g₀ w₀ g a w ht₀ hs
  exact h.run hm rs code hc g₀ w₀ g a w ht₀ (hs.weaken hw)

/-- One result, read. -/
def resOne (a : Act) (r : ResultVar) : Sem Value := match r with
  | .tmp t => Pure.pure (a.tmps.getD t Go.undef)
  | .cell ad t => do loadVar t (← asAddr (a.tmps.getD ad Go.undef))

/-- What the results' variables hold. -/
theorem run_rx {r : ResultVar} {x : RX} (hx : compRX P r = some x) (h : Sim g₀ w₀ N g σ S a w) {v : V} (hv : x.v σ S = some v) :
    ∃ val, (resOne a r).run P w = .ok val w ∧ Rep g v val ∧ v.isGr = false := by
  cases r with
  | tmp t =>
    simp only [compRX, Option.some.injEq] at hx
    subst hx
    simp only [RX.v, Option.some.injEq] at hv
    subst hv
    exact ⟨_, rfl, (h.rep t).toPlain, plain_isGr _⟩
  | cell ad t =>
    simp only [compRX] at hx
    split at hx <;> cases hx
    rename_i h1 h2
    simp only [RX.v] at hv
    obtain ⟨val, e1, e2, e3⟩ := val_ld (x := .tmp ad) h1 h2 rfl h.sim h.rep hv
    refine ⟨val, ?_, e2, e3⟩
    have e1' : ((do loadVar t (← Instr.sureAddr (a.tmps.getD ad Go.undef)) : Sem Value)).run P w = .ok val w := e1
    simp only [resOne, Sem.run_bind] at e1' ⊢
    cases hx : a.tmps.getD ad Go.undef with
    | pointer p =>
      rw [hx] at e1'
      cases p with
      | none => simp [Instr.sureAddr] at e1'
      | some p => simpa [Instr.sureAddr, asAddr] using e1'
    | _ => rw [hx] at e1'; simp [Instr.sureAddr] at e1'

theorem run_rxs : ∀ {l : List ResultVar} {xs : List RX}, compRXs P l = some xs → Sim g₀ w₀ N g σ S a w → ∀ {vs : List V}, resVs σ S xs = some vs →
    ∃ vals : List Value, (l.mapM (resOne a)).run P w = .ok vals w ∧ vals.length = vs.length ∧ ∀ (j : Nat) (y : V) (v : Value), vs[j]? = some y → vals[j]? = some v → Rep g y v
  | [], xs, hx, h, vs, hv => by
    simp only [compRXs, Option.some.injEq] at hx
    subst hx
    simp only [resVs, Option.some.injEq] at hv
    subst hv
    exact ⟨[], rfl, rfl, by simp⟩
  | r :: l, xs, hx, h, vs, hv => by
    simp only [compRXs] at hx
    split at hx <;> cases hx
    rename_i x xs' h1 h2
    simp only [resVs] at hv
    split at hv <;> cases hv
    rename_i y ys k1 k2
    obtain ⟨val, e1, e2, _⟩ := run_rx h1 h k1
    obtain ⟨vals, f1, f2, f3⟩ := run_rxs h2 h k2
    refine ⟨val :: vals, ?_, by simp [f2], fun j z v hz hv => ?_⟩
    · rw [List.mapM_cons]
      simp only [Sem.run_bind, e1, f1, Result.andThen_ok, Sem.run_pure]
    · cases j with
      | zero => simp at hz hv; subst hz; subst hv; exact e2
      | succ j => exact f3 j z v (by simpa using hz) (by simpa using hv)

theorem run_results {fn : Func} {rs : List RX} (hrs : compRXs P fn.results.toList = some rs) (h : Sim g₀ w₀ N g σ S a w) {v : V} (hv : resV σ S rs = some v) :
    ∃ val, (results fn a.tmps).run P w = .ok val w ∧ Rep g v val ∧ Claim g w w₀.heap.size v val := by
  have hres : results fn a.tmps = (do let vs ← fn.results.mapM (resOne a); Pure.pure (if h : vs.size = 1 then vs[0] else .tuple vs)) := rfl
  have hlist : ∀ (l : List ResultVar), fn.results.toList = l → (fn.results.mapM (resOne a)) = (do let vs ← l.mapM (resOne a); Pure.pure vs.toArray) := by
    intro l hl
    subst hl
    rw [Array.mapM_eq_mapM_toList]
    rfl
  have many : ∀ (vs : List V), resVs σ S rs = some vs → vs.length ≠ 1 → v = .tup vs → ∃ val, (results fn a.tmps).run P w = .ok val w ∧ Rep g v val ∧ Claim g w w₀.heap.size v val := by
    intro vs hvs hne he
    subst he
    obtain ⟨vals, e1, e2, e3⟩ := run_rxs hrs h hvs
    refine ⟨.tuple vals.toArray, ?_, .tup vs _ (by simp [e2]) (fun j y u hy hu => e3 j y u hy (by simpa using hu)), .of_not rfl⟩
    rw [hres, hlist _ rfl]
    simp [e1, e2, hne]
  cases hl : fn.results.toList with
  | nil =>
    rw [hl] at hrs
    simp only [compRXs, Option.some.injEq] at hrs
    subst hrs
    simp only [resV, resVs, Option.some.injEq] at hv
    exact many [] rfl (by simp) hv.symm
  | cons r l =>
    have hrs' := hrs
    rw [hl] at hrs
    simp only [compRXs] at hrs
    split at hrs <;> cases hrs
    rename_i x xs h1 h2
    cases l with
    | nil =>
      simp only [compRXs, Option.some.injEq] at h2
      subst h2
      have single : ∀ val, (resOne a r).run P w = .ok val w → (results fn a.tmps).run P w = .ok val w := by
        intro val hval
        rw [hres, hlist _ hl]
        simp [List.mapM_cons, hval]
      cases r with
      | tmp t =>
        simp only [compRX, Option.some.injEq] at h1
        subst h1
        simp only [resV, Option.some.injEq] at hv
        subst hv
        exact ⟨_, single _ rfl, h.rep t, h.claim t⟩
      | cell ad t =>
        have hcell : ∃ t' sz ag, x = .cell t' sz ag := by
          simp only [compRX] at h1
          split at h1 <;> cases h1
          exact ⟨_, _, _, rfl⟩
        obtain ⟨t', sz, ag, rfl⟩ := hcell
        simp only [resV] at hv
        obtain ⟨val, e1, e2, e3⟩ := run_rx h1 h hv
        exact ⟨val, single _ e1, e2, .of_not e3⟩
    | cons r2 l2 =>
      simp only [compRXs] at h2
      split at h2 <;> cases h2
      rename_i x2 xs2 k1 k2
      have : resV σ S (x :: x2 :: xs2) = match resVs σ S (x :: x2 :: xs2) with
        | some xs => some (.tup xs)
        | none => none := by
        cases x <;> rfl
      rw [this] at hv
      split at hv <;> cases hv
      rename_i vs hvs
      refine many vs hvs ?_ rfl
      simp only [resVs] at hvs
      split at hvs <;> cases hvs
      rename_i q1
      split at q1 <;> cases q1
      simp

mutual
theorem refsB_mono {p q : Nat → Nat → Bool} (h : ∀ i k, p i k = true → q i k = true) : ∀ (x : V), x.refsB p → x.refsB q
  | .ref i k _, hx => by simp only [V.refsB] at *; exact h _ _ hx
  | .ro x, hx => by simp only [V.refsB] at *; exact refsB_mono h x hx
  | .sl _ _ xs, hx => by simp only [V.refsB] at *; exact refsBs_mono h xs hx
  | .gr _ _ _ xs, hx => by simp only [V.refsB] at *; exact refsBs_mono h xs hx
  | .agg xs, hx => by simp only [V.refsB] at *; exact refsBs_mono h xs hx
  | .tup xs, hx => by simp only [V.refsB] at *; exact refsBs_mono h xs hx
  | .fn _ xs, hx => by simp only [V.refsB] at *; exact refsBs_mono h xs hx
  | .iface _ x, hx => by simp only [V.refsB] at *; exact refsB_mono h x hx
  | .any, _ => by simp only [V.refsB]
  | .bool _, _ => by simp only [V.refsB]
  | .int _ _, _ => by simp only [V.refsB]
  | .str _, _ => by simp only [V.refsB]
  | .nilp, _ => by simp only [V.refsB]
  | .nilfn, _ => by simp only [V.refsB]
  | .niliface, _ => by simp only [V.refsB]
theorem refsBs_mono {p q : Nat → Nat → Bool} (h : ∀ i k, p i k = true → q i k = true) : ∀ (l : List V), V.refsBs p l → V.refsBs q l
  | [], _ => by simp only [V.refsBs]
  | x :: r, hx => by simp only [V.refsBs] at *; exact ⟨refsB_mono h x hx.1, refsBs_mono h r hx.2⟩
end

theorem vcOps_mono {Q Q' : AX → (Nat → V) → St → Prop} (hq : ∀ e σ S, Q e σ S → Q' e σ S) : ∀ (l : List RO) (σ : Nat → V) (S : St), vcOps P Q l σ S → vcOps P Q' l σ S
  | [], σ, S, h => hq _ _ _ h
  | o :: l, σ, S, h => vc_mono' (σ := σ) (S := S) hq (fun σ S hk => vcOps_mono hq l σ S hk) h

theorem vcA_mono {S₀ : St} {K K' : (Nat → V) → St → Prop} (hK : ∀ σ S, K σ S → K' σ S) : ∀ (l : List RO) (nm : Nat) (σ : Nat → V) (S : St), vcA P S₀ l nm K σ S → vcA P S₀ l nm K' σ S
  | [], _, σ, S, h => hK _ _ h
  | o :: l, nm, σ, S, h => by
    simp only [vcA] at h ⊢
    have ih := fun σ S => vcA_mono (S₀ := S₀) hK l (bif o.m.isBox then nm + 1 else nm) σ S
    generalize vcA P S₀ l (bif o.m.isBox then nm + 1 else nm) K = A at h ih
    generalize vcA P S₀ l (bif o.m.isBox then nm + 1 else nm) K' = B at ih ⊢
    have step : o.q1 P S₀ nm A σ S → o.q1 P S₀ nm B σ S := by
      intro h
      unfold RO.q1 at h ⊢
      revert h
      generalize o.m = m
      intro h
      cases m <;> simp only at h ⊢
      case call f args => obtain ⟨v, h1, h2⟩ := h; exact ⟨v, h1, ih _ _ h2⟩
      case callv x args =>
        split at h
        · obtain ⟨v, h1, h2⟩ := h; exact ⟨v, h1, ih _ _ h2⟩
        · exact h.elim
      case new z => exact ih _ _ h
      case box x =>
        cases hb : (x.ev σ).data with
        | false => rw [hb] at h; exact h.elim
        | true => rw [hb] at h; exact ih _ _ h
      case asg x => exact ih _ _ h
      all_goals
        split at h
        · exact ih _ _ h
        · exact h.elim
    unfold RO.q at h ⊢
    cases hg : o.guard with
    | none => rw [hg] at h; exact step h
    | some p =>
      obtain ⟨t, want⟩ := p
      rw [hg] at h
      simp only at h ⊢
      split at h
      · rename_i b hb
        cases hbw : (b == want) with
        | true => rw [hbw] at h; exact step h
        | false => rw [hbw] at h; exact ih _ _ h
      · exact ih _ _ h
      · exact h.elim

theorem vc_mono : ∀ (c : C) (Q Q' : AX → (Nat → V) → St → Prop) (σ : Nat → V) (S : St), (∀ e σ S, Q e σ S → Q' e σ S) → vc P N n₀ c Q σ S → vc P N n₀ c Q' σ S
  | .skip, Q, Q', σ, S, hq, h => hq _ _ _ h
  | .reg l, Q, Q', σ, S, hq, h => vcOps_mono hq l σ S h
  | .draw k l, Q, Q', σ, S, hq, h => by
    simp only [vc, vcDraw] at h ⊢
    exact vcA_mono (fun σ S hk => vcOps_mono hq _ σ S hk) _ _ _ _ h
  | .seq a b, Q, Q', σ, S, hq, h => by
    simp only [vc] at h ⊢
    refine vc_mono a _ _ σ S (fun e σ S he => ?_) h
    cases e with
    | normal => exact vc_mono b _ _ σ S hq he
    | exit id => exact hq _ _ _ he
    | ret => exact hq _ _ _ he
    | pan v => exact hq _ _ _ he
  | .cond x a b, Q, Q', σ, S, hq, h => by
    simp only [vc] at h ⊢
    split at h
    · rename_i t _
      cases t with
      | true => exact vc_mono a _ _ σ S hq h
      | false => exact vc_mono b _ _ σ S hq h
    · exact h.elim
  | .block id c, Q, Q', σ, S, hq, h => by
    simp only [vc] at h ⊢
    refine vc_mono c _ _ σ S (fun e σ S he => ?_) h
    cases e with
    | exit i =>
      simp only [AX.inBlock] at he ⊢
      split
      · rename_i e; rw [if_pos e] at he; exact hq _ _ _ he
      · rename_i e; rw [if_neg e] at he; exact hq _ _ _ he
    | normal => exact hq _ _ _ he
    | ret => exact hq _ _ _ he
    | pan v => exact hq _ _ _ he
  | .loop c, Q, Q', σ, S, hq, h => by
    refine ⟨?_⟩
    intro hm rs code hc g₀ w₀ g a w ht₀ hs
    exact Go.wp_mono (h.run hm rs code hc g₀ w₀ g a w ht₀ hs) fun e a' w' hp => APost.mono hq hp
  | .exit id, Q, Q', σ, S, hq, h => hq _ _ _ h
  | .ret, Q, Q', σ, S, hq, h => hq _ _ _ h

/-- A CALL COMES TO WHAT ITS TEXT IS SHOWN TO COME TO. -/
theorem ACalls_of_vc {f : Nat} {fn : Func} {F : F} {args : List V} {Q : AE → St → Prop} (hm : P.follows .mixedOrders = true) (hf : P.funcs[f]? = some fn) (hgo : isGo P f = true) (hc : compFn P fn = some F)
    (hN : args.length ≤ F.N) (h : WFS S → vc P F.N S.n F.c (retPost F.rs S Q) (frame0 args) S.enter) : ACalls P f args S Q := by
  unfold compFn at hc
  split at hc
  · rename_i body rs hb hrs
    split at hc <;> cases hc
    rename_i c hcc
    refine ⟨hgo, fun g w vals hs ht hr => ?_⟩
    refine calls_of_wp hf hb ?_
    have hvl : vals.size ≤ fn.ntmps := by rw [← hr.1]; exact hN
    have hse : SimW g S.enter w := ⟨hs.mem, hs.box, hs.inj, hs.boxM, hs.locB, fun i k hi => hs.fresh i k (by rw [ok_not] at hi ⊢; simp only [St.enter] at hi; omega)⟩
    have hsim : Sim g w fn.ntmps g (frame0 args) S.enter { tmps := vals ++ Array.replicate (fn.ntmps - vals.size) Go.undef, defers := [] } w := by
      have hget : ∀ t, (vals ++ Array.replicate (fn.ntmps - vals.size) Go.undef).getD t Go.undef = vals.getD t Go.undef := by
        intro t
        by_cases ht : t < vals.size
        · simp [Array.getElem?_append, ht]
        · have : vals.getD t Go.undef = Go.undef := by simp [Array.getElem?_eq_none (Nat.le_of_not_lt ht)]
          rw [this]
          simp only [Array.getD_eq_getD_getElem?, Array.getElem?_append, ht, if_false, Array.getElem?_replicate]
          split <;> rfl
      have hrep : ∀ t, Rep g (frame0 args t) (vals.getD t Go.undef) := fun t => by
        by_cases ht : t < args.length
        · have ht' : t < vals.size := by rw [← hr.1]; exact ht
          have := hr.2 t args[t] vals[t] (by simp [ht]) (by simp [ht'])
          simp only [frame0, List.getElem?_eq_getElem ht, Option.getD_some]
          have e : vals.getD t Go.undef = vals[t] := by simp [ht']
          rw [e]; exact this.toPlain
        · have ht' : ¬ t < vals.size := by rw [← hr.1]; exact ht
          have e : vals.getD t Go.undef = Go.undef := by simp [Array.getElem?_eq_none (Nat.le_of_not_lt ht')]
          simp only [frame0, List.getElem?_eq_none (Nat.le_of_not_lt ht), Option.getD_none]
          rw [e]
          exact .tup [] #[] rfl (by simp)
      have hng : ∀ t, (frame0 args t).isGr = false := fun t => plain_isGr _
      refine ⟨.refl g w, hse, by simp; omega, rfl, fun t => by rw [hget]; exact hrep t, fun t => .of_not (hng t), fun t t' b h1 _ => ?_, by simp only [St.enter]; omega, fun i k hi => hs.fresh i k (by rw [ok_not]; omega)⟩
      rw [spare_not (hng t)] at h1; cases h1
    have hw := (vc_sound c _ _ _ (h (Sim.wfs hs))).run hm (rxTmps rs) body hcc g w g _ w ht hsim
    refine Go.wp_mono hw ?_
    have hok : ∀ (S'' : St) (S' : St), Over S S' S'' → ∀ i k b, g.loc i k = some b → S''.ok i k = true := fun S'' S' ho i k b hb => by
      have := (ok_iff _ _ _).1 (hs.ok_of_loc hb)
      rw [ok_iff]
      have h1 := ho.n; have h2 := ho.b; have h3 := ho.c
      exact ⟨by omega, fun e => by have := this.2 (by omega); omega⟩
    have fin : ∀ (σ : Nat → V) (S' : St) (g' : Gh) (a' : Act) (w' : World), Sim g w fn.ntmps g' σ S' a' w' → (∃ v S'', resV σ S' rs = some v ∧ v.refsB S''.ok ∧ Over S S' S'' ∧ Q (.ret v) S'') →
        a'.defers = [] ∧ ∃ v, (results fn a'.tmps).run P w' = .ok v w' ∧ ∃ g'' S'' ae, Ext g w g'' w' ∧ SimW g'' S'' w' ∧ (S.n ≤ S''.n ∧ S''.b = S.b) ∧ RepEnd g'' w' w.heap.size ae (.returned v) ∧ Q ae S'' := by
      rintro σ S' g' a' w' hs' ⟨v, S'', hv, hb, ho, hq⟩
      obtain ⟨val, e1, e2, e3⟩ := run_results hrs hs' hv
      refine ⟨hs'.dfr, val, e1, g'.cut S''.ok, S'', .ret v, hs'.ext.cut (hok _ _ ho), hs'.sim.cut ho.H, ⟨ho.n, ho.b⟩, ⟨e2.cut _ hb, e3.cut _⟩, hq⟩
    intro e a' w' hp
    cases e with
    | normal => obtain ⟨g', σ, S', k1, k2⟩ := hp; exact fin σ S' g' a' w' k1 k2
    | ret => obtain ⟨g', σ, S', k1, k2⟩ := hp; exact fin σ S' g' a' w' k1 k2
    | exit id => obtain ⟨g', σ, S', k1, k2⟩ := hp; exact k2.elim
    | panic chain =>
      obtain ⟨g', σ, S', v, val, k1, k2, k3, S'', hb, ho, hq⟩ := hp
      exact ⟨k1.dfr, g'.cut S''.ok, S'', .pan v, k1.ext.cut (hok _ _ ho), k1.sim.cut ho.H, ⟨ho.n, ho.b⟩, ⟨val, k2, k3.cut _ hb⟩, hq⟩
    | goto l => exact hp.elim
    | outgrown => exact hp.elim
  · cases hc

/-- The end of a function that hands back v and leaves the boxes alone. -/
def retPure (rs : List RX) (S₀ : St) (v : V) : AX → (Nat → V) → St → Prop
  | .normal, σ, S | .ret, σ, S => resV σ S rs = some v ∧ ∀ i k x, S₀.H i k = some x → S.H i k = some x
  | _, _, _ => False

theorem Pure_of_vc {f : Nat} {fn : Func} {F : F} {args : List V} {v : V} (hm : P.follows .mixedOrders = true) (hf : P.funcs[f]? = some fn) (hgo : isGo P f = true) (hc : compFn P fn = some F)
    (hN : args.length ≤ F.N) (hv : v.refsB S.ok) (h : ∀ S', S.le S' → WFS S' → vc P F.N S'.n F.c (retPure F.rs S' v) (frame0 args) S'.enter) : Pure P f args S v := by
  refine ⟨?_⟩
  intro S' hle
  refine ACalls_of_vc hm hf hgo hc hN fun hw => ?_
  have hv' : v.refsB S'.ok := refsB_mono hle.2 v hv
  refine vc_mono F.c _ _ _ _ (fun e σ S'' hp => ?_) (h S' hle hw)
  cases e with
  | normal => exact ⟨v, S', hp.1, hv', ⟨Nat.le_refl _, rfl, Nat.le_refl _, fun i k x hx => ⟨hp.2 i k x hx, hw i k x hx⟩⟩, rfl, rfl⟩
  | ret => exact ⟨v, S', hp.1, hv', ⟨Nat.le_refl _, rfl, Nat.le_refl _, fun i k x hx => ⟨hp.2 i k x hx, hw i k x hx⟩⟩, rfl, rfl⟩
  | exit id => exact hp.elim
  | pan u => exact hp.elim

end
end Go.Pl
