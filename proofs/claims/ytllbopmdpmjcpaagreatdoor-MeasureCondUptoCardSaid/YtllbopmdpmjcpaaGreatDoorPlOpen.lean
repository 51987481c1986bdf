/- Forms, read out of memory: what a reading of the statement gives the walk. -/
import Derived.Test.YtllbopmdpmjcpaaGreatDoorPlForm
import Derived.Deep.Slices
set_option linter.unusedSimpArgs false
set_option linter.unusedVariables false
set_option linter.unusedSectionVars false
namespace Go.Pl

/-- What is known as a call begins: every cell, and no box. -/
def gh0 (W : World) : Gh := ⟨fun b o => W.cell? ⟨b, o, none⟩, fun _ _ => none, 0⟩
def st0 : St := ⟨fun _ _ => none, 0, 0, 0, Ops.std, rfl⟩
theorem sim0 (W : World) : SimW (gh0 W) st0 W where
  mem _ _ _ h := h
  box _ _ _ h := by cases h
  inj _ _ _ _ _ h := by cases h
  boxM _ _ _ h := by cases h
  locB _ _ _ h := by cases h
  fresh _ _ _ := rfl

mutual
def fsize : Fm → Nat
  | .mk _ _ t _ l => t.length + fsizes l + 5
def fsizes : List Fm → Nat
  | [] => 0
  | f :: r => fsize f + fsizes r
end

/-- The numbers of the types: int, string, []Form, Form. -/
structure FormTypes (P : Program) (tI tS tL tF : TypeId) : Prop where
  I : P.underlying tI = some (.int .i64)
  S : P.underlying tS = some .string
  L : P.underlying tL = some (.slice tF)
  F : ∃ f0 f1 f2 f3 : Field, P.underlying tF = some (.struct #[f0, f1, f2, f3]) ∧ f0.type = tI ∧ f1.type = tI ∧ f2.type = tS ∧ f3.type = tL ∧ f0.offset = 0 ∧ f1.offset = 1 ∧ f2.offset = 2 ∧ f3.offset = 3
  cI : P.cellsOf tI = 1
  cS : P.cellsOf tS = 1
  cL : P.cellsOf tL = 1
  cF : P.cellsOf tF = 4

/-- A measure of what is read. -/
structure Bulk {H : Type} (B : DataW H → Nat) (Bs : List (DataW H) → Nat) : Prop where
  lit : ∀ k n, B (.lit (.int k n)) = 1
  str : ∀ s, B (.lit (.string s)) = s.length + 1
  nil : B .nil = 1
  slice : ∀ es sp, B (.slice es sp) = Bs es + Bs sp + 1
  agg : ∀ ps, B (.agg ps) = Bs ps + 1
  none : Bs [] = 0
  cons : ∀ d r, Bs (d :: r) = B d + Bs r

section
variable {H : Type} {enc : TypeId × Value → H} {P : Program} {W : World} {tI tS tL tF : TypeId} {B : DataW H → Nat} {Bs : List (DataW H) → Nat}

/-- One cell, read. -/
def CellRep (W : World) (y : V) (v : Value) : Prop := Rep (gh0 W) y v ∧ v.oneCell' = true

theorem cellRep_int (W : World) (k : IntKind) (n : Int) : CellRep W (.int k n) (.int k n) := ⟨.int k n, rfl⟩

theorem fourth {α : Type} {l : List α} (h : l.length = 4) : ∃ a b c d, l = [a, b, c, d] := by
  match l, h with
  | [a, b, c, d], _ => exact ⟨a, b, c, d, rfl⟩

theorem spot_of_cell {W : World} {a : Addr} {v : Value} (h : W.cell? a = some v) : a.spot = none := by
  unfold World.cell? at h
  split at h
  · split at h
    · cases h
    · rename_i hs; simpa using hs
  · cases h

theorem add_zero' (a : Addr) : a.add 0 = a := by simp [Addr.add]

theorem add_add' (a : Addr) (i j : Nat) : (a.add i).add j = a.add (i + j) := by
  unfold Addr.add
  by_cases hi : i = 0 <;> by_cases hj : j = 0 <;> simp [hi, hj, Nat.add_assoc]
theorem add_none' (b o n : Nat) : (⟨b, o, none⟩ : Addr).add n = ⟨b, o + n, none⟩ := by
  unfold Addr.add; split <;> simp_all

theorem collect {p : Nat → Fm → Prop} : ∀ n, (∀ i, i < n → ∃ f, p i f) → ∃ l : List Fm, l.length = n ∧ ∀ (i : Nat) (f : Fm), l[i]? = some f → p i f
  | 0, _ => ⟨[], rfl, fun i f h => by simp at h⟩
  | n + 1, h => by
    obtain ⟨l, hl, hp⟩ := collect n fun i hi => h i (by omega)
    obtain ⟨f, hf⟩ := h n (by omega)
    refine ⟨l ++ [f], by simp [hl], fun i g hg => ?_⟩
    rw [List.getElem?_append] at hg
    split at hg
    · exact hp i g hg
    · rename_i hi
      have : i = n := by
        have := (List.getElem?_eq_some_iff.1 hg).1
        simp at this; omega
      subst this
      simp [hl] at hg; subst hg; exact hf

theorem fsizes_le (K : Bulk B Bs) : ∀ (l : List Fm) (ds : List (DataW H)), l.length = ds.length → (∀ (i : Nat) (f : Fm), l[i]? = some f → ∃ d, ds[i]? = some d ∧ fsize f ≤ B d) → fsizes l ≤ Bs ds
  | [], ds, _, _ => by simp [fsizes]
  | f :: l, [], h, _ => by simp at h
  | f :: l, d :: ds, h, hp => by
    obtain ⟨d', e, h0⟩ := hp 0 f rfl
    simp at e; subst e
    have := fsizes_le K l ds (by simpa using h) fun i g hg => by simpa using hp (i + 1) g (by simpa using hg)
    rw [K.cons]; simp only [fsizes]; omega

/-- A FORM'S CELLS, AND A LIST OF FORMS. -/
theorem trod_forms (T : FormTypes P tI tS tL tF) (K : Bulk B Bs) : ∀ fuel : Nat,
    (∀ cs d ps, DataW.trod enc P W 0 (fun _ => true) true fuel tF cs = some (d, ps) →
      ∃ f : Fm, cs.length = 4 ∧ (∀ (j : Nat) y v, (Pl.enc f).cells[j]? = some y → cs[j]? = some v → CellRep W y v) ∧ fsize f ≤ B d) ∧
    (∀ cs d ps, DataW.trod enc P W 0 (fun _ => true) true fuel tL cs = some (d, ps) →
      ∃ v nl l, cs = [v] ∧ CellRep W (.sl nl 4 (encs l)) v ∧ fsizes l + 1 ≤ B d) := by
  intro fuel
  induction fuel with
  | zero => exact ⟨fun cs d ps h => by simp [DataW.trod] at h, fun cs d ps h => by simp [DataW.trod] at h⟩
  | succ fuel ih =>
    have step : ∀ m, m ≤ fuel → (∀ cs d ps, DataW.trod enc P W 0 (fun _ => true) true m tF cs = some (d, ps) →
      ∃ f : Fm, cs.length = 4 ∧ (∀ (j : Nat) y v, (Pl.enc f).cells[j]? = some y → cs[j]? = some v → CellRep W y v) ∧ fsize f ≤ B d) ∧
      (∀ cs d ps, DataW.trod enc P W 0 (fun _ => true) true m tL cs = some (d, ps) → ∃ v nl l, cs = [v] ∧ CellRep W (.sl nl 4 (encs l)) v ∧ fsizes l + 1 ≤ B d) := fun m hm =>
      ⟨fun cs d ps h => ih.1 cs d ps (DataW.trod_le hm h), fun cs d ps h => ih.2 cs d ps (DataW.trod_le hm h)⟩
    constructor
    · intro cs d ps h
      obtain ⟨f0, f1, f2, f3, hF, t0, t1, t2, t3, o0, o1, o2, o3⟩ := T.F
      obtain ⟨xs, n, hn, hx, hcl, hxl, hget⟩ := DataW.trod_struct hF h
      rw [T.cF] at hcl
      obtain ⟨c0, c1, c2, c3, rfl⟩ := fourth hcl
      obtain ⟨x0, x1, x2, x3, rfl⟩ := fourth (show xs.length = 4 by simpa using hxl)
      have g0 := hget 0 f0 rfl
      have g1 := hget 1 f1 rfl
      have g2 := hget 2 f2 rfl
      have g3 := hget 3 f3 rfl
      rw [t0, o0, T.cI] at g0
      rw [t1, o1, T.cI] at g1
      rw [t2, o2, T.cS] at g2
      rw [t3, o3, T.cL] at g3
      simp only [List.drop_zero, List.drop_succ_cons, List.take_succ_cons, List.take_zero, List.getElem?_cons_zero, List.getElem?_cons_succ] at g0 g1 g2 g3
      obtain ⟨k, e0, r0, _⟩ := DataW.trod_int T.I g0
      obtain ⟨m, e1, r1, _⟩ := DataW.trod_int T.I g1
      obtain ⟨s, e2, r2, _⟩ := DataW.trod_string T.S g2
      obtain ⟨d3, p3⟩ := x3
      obtain ⟨v, nl, l, e3, hv, hb⟩ := (step n (by omega)).2 _ _ _ g3
      simp only [List.cons.injEq, and_true] at e0 e1 e2 e3
      subst e0 e1 e2 e3 r0 r1 r2
      simp only [Prod.mk.injEq] at hx
      refine ⟨.mk k m s.data.toList nl l, rfl, fun j y u hy hu => ?_, ?_⟩
      · simp only [Pl.enc, V.cells] at hy
        match j with
        | 0 => simp at hy hu; subst hy; subst hu; exact cellRep_int W _ _
        | 1 => simp at hy hu; subst hy; subst hu; exact cellRep_int W _ _
        | 2 =>
          simp at hy hu; subst hy; subst hu
          exact ⟨by simpa using Rep.str (g := gh0 W) s.data.toList, rfl⟩
        | 3 => simp at hy hu; subst hy; subst hu; exact hv
        | j + 4 => simp at hy
      · rw [hx.1, K.agg]
        simp only [List.map_cons, List.map_nil, K.cons, K.none, K.lit, K.str, fsize]
        omega
    · intro cs d ps h
      rcases DataW.trod_slice T.L h with ⟨rfl, hx⟩ | ⟨a, len, cap, elems, rest, n, hn, rfl, hx, _, hl, hm, hlen, hel, hsp, _⟩
      · simp only [Prod.mk.injEq] at hx
        refine ⟨_, true, [], rfl, ⟨.slNil 4, rfl⟩, ?_⟩
        rw [hx.1, K.nil]; simp [fsizes]
      · simp only [Nat.succ_eq_add_one, Nat.add_right_cancel_iff] at hn
        subst hn
        obtain ⟨hrl, hre⟩ := hsp rfl
        have one : ∀ i x, (W.cells? 0 (a.add (i * P.cellsOf tF)) (P.cellsOf tF)).bind (DataW.trod enc P W 0 (fun _ => true) true fuel tF) = some x →
            (i = 0 → a.spot = none) ∧ ∃ f : Fm, (∀ (j : Nat) y, (Pl.enc f).cells[j]? = some y → ∃ c, W.cell? (a.add (i * 4 + j)) = some c ∧ CellRep W y c) ∧ fsize f ≤ B x.1 := by
          intro i x hi
          obtain ⟨cs', h1, h2⟩ := Option.bind_eq_some_iff.1 hi
          obtain ⟨d, ps⟩ := x
          obtain ⟨f, q1, q2, q3⟩ := ih.1 cs' d ps h2
          rw [T.cF] at h1
          obtain ⟨_, _, hc⟩ := World.cells?_some h1
          have hj : ∀ j, j < 4 → ∃ c, cs'[j]? = some c ∧ W.cell? (a.add (i * 4 + j)) = some c := fun j hj => by
            have := hc j hj
            rw [add_add'] at this
            exact ⟨cs'[j], by simp [q1, hj], by rw [this]; simp [q1, hj]⟩
          refine ⟨?_, f, fun j y hy => ?_, q3⟩
          · rintro rfl
            obtain ⟨c, _, e⟩ := hj 0 (by omega)
            have := spot_of_cell e
            simpa [Addr.add] using this
          · have hlt : j < 4 := by
              have := (List.getElem?_eq_some_iff.1 hy).1
              rwa [enc_cells_length] at this
            obtain ⟨c, e1, e2⟩ := hj j hlt
            exact ⟨c, e2, q2 j y c hy e1⟩
        have hx1 : d = .slice (elems.map (·.1)) (rest.map (·.1)) := (Prod.mk.inj hx).1
        have spot : cap = 0 ∨ a.spot = none := by
          rcases Nat.eq_zero_or_pos cap with h0 | h0
          · exact .inl h0
          · right
            rcases Nat.eq_zero_or_pos len with h1 | h1
            · subst h1
              have := hre 0 (by omega)
              rw [List.getElem?_eq_getElem (by omega)] at this
              exact (one _ _ this).1 rfl
            · have := hel 0 h1
              rw [List.getElem?_eq_getElem (by omega)] at this
              exact (one _ _ this).1 rfl
        obtain ⟨l, hll, hlf⟩ := collect (p := fun i f => (∀ (j : Nat) y, (Pl.enc f).cells[j]? = some y → ∃ c, W.cell? (a.add (i * 4 + j)) = some c ∧ CellRep W y c) ∧ ∃ x, elems[i]? = some x ∧ fsize f ≤ B x.1) len (fun i hi => by
          have := hel i hi
          rw [List.getElem?_eq_getElem (by omega)] at this
          obtain ⟨_, f, q1, q2⟩ := one _ _ this
          exact ⟨f, q1, elems[i], by simp, q2⟩)
        have hbulk : fsizes l ≤ Bs (elems.map (·.1)) := fsizes_le K l (elems.map (·.1)) (by simp [hll, hlen]) fun i f hf => by
          obtain ⟨_, x, e1, e2⟩ := hlf i f hf
          exact ⟨x.1, by simp [e1], e2⟩
        refine ⟨_, false, l, rfl, ⟨?_, rfl⟩, ?_⟩
        · rcases spot with h0 | h0
          · subst h0
            have h1 : len = 0 := by omega
            subst h1
            obtain rfl : l = [] := List.eq_nil_of_length_eq_zero hll
            exact .slE 4 a
          · obtain ⟨b, o, sp⟩ := a
            simp only at h0
            subst h0
            have hlen' : len = (encs l).length := by rw [encs_length, hll]
            rw [hlen']
            have cell : ∀ (i : Nat) (x : V) (j : Nat) (y : V), (encs l)[i]? = some x → x.cells[j]? = some y → ∃ c, W.cell? ⟨b, o + i * 4 + j, none⟩ = some c ∧ CellRep W y c := fun i x j y hx hy => by
              rw [encs_get, Option.map_eq_some_iff] at hx
              obtain ⟨f, hf, rfl⟩ := hx
              obtain ⟨c, e1, e2⟩ := (hlf i f hf).1 j y hy
              rw [add_none'] at e1
              exact ⟨c, by rw [Nat.add_assoc]; exact e1, e2⟩
            refine .sl 4 _ b o cap (fun i j => (W.cell? ⟨b, o + i * 4 + j, none⟩).getD undef) (by omega) (fun i x hx => ?_) (fun i x j y hx hy => ?_) (fun i x j y hx hy => ?_) (fun i x j y hx hy => ?_)
            · rw [encs_get, Option.map_eq_some_iff] at hx
              obtain ⟨f, _, rfl⟩ := hx
              exact enc_cells_length f
            · obtain ⟨c, e1, e2⟩ := cell i x j y hx hy
              show W.cell? ⟨b, o + i * 4 + j, none⟩ = _
              rw [e1]; rfl
            · obtain ⟨c, e1, e2⟩ := cell i x j y hx hy
              show ((W.cell? ⟨b, o + i * 4 + j, none⟩).getD undef).oneCell' = true
              rw [e1]; exact e2.2
            · obtain ⟨c, e1, e2⟩ := cell i x j y hx hy
              show Rep _ y ((W.cell? ⟨b, o + i * 4 + j, none⟩).getD undef)
              rw [e1]; exact e2.1
        · rw [hx1, K.slice]; omega
end
end Go.Pl
