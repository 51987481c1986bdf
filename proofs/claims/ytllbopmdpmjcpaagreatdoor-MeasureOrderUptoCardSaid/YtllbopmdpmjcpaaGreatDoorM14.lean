import Derived.Test.YtllbopmdpmjcpaaGreatDoorM10
import Derived.Deep.Slices
import Derived.Below
import Derived.Carry
import Derived.ChangeSame
import Derived.Shelf.Small.Strs
import Derived.Shelf.Strings.SplitShaped
import Derived.Shelf.Strings.FuncGrows
import Derived.Shelf.Strings.SlTrimAscii
import Derived.Shelf.Strings.Prefix
set_option linter.unusedSimpArgs false
set_option linter.unusedVariables false
set_option linter.unusedSectionVars false
section
namespace Go.Pl
def gh0 (W : World) : Gh := ⟨fun b o => W.cell? ⟨b, o, none⟩, fun _ _ => none, 0, []⟩
def st0 : St := ⟨fun _ _ => none, 0, 0, 0, Ops.std, rfl⟩
theorem sim0 (W : World) : SimW (gh0 W) st0 W where
 mem _ _ _ h := h
 box _ _ _ h := by cases h
 inj _ _ _ _ _ h := by cases h
 boxM _ _ _ h := by cases h
 locB _ _ _ h := by cases h
 fresh _ _ _ := rfl
mutual
def fsize : Fm → Nat
 | .mk _ _ t _ l => t.length + fsizes l + 5
def fsizes : List Fm → Nat
 | [] => 0
 | f :: r => fsize f + fsizes r
end
structure FormTypes (P : Program) (tI tS tL tF : TypeId) : Prop where
 I : P.underlying tI = some (.int .i64)
 S : P.underlying tS = some .string
 L : P.underlying tL = some (.slice tF)
 F : ∃ f0 f1 f2 f3 : Field, P.underlying tF = some (.struct #[f0, f1, f2, f3]) ∧ f0.type = tI ∧ f1.type = tI ∧ f2.type = tS ∧ f3.type = tL ∧ f0.offset = 0 ∧ f1.offset = 1 ∧ f2.offset = 2 ∧ f3.offset = 3
 cI : P.cellsOf tI = 1
 cS : P.cellsOf tS = 1
 cL : P.cellsOf tL = 1
 cF : P.cellsOf tF = 4
structure Bulk {H : Type} (B : DataW H → Nat) (Bs : List (DataW H) → Nat) : Prop where
 lit : ∀ k n, B (.lit (.int k n)) = 1
 str : ∀ s, B (.lit (.string s)) = s.length + 1
 nil : B .nil = 1
 slice : ∀ es sp, B (.slice es sp) = Bs es + Bs sp + 1
 agg : ∀ ps, B (.agg ps) = Bs ps + 1
 none : Bs [] = 0
 cons : ∀ d r, Bs (d :: r) = B d + Bs r
section
variable {H : Type} {enc : TypeId × Value → H} {P : Program} {W : World} {tI tS tL tF : TypeId} {B : DataW H → Nat} {Bs : List (DataW H) → Nat}
def CellRep (W : World) (y : V) (v : Value) : Prop := Rep (gh0 W) y v ∧ v.oneCell' = true
theorem cellRep_int (W : World) (k : IntKind) (n : Int) : CellRep W (.int k n) (.int k n) := ⟨.int k n, rfl⟩
theorem fourth {α : Type} {l : List α} (h : l.length = 4) : ∃ a b c d, l = [a, b, c, d] := by
 match l, h with
 | [a, b, c, d], _ => exact ⟨a, b, c, d, rfl⟩
theorem spot_of_cell {W : World} {a : Addr} {v : Value} (h : W.cell? a = some v) : a.spot = none := by
 unfold World.cell? at h
 split at h
 ·split at h
  ·cases h
  ·rename_i hs; simpa using hs
 ·cases h
theorem add_add' (a : Addr) (i j : Nat) : (a.add i).add j = a.add (i + j) := by
 unfold Addr.add
 by_cases hi : i = 0 <;> by_cases hj : j = 0 <;> simp [hi, hj, Nat.add_assoc]
theorem add_none' (b o n : Nat) : (⟨b, o, none⟩ : Addr).add n = ⟨b, o + n, none⟩ := by
 unfold Addr.add; split <;> simp_all
theorem collect {p : Nat → Fm → Prop} : ∀ n, (∀ i, i < n → ∃ f, p i f) → ∃ l : List Fm, l.length = n ∧ ∀ (i : Nat) (f : Fm), l[i]? = some f → p i f
 | 0, _ => ⟨[], rfl, fun i f h => by simp at h⟩
 | n + 1, h => by
  obtain ⟨l, hl, hp⟩ := collect n fun i hi => h i (by omega)
  obtain ⟨f, hf⟩ := h n (by omega)
  refine ⟨l ++ [f], by simp [hl], fun i g hg => ?_⟩
  rw [List.getElem?_append] at hg
  split at hg
  ·exact hp i g hg
  ·rename_i hi
   have : i = n := by
    have := (List.getElem?_eq_some_iff.1 hg).1
    simp at this; omega
   subst this
   simp [hl] at hg; subst hg; exact hf
theorem fsizes_le (K : Bulk B Bs) : ∀ (l : List Fm) (ds : List (DataW H)), l.length = ds.length → (∀ (i : Nat) (f : Fm), l[i]? = some f → ∃ d, ds[i]? = some d ∧ fsize f ≤ B d) → fsizes l ≤ Bs ds
 | [], ds, _, _ => by simp [fsizes]
 | f :: l, [], h, _ => by simp at h
 | f :: l, d :: ds, h, hp => by
  obtain ⟨d', e, h0⟩ := hp 0 f rfl
  simp at e; subst e
  have := fsizes_le K l ds (by simpa using h) fun i g hg => by simpa using hp (i + 1) g (by simpa using hg)
  rw [K.cons]; simp only [fsizes]; omega
theorem trod_forms (T : FormTypes P tI tS tL tF) (K : Bulk B Bs) : ∀ fuel : Nat,
  (∀ cs d ps, DataW.trod enc P W 0 (fun _ => true) true fuel tF cs = some (d, ps) →
   ∃ f : Fm, cs.length = 4 ∧ (∀ (j : Nat) y v, (Pl.enc f).cells[j]? = some y → cs[j]? = some v → CellRep W y v) ∧ fsize f ≤ B d) ∧
  (∀ cs d ps, DataW.trod enc P W 0 (fun _ => true) true fuel tL cs = some (d, ps) →
   ∃ v nl l, cs = [v] ∧ CellRep W (.sl nl 4 (encs l)) v ∧ fsizes l + 1 ≤ B d) := by
 intro fuel
 induction fuel with
 | zero => exact ⟨fun cs d ps h => by simp [DataW.trod] at h, fun cs d ps h => by simp [DataW.trod] at h⟩
 | succ fuel ih =>
  have step : ∀ m, m ≤ fuel → (∀ cs d ps, DataW.trod enc P W 0 (fun _ => true) true m tF cs = some (d, ps) →
   ∃ f : Fm, cs.length = 4 ∧ (∀ (j : Nat) y v, (Pl.enc f).cells[j]? = some y → cs[j]? = some v → CellRep W y v) ∧ fsize f ≤ B d) ∧
   (∀ cs d ps, DataW.trod enc P W 0 (fun _ => true) true m tL cs = some (d, ps) → ∃ v nl l, cs = [v] ∧ CellRep W (.sl nl 4 (encs l)) v ∧ fsizes l + 1 ≤ B d) := fun m hm =>
   ⟨fun cs d ps h => ih.1 cs d ps (DataW.trod_le hm h), fun cs d ps h => ih.2 cs d ps (DataW.trod_le hm h)⟩
  constructor
  ·intro cs d ps h
   obtain ⟨f0, f1, f2, f3, hF, t0, t1, t2, t3, o0, o1, o2, o3⟩ := T.F
   obtain ⟨xs, n, hn, hx, hcl, hxl, hget⟩ := DataW.trod_struct hF h
   rw [T.cF] at hcl
   obtain ⟨c0, c1, c2, c3, rfl⟩ := fourth hcl
   obtain ⟨x0, x1, x2, x3, rfl⟩ := fourth (show xs.length = 4 by simpa using hxl)
   have g0 := hget 0 f0 rfl
   have g1 := hget 1 f1 rfl
   have g2 := hget 2 f2 rfl
   have g3 := hget 3 f3 rfl
   rw [t0, o0, T.cI] at g0
   rw [t1, o1, T.cI] at g1
   rw [t2, o2, T.cS] at g2
   rw [t3, o3, T.cL] at g3
   simp only [List.drop_zero, List.drop_succ_cons, List.take_succ_cons, List.take_zero, List.getElem?_cons_zero, List.getElem?_cons_succ] at g0 g1 g2 g3
   obtain ⟨k, e0, r0, _⟩ := DataW.trod_int T.I g0
   obtain ⟨m, e1, r1, _⟩ := DataW.trod_int T.I g1
   obtain ⟨s, e2, r2, _⟩ := DataW.trod_string T.S g2
   obtain ⟨d3, p3⟩ := x3
   obtain ⟨v, nl, l, e3, hv, hb⟩ := (step n (by omega)).2 _ _ _ g3
   simp only [List.cons.injEq, and_true] at e0 e1 e2 e3
   subst e0 e1 e2 e3 r0 r1 r2
   simp only [Prod.mk.injEq] at hx
   refine ⟨.mk k m s.data.toList nl l, rfl, fun j y u hy hu => ?_, ?_⟩
   ·simp only [Pl.enc, V.cells] at hy
    match j with
    | 0 => simp at hy hu; subst hy; subst hu; exact cellRep_int W _ _
    | 1 => simp at hy hu; subst hy; subst hu; exact cellRep_int W _ _
    | 2 =>
     simp at hy hu; subst hy; subst hu
     exact ⟨by simpa using Rep.str (g := gh0 W) s.data.toList, rfl⟩
    | 3 => simp at hy hu; subst hy; subst hu; exact hv
    | j + 4 => simp at hy
   ·rw [hx.1, K.agg]
    simp only [List.map_cons, List.map_nil, K.cons, K.none, K.lit, K.str, fsize]
    omega
  ·intro cs d ps h
   rcases DataW.trod_slice T.L h with ⟨rfl, hx⟩ | ⟨a, len, cap, elems, rest, n, hn, rfl, hx, _, hl, hm, hlen, hel, hsp, _⟩
   ·simp only [Prod.mk.injEq] at hx
    refine ⟨_, true, [], rfl, ⟨.slNil 4, rfl⟩, ?_⟩
    rw [hx.1, K.nil]; simp [fsizes]
   ·simp only [Nat.succ_eq_add_one, Nat.add_right_cancel_iff] at hn
    subst hn
    obtain ⟨hrl, hre⟩ := hsp rfl
    have one : ∀ i x, (W.cells? 0 (a.add (i * P.cellsOf tF)) (P.cellsOf tF)).bind (DataW.trod enc P W 0 (fun _ => true) true fuel tF) = some x →
      (i = 0 → a.spot = none) ∧ ∃ f : Fm, (∀ (j : Nat) y, (Pl.enc f).cells[j]? = some y → ∃ c, W.cell? (a.add (i * 4 + j)) = some c ∧ CellRep W y c) ∧ fsize f ≤ B x.1 := by
     intro i x hi
     obtain ⟨cs', h1, h2⟩ := Option.bind_eq_some_iff.1 hi
     obtain ⟨d, ps⟩ := x
     obtain ⟨f, q1, q2, q3⟩ := ih.1 cs' d ps h2
     rw [T.cF] at h1
     obtain ⟨_, _, hc⟩ := World.cells?_some h1
     have hj : ∀ j, j < 4 → ∃ c, cs'[j]? = some c ∧ W.cell? (a.add (i * 4 + j)) = some c := fun j hj => by
      have := hc j hj
      rw [add_add'] at this
      exact ⟨cs'[j], by simp [q1, hj], by rw [this]; simp [q1, hj]⟩
     refine ⟨?_, f, fun j y hy => ?_, q3⟩
     ·rintro rfl
      obtain ⟨c, _, e⟩ := hj 0 (by omega)
      have := spot_of_cell e
      simpa [Addr.add] using this
     ·have hlt : j < 4 := by
       have := (List.getElem?_eq_some_iff.1 hy).1
       rwa [enc_cells_length] at this
      obtain ⟨c, e1, e2⟩ := hj j hlt
      exact ⟨c, e2, q2 j y c hy e1⟩
    have hx1 : d = .slice (elems.map (·.1)) (rest.map (·.1)) := (Prod.mk.inj hx).1
    have spot : cap = 0 ∨ a.spot = none := by
     rcases Nat.eq_zero_or_pos cap with h0 | h0
     ·exact .inl h0
     ·right
      rcases Nat.eq_zero_or_pos len with h1 | h1
      ·subst h1
       have := hre 0 (by omega)
       rw [List.getElem?_eq_getElem (by omega)] at this
       exact (one _ _ this).1 rfl
      ·have := hel 0 h1
       rw [List.getElem?_eq_getElem (by omega)] at this
       exact (one _ _ this).1 rfl
    obtain ⟨l, hll, hlf⟩ := collect (p := fun i f => (∀ (j : Nat) y, (Pl.enc f).cells[j]? = some y → ∃ c, W.cell? (a.add (i * 4 + j)) = some c ∧ CellRep W y c) ∧ ∃ x, elems[i]? = some x ∧ fsize f ≤ B x.1) len (fun i hi => by
     have := hel i hi
     rw [List.getElem?_eq_getElem (by omega)] at this
     obtain ⟨_, f, q1, q2⟩ := one _ _ this
     exact ⟨f, q1, elems[i], by simp, q2⟩)
    have hbulk : fsizes l ≤ Bs (elems.map (·.1)) := fsizes_le K l (elems.map (·.1)) (by simp [hll, hlen]) fun i f hf => by
     obtain ⟨_, x, e1, e2⟩ := hlf i f hf
     exact ⟨x.1, by simp [e1], e2⟩
    refine ⟨_, false, l, rfl, ⟨?_, rfl⟩, ?_⟩
    ·rcases spot with h0 | h0
     ·subst h0
      have h1 : len = 0 := by omega
      subst h1
      obtain rfl : l = [] := List.eq_nil_of_length_eq_zero hll
      exact .slE 4 a
     ·obtain ⟨b, o, sp⟩ := a
      simp only at h0
      subst h0
      have hlen' : len = (encs l).length := by rw [encs_length, hll]
      rw [hlen']
      have cell : ∀ (i : Nat) (x : V) (j : Nat) (y : V), (encs l)[i]? = some x → x.cells[j]? = some y → ∃ c, W.cell? ⟨b, o + i * 4 + j, none⟩ = some c ∧ CellRep W y c := fun i x j y hx hy => by
       rw [encs_get, Option.map_eq_some_iff] at hx
       obtain ⟨f, hf, rfl⟩ := hx
       obtain ⟨c, e1, e2⟩ := (hlf i f hf).1 j y hy
       rw [add_none'] at e1
       exact ⟨c, by rw [Nat.add_assoc]; exact e1, e2⟩
      refine .sl 4 _ b o cap (fun i j => (W.cell? ⟨b, o + i * 4 + j, none⟩).getD undef) (by omega) (fun i x hx => ?_) (fun i x j y hx hy => ?_) (fun i x j y hx hy => ?_) (fun i x j y hx hy => ?_)
      ·rw [encs_get, Option.map_eq_some_iff] at hx
       obtain ⟨f, _, rfl⟩ := hx
       exact enc_cells_length f
      ·obtain ⟨c, e1, e2⟩ := cell i x j y hx hy
       show W.cell? ⟨b, o + i * 4 + j, none⟩ = _
       rw [e1]; rfl
      ·obtain ⟨c, e1, e2⟩ := cell i x j y hx hy
       show ((W.cell? ⟨b, o + i * 4 + j, none⟩).getD undef).oneCell' = true
       rw [e1]; exact e2.2
      ·obtain ⟨c, e1, e2⟩ := cell i x j y hx hy
       show Rep _ y ((W.cell? ⟨b, o + i * 4 + j, none⟩).getD undef)
       rw [e1]; exact e2.1
    ·rw [hx1, K.slice]; omega
end
end Go.Pl
end
section
namespace Go.Pl
open Go.RowKit Go.ChangeShapes
theorem Ext.below {W W' : World} {g' : Gh} (h : Ext (gh0 W) W g' W') : Below W.heap.size W W' :=
 ⟨h.os, h.tape, h.output, h.size, fun k hk => h.block k hk fun i l e => by cases e⟩
theorem Pure.top {P : Program} {f : Nat} {args : List V} {v : V} (h : Pure P f args st0 v) {W : World} {vals : Array Value} (hT : Lib.TabIs P W "strings.asciiSpace" .u8 Lib.asciiSpaceTab) (hr : Reps (gh0 W) args vals) :
  Calls P f vals W fun e W' => ∃ val, e = .returned val ∧ (∃ g', Rep g' v val) ∧ Below W.heap.size W W' := by
 refine ((h.run st0 (St.le_refl _)).run (gh0 W) W vals (sim0 W) ⟨rfl, ⟨hT, fun _ _ i l e => by cases e⟩⟩ hr).mono ?_
 rintro e W' ⟨g', S', ae, hx, hs, _, he, rfl, rfl⟩
 cases e with
 | returned val => exact ⟨val, rfl, ⟨g', he.1⟩, hx.below⟩
 | panicked c => exact he.elim
 | outgrown => exact he.elim
theorem rep_bool {g : Gh} {b : Bool} {val : Value} (h : Rep g (.bool b) val) : val = .bool b := by cases h; rfl
theorem post_of_below {H : Type} {enc : TypeId × Value → H} {P : Program} {f : Func} {s : ChangeSpec} {apart fresh handsOn again : Bool} {W W' : World} {args : Array Value} {v : Value} {ds gs : List (DataW H)} {before pa pv : List MemPlace}
  (hW : DataW.Whole enc P f.params.toList s.vars apart W args.toList ds gs before)
  (hres : ∀ (b : Nat) (sp : Nat → Bool) (hd : Bool), DataW.TrodAll enc P W' b sp hd f.resultTypes.toList (v.resultList f.resultTypes.size) (s.fn H (ds ++ gs)).results [])
  (hargs : ∀ sp : Nat → Bool, (∀ p ∈ before, sp p.block = true) → DataW.TrodAll enc P W' 0 sp true f.params.toList args.toList (s.fn H (ds ++ gs)).args pa)
  (hvars : ∀ sp : Nat → Bool, (∀ p ∈ before, sp p.block = true) → DataW.TrodVars enc P W' sp s.vars (s.fn H (ds ++ gs)).vars pv)
  (hps : before = pa ++ pv) (hb : Below W.heap.size W W')
  (hok : ∀ (j : Nat) (t : TypeId) (r : Value), f.resultTypes[j]? = some t → (v.resultList f.resultTypes.size)[j]? = some r → Value.okWide P W' .any 0 t r) :
  s.post enc P f apart fresh handsOn again W args v W' := by
 have hold : ∀ p ∈ before, (fun b => decide (b < W.heap.size)) p.block = true := fun p hp => by simpa using hW.lt p hp
 have hlt : ∀ p ∈ before, p.block < W.heap.size := fun p hp => by simpa using hW.lt p hp
 refine ⟨ds, gs, before, [], pa, pv, hW, hres _ _ _, hargs _ hold, hvars _ hold, World.keptBut_mono (fun p hp => ⟨hp, ?_⟩) (hb.frame (· ∈ before)), fun _ => ?_⟩
 ·rw [hps, List.mem_append] at hp
  exact Or.inr hp
 ·obtain ⟨_, _, _, _, _, hz, hn⟩ := hW
  refine ⟨hok, _, _, ([] ++ pa) ++ pv, ⟨[] ++ pa, pv, trodAll_append (hargs _ (fun _ _ => rfl)) (hres _ _ _), hvars _ (fun _ _ => rfl), rfl, ?_, ?_⟩, ?_⟩
  ·intro b off hp
   have hp' : MemPlace.cell b off ∈ before := by rw [hps]; simpa using hp
   rw [hb.frozen (p := ⟨b, off, none⟩) (hlt _ hp')]
   exact hz b off hp'
  ·intro ha
   have := hn ha
   rw [hps] at this
   simpa using this
  ·intro p hp _
   rw [hps]
   simpa using hp
end Go.Pl
end
section
namespace Go.Pl
open Go.RowKit
theorem Ext.of_below (g : Gh) {w w' : World} (hb : Below w.heap.size w w') : Ext g w g w' :=
 ⟨.refl g, hb.os, hb.tape, hb.output, hb.size, fun b hlt _ => hb.block b hlt, fun _ _ _ h => .inl h, fun _ _ _ h => .inl h, rfl, fun _ _ _ h => h⟩
theorem SimW.below {g : Gh} {S : St} {w w' : World} (h : SimW g S w) (hb : Below w.heap.size w w') : SimW g S w' where
 mem b o v hv := by
  have hm := h.mem b o v hv
  have := World.block_lt_of_cell? _ _ hm
  rw [World.cell?_of_block (w := w) (w' := w') (a := ⟨b, o, none⟩) (hb.block b this)]; exact hm
 box i k x hx := by
  obtain ⟨b, o, h1, h2, h3⟩ := h.box i k x hx
  exact ⟨b, o, h1, by rw [hb.block b (h.locB i k b h1)]; exact h2, h3⟩
 inj := h.inj
 boxM := h.boxM
 locB i k b hi := Nat.lt_of_lt_of_le (h.locB i k b hi) hb.size
 fresh := h.fresh
theorem Pure_shelf {P : Program} {f : Nat} {args : List V} {v : V} (hgo : isGo P f = true) (hg : v.isGr = false)
  (h : ∀ (g : Gh) (S : St) (w : World) (vals : Array Value), SimW g S w → Tab P g w → Reps g args vals → Calls P f vals w fun e w' => ∃ val, e = .returned val ∧ Rep g v val ∧ Below w.heap.size w w') (S : St) : Pure P f args S v := by
 refine ⟨fun S' _ => ⟨hgo, fun g w vals hs hB hr => (h g S' w vals hs hB.tab hr).mono ?_⟩⟩
 rintro e w' ⟨val, rfl, hrep, hb⟩
 exact ⟨g, S', .ret v, .of_below g hb, hs.below hb, ⟨Nat.le_refl _, rfl⟩, ⟨hrep, .of_not hg⟩, rfl, rfl⟩
theorem Pure_shelfRow {P : Program} {f : Nat} {args : List V} {v : V} (hgo : isGo P f = true) (hg : v.isGr = false)
  (h : ∀ (g : Gh) (S : St) (w : World) (vals : Array Value), SimW g S w → Tab P g w → Reps g args vals → Calls P f vals w fun e w' => ∃ val b cur e', e = .returned val ∧ Below w.heap.size w w' ∧ w.heap.size ≤ b ∧
   w'.heap[b]? = some (.cells cur e' (0, 0)) ∧ Rep (g.addM b cur) v val) (S : St) : Pure P f args S v := by
 refine ⟨fun S' _ => ⟨hgo, fun g w vals hs hB hr => (h g S' w vals hs hB.tab hr).mono ?_⟩⟩
 rintro e w' ⟨val, b, cur, e', rfl, hb, hlt, hcur, hrep⟩
 have hM : ∀ k c, g.M b k = some c → cur[k]? = some c := fun k c hk => by
  have := World.block_lt_of_cell? _ _ (hs.mem _ _ _ hk)
  simp at this; omega
 refine ⟨g.addM b cur, S', .ret v, (Ext.refl g w).tell hM hlt hb.os hb.tape hb.output hb.size (fun k _ hk => hb.block k hk), hs.tell hM hcur (fun _ _ hk => hk) (fun i k hi => ?_) hb.size (fun k _ hk => hb.block k hk), ⟨Nat.le_refl _, rfl⟩, ⟨hrep, .of_not hg⟩, rfl, rfl⟩
 have := hs.locB i k b hi
 omega
theorem reps1 {g : Gh} {x : V} {vals : Array Value} (h : Reps g [x] vals) : ∃ v, vals = #[v] ∧ Rep g x v := by
 obtain ⟨h1, h2⟩ := h
 have : vals.size = 1 := by simpa using h1.symm
 refine ⟨vals[0], ?_, h2 0 x _ rfl (by simp [this])⟩
 apply Array.ext
 ·simp [this]
 ·intro i hi _
  have : i = 0 := by omega
  subst this; rfl
theorem reps2 {g : Gh} {x y : V} {vals : Array Value} (h : Reps g [x, y] vals) : ∃ v u, vals = #[v, u] ∧ Rep g x v ∧ Rep g y u := by
 obtain ⟨h1, h2⟩ := h
 have : vals.size = 2 := by simpa using h1.symm
 refine ⟨vals[0], vals[1], ?_, h2 0 x _ rfl (by simp [this]), h2 1 y _ rfl (by simp [this])⟩
 apply Array.ext
 ·simp [this]
 ·intro i hi _
  match i with
  | 0 => rfl
  | 1 => rfl
  | i + 2 => omega
theorem rep_str {g : Gh} {s : List UInt8} {v : Value} (h : Rep g (.str s) v) : v = .string ⟨s.toArray⟩ := by cases h; rfl
theorem rep_int {g : Gh} {k : IntKind} {n : Int} {v : Value} (h : Rep g (.int k n) v) : v = .int k n := by cases h; rfl
section
open Go.Shelf Go.Proofs
variable {P : Program} {ρ : Ren}
theorem pFields (L : LaysM.n157 P ρ) (hgo : isGo P (ρ.f 157) = true) (s : List UInt8) (hs : s.length < 4294967281) (ha : ∀ b ∈ s, b.toNat < 128) (S : St) :
  Pure P (ρ.f 157) [.str s] S (.sl false 1 ((Lib.fields s).map .str)) := by
 refine Pure_shelfRow hgo rfl (fun g S w vals hs' ht hr => ?_) S
 obtain ⟨v, rfl, hv⟩ := reps1 hr
 obtain rfl := rep_str hv
 refine (Any.strings_Fields_laid L ⟨s.toArray⟩ w (show s.toArray.size < _ by simpa using hs) (fun j b hb => ha b (List.mem_of_getElem? (by simpa using hb))) ht.is).mono ?_
 rintro e w' ⟨rfl, rfl⟩
 refine ⟨_, w.heap.size, _, _, rfl, (Below.refl _ _).alloc (Nat.le_refl _) _, Nat.le_refl _, heap_alloc_new _ _, ?_⟩
 simp only [List.toList_toArray]
 have hl : (Lib.fields s).length = ((Lib.fields s).map V.str).length := by simp
 rw [show (Value.slice (some ⟨w.heap.size, 0, none⟩) (Lib.fields s).length (Lib.fields s).length) = Value.slice (some ⟨w.heap.size, 0, none⟩) ((Lib.fields s).map V.str).length (Lib.fields s).length by rw [← hl]]
 refine .sl 1 _ w.heap.size 0 _ (fun i _ => .string ⟨((Lib.fields s).getD i []).toArray⟩) (by simp) (fun i x hx => ?_) (fun i x j y hx hy => ?_) (fun i x j y hx hy => rfl) (fun i x j y hx hy => ?_)
 ·simp only [List.getElem?_map, Option.map_eq_some_iff] at hx
  obtain ⟨t, _, rfl⟩ := hx; rfl
 ·simp only [List.getElem?_map, Option.map_eq_some_iff] at hx
  obtain ⟨t, ht, rfl⟩ := hx
  have hj : j = 0 := by
   have := (List.getElem?_eq_some_iff.1 hy).1
   simp [V.cells] at this; exact this
  subst hj
  simp [Gh.addM, ht]
 ·simp only [List.getElem?_map, Option.map_eq_some_iff] at hx
  obtain ⟨t, ht, rfl⟩ := hx
  have hj : j = 0 := by
   have := (List.getElem?_eq_some_iff.1 hy).1
   simp [V.cells] at this; exact this
  subst hj
  simp only [V.cells, List.getElem?_cons_zero, Option.some.injEq] at hy
  subst hy
  simp only [List.getD_eq_getElem?_getD, ht, Option.getD_some]
  exact .str t
theorem pTrimPrefix (L : Lays.n101 P ρ) (hgo : isGo P (ρ.f 101) = true) (s p : List UInt8) (S : St) : Pure P (ρ.f 101) [.str s, .str p] S (.str (Lib.trimPrefix s p)) := by
 refine Pure_shelf hgo rfl (fun g S w vals hs' ht hr => ?_) S
 obtain ⟨v, u, rfl, hv, hu⟩ := reps2 hr
 obtain rfl := rep_str hv
 obtain rfl := rep_str hu
 refine (Any.strings_TrimPrefix L ⟨s.toArray⟩ ⟨p.toArray⟩ w).mono ?_
 rintro e w' ⟨rfl, rfl⟩
 exact ⟨_, rfl, .str _, .refl _ _⟩
theorem pIndexByte (L : Lays.n137 P ρ) (hgo : isGo P (ρ.f 137) = true) (s : List UInt8) (c : Int) (S : St) : Pure P (ρ.f 137) [.str s, .int .u8 c] S (.int .i64 (Lib.indexByte s c.toNat.toUInt8)) := by
 refine Pure_shelf hgo rfl (fun g S w vals hs' ht hr => ?_) S
 obtain ⟨v, u, rfl, hv, hu⟩ := reps2 hr
 obtain rfl := rep_str hv
 obtain rfl := rep_int hu
 refine (Any.strings_IndexByte L ⟨s.toArray⟩ c w).mono ?_
 rintro e w' ⟨rfl, rfl⟩
 exact ⟨_, rfl, .int _ _, .refl _ _⟩
theorem pTrim (L : Lays.n160 P ρ) (hgo : isGo P (ρ.f 160) = true) (h116 : (P.info? (ρ.t 116)).map (fun i => (i.zero, i.size)) = some (some (.agg (Array.replicate 256 (.bool false))), 256)) (s cs : List UInt8) (hs : s.length ≤ 1000000000)
  (hcs : cs.length ≤ 100) (ha : cs.all (fun b => decide (b.toNat < 128)) = true) (S : St) : Pure P (ρ.f 160) [.str s, .str cs] S (.str (Lib.trimS s cs)) := by
 refine Pure_shelf hgo rfl (fun g S w vals hs' ht hr => ?_) S
 obtain ⟨v, u, rfl, hv, hu⟩ := reps2 hr
 obtain rfl := rep_str hv
 obtain rfl := rep_str hu
 refine (Any.strings_Trim_laid L h116 ⟨s.toArray⟩ ⟨cs.toArray⟩ w (show s.toArray.size ≤ _ by simp; omega) (show cs.toArray.size < _ by simp; omega) (ascii_of_all ha)).mono ?_
 rintro e w' ⟨rfl, hb⟩
 exact ⟨_, rfl, .str _, hb⟩
theorem predGrows {p : Nat → Bool} {f : Nat} (h : ∀ x : Nat, x ≤ 1114111 → Pure P f [.int .i32 x] st0 (.bool (p x))) {w : World} {g : Gh} (ht : Tab P g w) : PredGrows P f #[] p w := by
 intro W x hx hb
 have htW : Tab P (gh0 w) W := Tab.ext ⟨ht.is, fun _ _ i k e => by cases e⟩ (Ext.of_below (gh0 w) hb)
 refine ((h x hx).top htW.is (vals := #[.int .i32 x]) ⟨rfl, fun j y v hy hv => ?_⟩).mono ?_
 ·match j with
  | 0 => simp at hy hv; subst hy; subst hv; exact .int _ _
  | j + 1 => simp at hy
 rintro e w' ⟨val, rfl, ⟨g', hrep⟩, hbel⟩
 obtain rfl := rep_bool hrep
 exact ⟨rfl, hbel⟩
theorem pContainsFunc (L : LaysGw.n17 P ρ) (hgo : isGo P (ρ.f 17) = true) (s : List UInt8) (f : Nat) (p : Nat → Bool) (eg : ∀ args w, (callFunc f args).run P w = .ok (.enter f args) w)
  (h : ∀ x : Nat, x ≤ 1114111 → ∀ S, Pure P f [.int .i32 x] S (.bool (p x))) (S : St) : Pure P (ρ.f 17) [.str s, .fn f []] S (.bool (decide (0 ≤ Lib.idxFunc p true ⟨s.toArray⟩))) := by
 refine Pure_shelf hgo rfl (fun g S w vals hs' ht hr => ?_) S
 obtain ⟨v, u, rfl, hv, hu⟩ := reps2 hr
 obtain rfl := rep_str hv
 have : u = .func (.func f) #[] #[] := by
  cases hu with
  | fn _ _ vs hl _ =>
   have : vs = #[] := by apply Array.eq_empty_of_size_eq_zero; simpa using hl.symm
   rw [this]
 subst this
 refine (Any.strings_ContainsFunc_grows L f #[] eg p ⟨s.toArray⟩ w (predGrows (fun x hx => h x hx st0) ht)).mono ?_
 rintro e w' ⟨rfl, hb⟩
 exact ⟨_, rfl, .bool _, hb⟩
end
end Go.Pl
end
