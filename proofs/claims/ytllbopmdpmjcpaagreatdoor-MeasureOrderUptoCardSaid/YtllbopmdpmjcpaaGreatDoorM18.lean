import Derived.Test.YtllbopmdpmjcpaaGreatDoorM13
import Derived.Test.YtllbopmdpmjcpaaGreatDoorM14
import Derived.Test.YtllbopmdpmjcpaaGreatDoorM17
set_option linter.unusedSimpArgs false
set_option linter.unusedVariables false
set_option linter.unusedSectionVars false
section
open Go Go.Pl Go.Proofs
namespace Go.Pl.Z
set_option maxRecDepth 100000
def keyV : List Fm → V
 | [] => .sl true 4 []
 | f :: r => .gr 24 false 4 (encs (f :: r))
theorem keyV_refs (l : List Fm) (p : Nat → Nat → Bool) : (keyV l).refsB p := by
 cases l with
 | nil => simp only [keyV, V.refsB, V.refsBs]
 | cons f r => simp only [keyV, V.refsB]; exact encs_refsB p _
theorem w_appE {O : Ops} (hO : O = Ops.std) (l : List Fm) (f : Fm) : O.app (encs l) [enc f] = encs (l ++ [f]) := by
 subst hO; simp [Ops.std, encs_append, encs]
theorem w_fitE {O : Ops} (hO : O = Ops.std) (l : List Fm) (x : V) (hl : l.length ≤ 1000000000) : O.fit 56 (encs l) [x] = true := w_fit hO ⟨by rw [encs_length]; simp; omega, by rw [encs_length]; simp; omega⟩
theorem keyV_snoc (l : List Fm) (f : Fm) : keyV (l ++ [f]) = .gr 24 false 4 (encs (l ++ [f])) := by
 cases l <;> rfl
def fstF (p : Fm) : Fm := p.kids.getD 0 default
def sndF (p : Fm) : Fm := p.kids.getD 1 default
theorem w33 (P : Program) (nl : Bool) (l : List Fm) (hl : l.length ≤ 1000000000) (hk : ∀ p ∈ l, 0 < p.kids.length) : Walks P F33 [.sl nl 4 (encs l)] (keyV (l.map fstF)) := by
 intro H n b' c O hO hw
 have hL := w_lenE hO l
 have gL := w_getE hO l
 obtain ⟨L, eL⟩ : ∃ L : Int, L = l.length := ⟨_, rfl⟩
 rw [← eL] at hL
 have rL := encs_refsB (frameS H n O hO []).ok l
 generalize encs l = xs at hL gL rL ⊢
 generalize hv : keyV (l.map fstF) = v
 (try cbv;repeat (simp only [w_same hO,hL];try cbv))
 refine AW_loopT (A := Nat × Int) (fun a => [(3, keyV ((l.take a.1).map fstF)), (6, .sl nl 4 xs), (7, .int .i64 L), (8, .int .i64 a.2)]) (fun _ => frameS H n O hO [])
  (fun a => a.2 = a.1 ∧ a.1 ≤ l.length) (fun a => l.length - a.1) (0, 0) ⟨rfl, Nat.zero_le _⟩
  (Drops.tab hw (Nat.le_refl _) [] (fun _ _ _ => rfl) trivial (by simp only [tabOk]; exact ⟨.inl rfl, keyV_refs _ _, .inl rfl, rL, .inl rfl, trivial, .inl rfl, trivial, trivial⟩)) ?_
 rintro ⟨i, j⟩ ⟨hj, hi⟩ K hK
 simp only at hj hi hK ⊢
 replace hj : j = (i : Int) := hj
 replace eL : L = (l.length : Int) := eL
 by_cases hlt : i < l.length
 ·have e1 : O.ilt j L = true := w_ilt_t hO (by omega)
  have g1 : O.get xs j = some (enc l[i]) := gL i j hj hlt
  have hki := hk l[i] (List.getElem_mem hlt)
  have htk : (l.take (i + 1)).map fstF = (l.take i).map fstF ++ [fstF l[i]] := by rw [List.take_add_one, List.getElem?_eq_getElem hlt]; simp only [Option.toList_some, List.map_append, List.map_cons, List.map_nil]
  have hlen : ((l.take i).map fstF).length ≤ 1000000000 := by simp; omega
  have hKn := fun σ' S' a' h1 h2 h3 => hK σ' S' (i + 1, a') (show l.length - (i + 1) < l.length - i by omega) ⟨h1, h2⟩ h3
  simp only [htk] at hKn
  clear hK gL htk hk
  generalize l[i] = f at g1 hki hKn
  generalize (l.take i).map fstF = ks at hlen hKn ⊢
  obtain ⟨fk, fm, ft, fn, fl⟩ := f
  have hk0 : ∃ g r, fl = g :: r := by cases fl with
   | nil => simp [Fm.kids] at hki
   | cons g r => exact ⟨g, r, rfl⟩
  obtain ⟨g, r, rfl⟩ := hk0
  have ef : fstF (.mk fk fm ft fn (g :: r)) = g := rfl
  rw [ef] at hKn
  simp only [enc, encs] at g1
  obtain ⟨gk, gm, gt, gn, gl⟩ := g
  have hsn := keyV_snoc ks (.mk gk gm gt gn gl)
  have ha := w_appE hO ks (.mk gk gm gt gn gl)
  have hft := w_fitE hO ks (enc (.mk gk gm gt gn gl)) hlen
  simp only [enc] at g1 ha hft
  have rK : (keyV (ks ++ [.mk gk gm gt gn gl])).refsB (frameS H n O hO []).ok := keyV_refs _ _
  rw [hsn] at rK
  simp only [hsn] at hKn
  generalize encs r = rs at g1
  generalize encs gl = gs at g1 ha hft
  generalize encs (ks ++ [.mk gk gm gt gn gl]) = kx' at ha rK hKn
  have g2 := w_get0 hO (.agg [.int .i64 gk, .int .i64 gm, .str gt, .sl gn 4 gs]) rs
  have hgood : O.good 4 [.agg [.int .i64 gk, .int .i64 gm, .str gt, .sl gn 4 gs]] = true := w_good1 hO rfl rfl (by decide)
  obtain ⟨j', hj'⟩ : ∃ j', j' = j + 1 := ⟨_, rfl⟩
  have hadd := w_add hO (a := j) (b := 1) (by omega) (by omega)
  rw [← hj'] at hadd
  clear hsn
  cases ks with
  | nil =>
   simp only [encs] at ha hft
   simp only [keyV]
   (try cbv;repeat (simp only [w_same hO,e1,g1,g2,hgood,hadd,ha,hft,w_emp_c hO];try cbv))
   replace hj' : j' = j + 1 := hj'
   replace hj : j = (i : Int) := hj
   refine hKn _ _ j' (by omega : j' = ((i + 1 : Nat) : Int)) (by omega) (Drops.tab hw (Nat.le_refl _) [] (fun i k hne => ?_) trivial (by simp only [tabOk]; exact ⟨.inl rfl, rK, .inl rfl, rL, .inl rfl, trivial, .inl rfl, trivial, trivial⟩))
   simp (disch := first | exact hne | decide) only [upd2_above hO]; rfl
  | cons k0 kr =>
   simp only [keyV]
   generalize encs (k0 :: kr) = kx at ha hft ⊢
   (try cbv;repeat (simp only [w_same hO,e1,g1,g2,hgood,hadd,ha,hft];try cbv))
   replace hj' : j' = j + 1 := hj'
   replace hj : j = (i : Int) := hj
   refine hKn _ _ j' (by omega : j' = ((i + 1 : Nat) : Int)) (by omega) (Drops.tab hw (Nat.le_refl _) [] (fun i k hne => ?_) trivial (by simp only [tabOk]; exact ⟨.inl rfl, rK, .inl rfl, rL, .inl rfl, trivial, .inl rfl, trivial, trivial⟩))
   simp (disch := first | exact hne | decide) only [upd2_above hO]; rfl
 ·have e1 : O.ilt j L = false := w_ilt_f hO (by omega)
  have : l.take i = l := List.take_of_length_le (by omega)
  rw [this, hv]
  (try cbv;repeat (simp only [w_same hO,e1];try cbv))
  (intro i k x hx;have hne:=WFS.ne hw i k x hx;first|exact hx|(simp (disch:=assumption) only [w_upd2_ne hO];exact hx))
theorem w61 (P : Program) (nl : Bool) (l : List Fm) (hl : l.length ≤ 1000000000) (hk : ∀ p ∈ l, 1 < p.kids.length) : Walks P F61 [.sl nl 4 (encs l)] (keyV (l.map sndF)) := by
 intro H n b' c O hO hw
 have hL := w_lenE hO l
 have gL := w_getE hO l
 obtain ⟨L, eL⟩ : ∃ L : Int, L = l.length := ⟨_, rfl⟩
 rw [← eL] at hL
 have rL := encs_refsB (frameS H n O hO []).ok l
 generalize encs l = xs at hL gL rL ⊢
 generalize hv : keyV (l.map sndF) = v
 (try cbv;repeat (simp only [w_same hO,hL];try cbv))
 refine AW_loopT (A := Nat × Int) (fun a => [(3, keyV ((l.take a.1).map sndF)), (6, .sl nl 4 xs), (7, .int .i64 L), (8, .int .i64 a.2)]) (fun _ => frameS H n O hO [])
  (fun a => a.2 = a.1 ∧ a.1 ≤ l.length) (fun a => l.length - a.1) (0, 0) ⟨rfl, Nat.zero_le _⟩
  (Drops.tab hw (Nat.le_refl _) [] (fun _ _ _ => rfl) trivial (by simp only [tabOk]; exact ⟨.inl rfl, keyV_refs _ _, .inl rfl, rL, .inl rfl, trivial, .inl rfl, trivial, trivial⟩)) ?_
 rintro ⟨i, j⟩ ⟨hj, hi⟩ K hK
 simp only at hj hi hK ⊢
 replace hj : j = (i : Int) := hj
 replace eL : L = (l.length : Int) := eL
 by_cases hlt : i < l.length
 ·have e1 : O.ilt j L = true := w_ilt_t hO (by omega)
  have g1 : O.get xs j = some (enc l[i]) := gL i j hj hlt
  have hki := hk l[i] (List.getElem_mem hlt)
  have htk : (l.take (i + 1)).map sndF = (l.take i).map sndF ++ [sndF l[i]] := by rw [List.take_add_one, List.getElem?_eq_getElem hlt]; simp only [Option.toList_some, List.map_append, List.map_cons, List.map_nil]
  have hlen : ((l.take i).map sndF).length ≤ 1000000000 := by simp; omega
  have hKn := fun σ' S' a' h1 h2 h3 => hK σ' S' (i + 1, a') (show l.length - (i + 1) < l.length - i by omega) ⟨h1, h2⟩ h3
  simp only [htk] at hKn
  clear hK gL htk hk
  generalize l[i] = f at g1 hki hKn
  generalize (l.take i).map sndF = ks at hlen hKn ⊢
  obtain ⟨fk, fm, ft, fn, fl⟩ := f
  have hk0 : ∃ y g r, fl = y :: g :: r := by
   match fl, hki with
   | [], h => simp [Fm.kids] at h
   | [_], h => simp [Fm.kids] at h
   | y :: g :: r, _ => exact ⟨y, g, r, rfl⟩
  obtain ⟨y, g, r, rfl⟩ := hk0
  have ef : sndF (.mk fk fm ft fn (y :: g :: r)) = g := rfl
  rw [ef] at hKn
  simp only [enc, encs] at g1
  obtain ⟨gk, gm, gt, gn, gl⟩ := g
  have hsn := keyV_snoc ks (.mk gk gm gt gn gl)
  have ha := w_appE hO ks (.mk gk gm gt gn gl)
  have hft := w_fitE hO ks (enc (.mk gk gm gt gn gl)) hlen
  simp only [enc] at g1 ha hft
  have rK : (keyV (ks ++ [.mk gk gm gt gn gl])).refsB (frameS H n O hO []).ok := keyV_refs _ _
  rw [hsn] at rK
  simp only [hsn] at hKn
  generalize encs r = rs at g1
  generalize enc y = yv at g1
  generalize encs gl = gs at g1 ha hft
  generalize encs (ks ++ [.mk gk gm gt gn gl]) = kx' at ha rK hKn
  have g2 := w_get1 hO yv (.agg [.int .i64 gk, .int .i64 gm, .str gt, .sl gn 4 gs]) rs
  have hgood : O.good 4 [.agg [.int .i64 gk, .int .i64 gm, .str gt, .sl gn 4 gs]] = true := w_good1 hO rfl rfl (by decide)
  obtain ⟨j', hj'⟩ : ∃ j', j' = j + 1 := ⟨_, rfl⟩
  have hadd := w_add hO (a := j) (b := 1) (by omega) (by omega)
  rw [← hj'] at hadd
  clear hsn
  cases ks with
  | nil =>
   simp only [encs] at ha hft
   simp only [keyV]
   (try cbv;repeat (simp only [w_same hO,e1,g1,g2,hgood,hadd,ha,hft,w_emp_c hO];try cbv))
   replace hj' : j' = j + 1 := hj'
   replace hj : j = (i : Int) := hj
   refine hKn _ _ j' (by omega : j' = ((i + 1 : Nat) : Int)) (by omega) (Drops.tab hw (Nat.le_refl _) [] (fun i k hne => ?_) trivial (by simp only [tabOk]; exact ⟨.inl rfl, rK, .inl rfl, rL, .inl rfl, trivial, .inl rfl, trivial, trivial⟩))
   simp (disch := first | exact hne | decide) only [upd2_above hO]; rfl
  | cons k0 kr =>
   simp only [keyV]
   generalize encs (k0 :: kr) = kx at ha hft ⊢
   (try cbv;repeat (simp only [w_same hO,e1,g1,g2,hgood,hadd,ha,hft];try cbv))
   replace hj' : j' = j + 1 := hj'
   replace hj : j = (i : Int) := hj
   refine hKn _ _ j' (by omega : j' = ((i + 1 : Nat) : Int)) (by omega) (Drops.tab hw (Nat.le_refl _) [] (fun i k hne => ?_) trivial (by simp only [tabOk]; exact ⟨.inl rfl, rK, .inl rfl, rL, .inl rfl, trivial, .inl rfl, trivial, trivial⟩))
   simp (disch := first | exact hne | decide) only [upd2_above hO]; rfl
 ·have e1 : O.ilt j L = false := w_ilt_f hO (by omega)
  have : l.take i = l := List.take_of_length_le (by omega)
  rw [this, hv]
  (try cbv;repeat (simp only [w_same hO,e1];try cbv))
  (intro i k x hx;have hne:=WFS.ne hw i k x hx;first|exact hx|(simp (disch:=assumption) only [w_upd2_ne hO];exact hx))
end Go.Pl.Z
end
section
open Go Go.Pl Go.Proofs
namespace Go.Pl.Z
set_option maxRecDepth 100000
theorem v_sub {O : Ops} (hO : O = Ops.std) {a b : Int} (h : -9223372036854775808 ≤ a - b) (h' : a - b ≤ 9223372036854775807) : O.iop .sub .i64 a .i64 b = some (.int .i64 (a - b)) := by
 subst hO
 have : IntKind.i64.wrap (a - b) = a - b := by
  simp [IntKind.wrap, IntKind.bits, IntKind.signed]
  omega
 simp [Ops.std, binOp, Op.intArith, this, absS]
 rfl
def ascB : List Fm → Bool
 | [] => true
 | [_] => true
 | a :: b :: r => bif decide (0 ≤ cmpF a b) then false else ascB (b :: r)
theorem w52 (P : Program) (nl : Bool) (l : List Fm) (hl : l.length ≤ 1000000000) (h43 : ∀ f ∈ l, ∀ g S, Pl.Pure P 43 [enc f, enc g] S (.int .i64 (cmpF f g))) : Walks P F52 [.sl nl 4 (encs l)] (.bool (ascB l)) := by
 intro H n b' c O hO hw
 have hL := w_lenE hO l
 have gL := w_getE hO l
 obtain ⟨L, eL⟩ : ∃ L : Int, L = l.length := ⟨_, rfl⟩
 rw [← eL] at hL
 have rL := encs_refsB (frameS H n O hO []).ok l
 generalize encs l = xs at hL gL rL ⊢
 generalize hv : ascB l = v
 (try cbv;repeat (simp only [w_same hO];try cbv))
 refine AW_loopT (A := Nat × Int) (fun a => [(0, .sl nl 4 xs), (3, .int .i64 a.2)]) (fun _ => frameS H n O hO [])
  (fun a => a.2 = ((a.1 + 1 : Nat) : Int) ∧ a.1 ≤ l.length ∧ v = ascB (l.drop a.1)) (fun a => l.length - a.1) (0, 1) ⟨rfl, Nat.zero_le _, hv.symm⟩
  (Drops.tab hw (Nat.le_refl _) [] (fun _ _ _ => rfl) trivial (by simp only [tabOk, V.refsB]; exact ⟨.inl rfl, rL, .inl rfl, trivial, trivial⟩)) ?_
 rintro ⟨i, j⟩ ⟨hj, hi, hin⟩ K hK
 simp only at hj hi hin hK
 replace hj : j = ((i + 1 : Nat) : Int) := hj
 replace eL : L = (l.length : Int) := eL
 by_cases hlt : i + 1 < l.length
 ·have e1 : O.ilt j L = true := w_ilt_t hO (by omega)
  obtain ⟨q, hq⟩ : ∃ q, q = j - 1 := ⟨_, rfl⟩
  have e2 := v_sub hO (a := j) (b := 1) (by omega) (by omega)
  rw [← hq] at e2
  have g1 : O.get xs q = some (enc l[i]) := gL i q (by omega : q = ((i : Nat) : Int)) (by omega)
  have g2 : O.get xs j = some (enc l[i + 1]) := gL (i + 1) j hj hlt
  have hp : ∀ S, Pl.Pure P 43 [enc l[i], enc l[i + 1]] S (.int .i64 (cmpF l[i] l[i + 1])) := h43 l[i] (List.getElem_mem (by omega)) l[i + 1]
  have hd : l.drop i = l[i] :: l[i + 1] :: l.drop (i + 2) := by rw [List.drop_eq_getElem_cons (by omega), List.drop_eq_getElem_cons hlt]
  have hd2 : l.drop (i + 1) = l[i + 1] :: l.drop (i + 2) := List.drop_eq_getElem_cons hlt
  rw [hd] at hin
  simp only [ascB] at hin
  rw [← hd2] at hin
  have e3 := v_ile hO 0 (cmpF l[i] l[i + 1])
  clear gL h43 hd hd2
  generalize l[i] = f at g1 hin hp e3
  generalize l[i + 1] = g at g2 hin hp e3
  generalize cmpF f g = d at hin hp e3
  generalize decide (0 ≤ d) = t at hin e3
  obtain ⟨fk, fm, ft, fn, fl⟩ := f
  obtain ⟨gk, gm, gt, gn, gl⟩ := g
  simp only [enc] at g1 g2 hp
  generalize encs fl = ys at g1 hp
  generalize encs gl = zs at g2 hp
  obtain ⟨j', hj'⟩ : ∃ j', j' = j + 1 := ⟨_, rfl⟩
  have hadd := w_add hO (a := j) (b := 1) (by omega) (by omega)
  rw [← hj'] at hadd
  cases t
  ·simp only [cond_false] at hin
   (try cbv;repeat (simp only [w_same hO,hL,e1,e2,g1,g2];try cbv))
   refine ⟨_, hp _, ?_⟩
   (try cbv;repeat (simp only [w_same hO,e3,hadd];try cbv))
   replace hj' : j' = j + 1 := hj'
   replace hj : j = ((i + 1 : Nat) : Int) := hj
   exact hK _ _ (i + 1, j') (by show l.length - (i + 1) < l.length - i; omega) ⟨(by omega : j' = ((i + 1 + 1 : Nat) : Int)), (by omega : i + 1 ≤ l.length), hin⟩
    (Drops.tab hw (Nat.le_refl _) [] (fun i k hne => rfl) trivial (by simp only [tabOk, V.refsB]; exact ⟨.inl rfl, rL, .inl rfl, trivial, trivial⟩))
  ·simp only [cond_true] at hin
   rw [hin]
   (try cbv;repeat (simp only [w_same hO,hL,e1,e2,g1,g2];try cbv))
   refine ⟨_, hp _, ?_⟩
   (try cbv;repeat (simp only [w_same hO,e3];try cbv))
   (intro i k x hx;have hne:=WFS.ne hw i k x hx;first|exact hx|(simp (disch:=assumption) only [w_upd2_ne hO];exact hx))
 ·have e1 : O.ilt j L = false := w_ilt_f hO (by omega)
  have : ascB (l.drop i) = true := by
   have h1 : (l.drop i).length ≤ 1 := by simp; omega
   match hd : l.drop i, h1 with
   | [], _ => rfl
   | [_], _ => rfl
  rw [this] at hin
  rw [hin]
  (try cbv;repeat (simp only [w_same hO,hL,e1];try cbv))
  (intro i k x hx;have hne:=WFS.ne hw i k x hx;first|exact hx|(simp (disch:=assumption) only [w_upd2_ne hO];exact hx))
theorem w84 (P : Program) (f : Fm) (v : Bool) (h27 : ∀ S, Pl.Pure P 27 [enc f] S (.bool v)) : Walks P F84 [enc f] (.bool (!v)) := by
 intro H n b' c O hO hw
 cases f
 simp only [enc] at h27 ⊢
 generalize encs _ = xs at h27 ⊢
 generalize hr : (!v) = r
 (try cbv;repeat (simp only [w_same hO];try cbv))
 refine Pure.go (h27 _) ?_
 subst hr
 cases v <;> ((try cbv;repeat (simp only [w_same hO];try cbv)); (intro i k x hx;have hne:=WFS.ne hw i k x hx;first|exact hx|(simp (disch:=assumption) only [w_upd2_ne hO];exact hx)))
theorem w51 (P : Program) (nl : Bool) (xs : List V) (v : Bool) (h19 : ∀ S, Pl.Pure P 19 [.sl nl 4 xs, .fn 84 []] S (.bool v)) : Walks P F51 [.sl nl 4 xs] (.bool (!v)) := by
 intro H n b' c O hO hw
 generalize hr : (!v) = r
 (try cbv;repeat (simp only [w_same hO];try cbv))
 refine Pure.go (h19 _) ?_
 subst hr
 cases v <;> ((try cbv;repeat (simp only [w_same hO];try cbv)); (intro i k x hx;have hne:=WFS.ne hw i k x hx;first|exact hx|(simp (disch:=assumption) only [w_upd2_ne hO];exact hx)))
end Go.Pl.Z
end
section
open Go Go.Pl Go.Proofs
namespace Go.Pl.Z
set_option maxRecDepth 100000
def bagBad (p : Fm) : Bool := !decide ((sndF p).kind = 0) || decide ((sndF p).n < 1)
theorem two_kids {l : List Fm} (h : 1 < l.length) : ∃ y g r, l = y :: g :: r := by
 match l, h with
 | [], h => simp at h
 | [_], h => simp at h
 | y :: g :: r, _ => exact ⟨y, g, r, rfl⟩
theorem w54 (P : Program) (p : Fm) (hk : 1 < p.kids.length) : Walks P F54 [enc p] (.bool (bagBad p)) := by
 intro H n b' c O hO hw
 obtain ⟨fk, fm, ft, fn, fl⟩ := p
 obtain ⟨y, g, r, hfl⟩ := two_kids hk
 simp only [Fm.kids] at hfl
 subst hfl
 obtain ⟨gk, gm, gt, gn, gl⟩ := g
 have hv : bagBad (.mk fk fm ft fn (y :: .mk gk gm gt gn gl :: r)) = (!decide (gk = 0) || decide (gm < 1)) := rfl
 rw [hv]
 clear hv hk
 have e1 := v_ieq hO gk 0
 have e2 := v_ilt hO gm 1
 simp only [enc, encs]
 generalize encs r = rs
 generalize enc y = yv
 generalize encs gl = gs
 have g2 := w_get1 hO yv (.agg [.int .i64 gk, .int .i64 gm, .str gt, .sl gn 4 gs]) rs
 generalize decide (gk = 0) = b1 at e1 ⊢
 generalize decide (gm < 1) = b2 at e2 ⊢
 cases b1
 ·(try cbv;repeat (simp only [w_same hO,g2,e1];try cbv))
  (intro i k x hx;have hne:=WFS.ne hw i k x hx;first|exact hx|(simp (disch:=assumption) only [w_upd2_ne hO];exact hx))
 ·cases b2 <;> ((try cbv;repeat (simp only [w_same hO,g2,e1,e2];try cbv)); (intro i k x hx;have hne:=WFS.ne hw i k x hx;first|exact hx|(simp (disch:=assumption) only [w_upd2_ne hO];exact hx)))
theorem p55v (P : Program) (fn : Func) (hm : P.follows .mixedOrders = true) (hf : P.funcs[55]? = some fn) (hgo : isGo P 55 = true) (hc : compFn P fn = some F55)
  (p d : Fm) (nl : Bool) (ds : List Fm) (hk : 1 < p.kids.length) (i : Nat) (S : St) (hS : S.H i 1 = some (.sl nl 4 (encs (d :: ds))))
  (h20 : ∀ S, Pl.Pure P 20 [enc (sndF p), enc d] S (.bool (decide (cmpF (sndF p) d = 0)))) : Pl.Pure P 55 [enc p, .ref i 1 0] S (.bool (decide (cmpF (sndF p) d = 0))) := by
 refine Pure_of_vc hm hf hgo hc (Nat.le_of_ble_eq_true rfl) (by simp only [V.refsB]) fun S' hle hw => ?_
 have hS' := hle.1 _ _ _ hS
 clear hS hle
 obtain ⟨H, n, b, c, O, hO⟩ := S'
 have hne := WFS.ne hw i 1 _ hS'
 simp only at hS'
 have e0 : O.same i n = false := w_same_f hO hne
 obtain ⟨fk, fm, ft, fn, fl⟩ := p
 obtain ⟨y, g, r, hfl⟩ := two_kids hk
 simp only [Fm.kids] at hfl
 subst hfl
 have hsnd : sndF (.mk fk fm ft fn (y :: g :: r)) = g := rfl
 rw [hsnd] at h20 ⊢
 clear hsnd hk
 generalize decide (cmpF g d = 0) = t at h20 ⊢
 obtain ⟨gk, gm, gt, gn, gl⟩ := g
 obtain ⟨dk, dm, dt, dn, dl⟩ := d
 simp only [enc, encs] at h20 hS' ⊢
 generalize encs r = rs
 generalize enc y = yv
 generalize encs gl = gs at h20 ⊢
 generalize encs dl = ls at h20 hS'
 generalize encs ds = us at hS'
 have g2 := w_get1 hO yv (.agg [.int .i64 gk, .int .i64 gm, .str gt, .sl gn 4 gs]) rs
 have g3 := w_get0 hO (.agg [.int .i64 dk, .int .i64 dm, .str dt, .sl dn 4 ls]) us
 simp only [St.enter]
 (try cbv;repeat (simp only [w_same hO,e0,hS',g2,g3];try cbv))
 refine ⟨_, h20 _, ?_⟩
 (try cbv;repeat (simp only [w_same hO];try cbv))
 (intro i k x hx;have hne:=WFS.ne hw i k x hx;first|exact hx|(simp (disch:=assumption) only [w_upd2_ne hO];exact hx))
def pairB (W : Fm → Bool) (p : Fm) : Bool := decide (p.kind = 3) && (decide ((p.kids.length : Int) = 2) && (W (fstF p) && W (sndF p)))
def pairsB (W : Fm → Bool) (l : List Fm) : Bool := l.all (pairB W) && ascB (l.map fstF)
def keyP : List Fm → V
 | [] => .sl true 4 []
 | f :: r => .sl false 4 (encs (f :: r))
theorem w53 (P : Program) (W : Fm → Bool) (nl : Bool) (l : List Fm) (hl : l.length ≤ 1000000000) (h27 : ∀ p ∈ l, ∀ g ∈ p.kids, ∀ S, Pl.Pure P 27 [enc g] S (.bool (W g)))
  (h52 : l.all (pairB W) = true → ∀ S, Pl.Pure P 52 [keyP (l.map fstF)] S (.bool (ascB (l.map fstF)))) : Walks P F53 [.sl nl 4 (encs l)] (.bool (pairsB W l)) := by
 intro H n b' c O hO hw
 have hL := w_lenE hO l
 have gL := w_getE hO l
 obtain ⟨L, eL⟩ : ∃ L : Int, L = l.length := ⟨_, rfl⟩
 rw [← eL] at hL
 have rL := encs_refsB (frameS H n O hO []).ok l
 generalize encs l = xs at hL gL rL ⊢
 generalize hv : pairsB W l = v
 unfold pairsB at hv
 (try cbv;repeat (simp only [w_same hO,hL];try cbv))
 refine AW_loopT (A := Nat × Int) (fun a => [(3, keyV ((l.take a.1).map fstF)), (6, .sl nl 4 xs), (7, .int .i64 L), (8, .int .i64 a.2)]) (fun _ => frameS H n O hO [])
  (fun a => a.2 = a.1 ∧ a.1 ≤ l.length ∧ (l.take a.1).all (pairB W) = true) (fun a => l.length - a.1) (0, 0) ⟨rfl, Nat.zero_le _, rfl⟩
  (Drops.tab hw (Nat.le_refl _) [] (fun _ _ _ => rfl) trivial (by simp only [tabOk]; exact ⟨.inl rfl, keyV_refs _ _, .inl rfl, rL, .inl rfl, trivial, .inl rfl, trivial, trivial⟩)) ?_
 rintro ⟨i, j⟩ ⟨hj, hi, hall⟩ K hK
 simp only at hj hi hall hK ⊢
 replace hj : j = (i : Int) := hj
 replace eL : L = (l.length : Int) := eL
 by_cases hlt : i < l.length
 ·have e1 : O.ilt j L = true := w_ilt_t hO (by omega)
  have g1 : O.get xs j = some (enc l[i]) := gL i j hj hlt
  have hp := h27 l[i] (List.getElem_mem hlt)
  have hmem : l[i] ∈ l := List.getElem_mem hlt
  have htk : (l.take (i + 1)).map fstF = (l.take i).map fstF ++ [fstF l[i]] := by rw [List.take_add_one, List.getElem?_eq_getElem hlt]; simp only [Option.toList_some, List.map_append, List.map_cons, List.map_nil]
  have hall' : pairB W l[i] = true → (l.take (i + 1)).all (pairB W) = true := fun h => by
   rw [List.take_add_one, List.getElem?_eq_getElem hlt]
   simp only [Option.toList_some, List.all_append, hall, List.all_cons, h, List.all_nil, Bool.and_self]
  have hbad : pairB W l[i] = false → v = false := fun h => by
   rw [← hv]
   have : l.all (pairB W) = false := by
    rw [List.all_eq_false]
    exact ⟨l[i], hmem, by rw [h]; simp⟩
   rw [this]; rfl
  have hlen : ((l.take i).map fstF).length ≤ 1000000000 := by simp; omega
  have hKn := fun σ' S' a' h1 h2 hal h3 => hK σ' S' (i + 1, a') (show l.length - (i + 1) < l.length - i by omega) ⟨h1, h2, hall' hal⟩ h3
  simp only [htk] at hKn
  clear hK gL htk h27 h52 hall hall' hmem hv
  generalize l[i] = f at g1 hp hKn hbad
  generalize (l.take i).map fstF = ks at hlen hKn ⊢
  obtain ⟨fk, fm, ft, fn, fl⟩ := f
  have hx := w_lenE hO fl
  have epk : pairB W (.mk fk fm ft fn fl) = (decide (fk = 3) && (decide ((fl.length : Int) = 2) && (W (fstF (.mk fk fm ft fn fl)) && W (sndF (.mk fk fm ft fn fl))))) := rfl
  by_cases h3 : fk = 3
  case neg =>
   have e2 : O.ieq fk 3 = false := w_ieq_f hO h3
   have ev := hbad (by rw [epk, decide_eq_false h3]; rfl)
   simp only [enc] at g1
   generalize encs fl = ys at g1
   rw [ev]
   (try cbv;repeat (simp only [w_same hO,e1,g1,e2];try cbv))
   (intro i k x hx;have hne:=WFS.ne hw i k x hx;first|exact hx|(simp (disch:=assumption) only [w_upd2_ne hO];exact hx))
  have e2 : O.ieq fk 3 = true := w_ieq_t hO h3
  obtain ⟨M, eM⟩ : ∃ M : Int, M = fl.length := ⟨_, rfl⟩
  rw [← eM] at hx
  by_cases h2 : M = 2
  case neg =>
   have e3 : O.ieq M 2 = false := w_ieq_f hO h2
   have ev := hbad (by rw [epk, ← eM, decide_eq_false h2]; simp)
   simp only [enc] at g1
   generalize encs fl = ys at g1 hx
   rw [ev]
   (try cbv;repeat (simp only [w_same hO,e1,g1,e2,hx,e3];try cbv))
   (intro i k x hx;have hne:=WFS.ne hw i k x hx;first|exact hx|(simp (disch:=assumption) only [w_upd2_ne hO];exact hx))
  have e3 : O.ieq M 2 = true := w_ieq_t hO h2
  obtain ⟨g, y, r, hfl⟩ := two_kids (show 1 < fl.length by omega)
  subst hfl
  have hg := hp g (by simp [Fm.kids])
  have hy := hp y (by simp [Fm.kids])
  have epk2 : pairB W (.mk fk fm ft fn (g :: y :: r)) = (W g && W y) := by rw [epk, decide_eq_true h3, ← eM, decide_eq_true h2]; rfl
  rw [epk2] at hbad hKn
  have ef : fstF (.mk fk fm ft fn (g :: y :: r)) = g := rfl
  rw [ef] at hKn
  clear hp epk epk2 ef
  generalize W g = wg at hg hbad hKn
  generalize W y = wy at hy hbad hKn
  simp only [enc, encs] at g1 hx
  obtain ⟨gk, gm, gt, gn, gl⟩ := g
  obtain ⟨yk, ym, yt, yn, yl⟩ := y
  have hsn := keyV_snoc ks (.mk gk gm gt gn gl)
  have ha := w_appE hO ks (.mk gk gm gt gn gl)
  have hft := w_fitE hO ks (enc (.mk gk gm gt gn gl)) hlen
  simp only [enc] at g1 ha hft hx hg hy
  have rK : (keyV (ks ++ [.mk gk gm gt gn gl])).refsB (frameS H n O hO []).ok := keyV_refs _ _
  rw [hsn] at rK
  simp only [hsn] at hKn
  generalize encs r = rs at g1 hx
  generalize encs gl = gs at g1 ha hft hx hg
  generalize encs yl = us at g1 hx hy
  generalize encs (ks ++ [.mk gk gm gt gn gl]) = kx' at ha rK hKn
  have g2 := w_get0 hO (.agg [.int .i64 gk, .int .i64 gm, .str gt, .sl gn 4 gs]) (.agg [.int .i64 yk, .int .i64 ym, .str yt, .sl yn 4 us] :: rs)
  have g3 := w_get1 hO (.agg [.int .i64 gk, .int .i64 gm, .str gt, .sl gn 4 gs]) (.agg [.int .i64 yk, .int .i64 ym, .str yt, .sl yn 4 us]) rs
  have hgood : O.good 4 [.agg [.int .i64 gk, .int .i64 gm, .str gt, .sl gn 4 gs]] = true := w_good1 hO rfl rfl (by decide)
  obtain ⟨j', hj'⟩ : ∃ j', j' = j + 1 := ⟨_, rfl⟩
  have hadd := w_add hO (a := j) (b := 1) (by omega) (by omega)
  rw [← hj'] at hadd
  clear hsn
  cases wg
  ·have ev := hbad rfl
   rw [ev]
   cases ks with
   | nil =>
    simp only [keyV]
    (try cbv;repeat (simp only [w_same hO,e1,g1,e2,hx,e3,g2];try cbv))
    refine Pure.go (hg _) ?_
    (try cbv;repeat (simp only [w_same hO];try cbv))
    (intro i k x hx;have hne:=WFS.ne hw i k x hx;first|exact hx|(simp (disch:=assumption) only [w_upd2_ne hO];exact hx))
   | cons k0 kr =>
    simp only [keyV]
    generalize encs (k0 :: kr) = kx
    (try cbv;repeat (simp only [w_same hO,e1,g1,e2,hx,e3,g2];try cbv))
    refine Pure.go (hg _) ?_
    (try cbv;repeat (simp only [w_same hO];try cbv))
    (intro i k x hx;have hne:=WFS.ne hw i k x hx;first|exact hx|(simp (disch:=assumption) only [w_upd2_ne hO];exact hx))
  cases wy
  ·have ev := hbad rfl
   rw [ev]
   cases ks with
   | nil =>
    simp only [keyV]
    (try cbv;repeat (simp only [w_same hO,e1,g1,e2,hx,e3,g2];try cbv))
    refine Pure.go (hg _) ?_
    (try cbv;repeat (simp only [w_same hO,g3];try cbv))
    refine Pure.go (hy _) ?_
    (try cbv;repeat (simp only [w_same hO];try cbv))
    (intro i k x hx;have hne:=WFS.ne hw i k x hx;first|exact hx|(simp (disch:=assumption) only [w_upd2_ne hO];exact hx))
   | cons k0 kr =>
    simp only [keyV]
    generalize encs (k0 :: kr) = kx
    (try cbv;repeat (simp only [w_same hO,e1,g1,e2,hx,e3,g2];try cbv))
    refine Pure.go (hg _) ?_
    (try cbv;repeat (simp only [w_same hO,g3];try cbv))
    refine Pure.go (hy _) ?_
    (try cbv;repeat (simp only [w_same hO];try cbv))
    (intro i k x hx;have hne:=WFS.ne hw i k x hx;first|exact hx|(simp (disch:=assumption) only [w_upd2_ne hO];exact hx))
  cases ks with
  | nil =>
   simp only [encs] at ha hft
   simp only [keyV]
   (try cbv;repeat (simp only [w_same hO,e1,g1,e2,hx,e3,g2];try cbv))
   refine Pure.go (hg _) ?_
   (try cbv;repeat (simp only [w_same hO,g3];try cbv))
   refine Pure.go (hy _) ?_
   (try cbv;repeat (simp only [w_same hO,g2,hgood,hadd,ha,hft,w_emp_c hO];try cbv))
   replace hj' : j' = j + 1 := hj'
   replace hj : j = (i : Int) := hj
   refine hKn _ _ j' (by omega : j' = ((i + 1 : Nat) : Int)) (by omega) rfl (Drops.tab hw (Nat.le_refl _) [] (fun i k hne => ?_) trivial (by simp only [tabOk]; exact ⟨.inl rfl, rK, .inl rfl, rL, .inl rfl, trivial, .inl rfl, trivial, trivial⟩))
   simp (disch := first | exact hne | decide) only [upd2_above hO]; rfl
  | cons k0 kr =>
   simp only [keyV]
   generalize encs (k0 :: kr) = kx at ha hft ⊢
   (try cbv;repeat (simp only [w_same hO,e1,g1,e2,hx,e3,g2];try cbv))
   refine Pure.go (hg _) ?_
   (try cbv;repeat (simp only [w_same hO,g3];try cbv))
   refine Pure.go (hy _) ?_
   (try cbv;repeat (simp only [w_same hO,g2,hgood,hadd,ha,hft];try cbv))
   replace hj' : j' = j + 1 := hj'
   replace hj : j = (i : Int) := hj
   refine hKn _ _ j' (by omega : j' = ((i + 1 : Nat) : Int)) (by omega) rfl (Drops.tab hw (Nat.le_refl _) [] (fun i k hne => ?_) trivial (by simp only [tabOk]; exact ⟨.inl rfl, rK, .inl rfl, rL, .inl rfl, trivial, .inl rfl, trivial, trivial⟩))
   simp (disch := first | exact hne | decide) only [upd2_above hO]; rfl
 ·have e1 : O.ilt j L = false := w_ilt_f hO (by omega)
  have : l.take i = l := List.take_of_length_le (by omega)
  rw [this] at hall ⊢
  have h5 := h52 hall
  rw [hall, Bool.true_and] at hv
  rw [hv] at h5
  clear h52 hv h27 gL
  generalize l.map fstF = ks at h5 ⊢
  cases ks with
  | nil =>
   simp only [keyV, keyP] at h5 ⊢
   (try cbv;repeat (simp only [w_same hO,e1];try cbv))
   refine Pure.go (h5 _) ?_
   (try cbv;repeat (simp only [w_same hO];try cbv))
   (intro i k x hx;have hne:=WFS.ne hw i k x hx;first|exact hx|(simp (disch:=assumption) only [w_upd2_ne hO];exact hx))
  | cons k0 kr =>
   simp only [keyV, keyP] at h5 ⊢
   generalize encs (k0 :: kr) = kx at h5 ⊢
   (try cbv;repeat (simp only [w_same hO,e1];try cbv))
   refine Pure.go (h5 _) ?_
   (try cbv;repeat (simp only [w_same hO];try cbv))
   (intro i k x hx;have hne:=WFS.ne hw i k x hx;first|exact hx|(simp (disch:=assumption) only [w_upd2_ne hO];exact hx))
end Go.Pl.Z
end
section
open Go Go.Pl Go.Proofs
namespace Go.Pl.Z
set_option maxRecDepth 100000
theorem fs_mem {l : List Fm} {g : Fm} (h : g ∈ l) : fsize g ≤ fsizes l := by
 induction l with
 | nil => cases h
 | cons a r ih =>
  simp only [fsizes]
  rcases List.mem_cons.1 h with rfl | h
  ·omega
  ·have := ih h; omega
theorem fs_pos (f : Fm) : 5 ≤ fsize f := by cases f; simp only [fsize]; omega
theorem fs_len (l : List Fm) : l.length ≤ fsizes l := by
 induction l with
 | nil => simp
 | cons a r ih => simp only [fsizes, List.length_cons]; have := fs_pos a; omega
theorem fs_kid {f g : Fm} (h : g ∈ f.kids) : fsize g + 5 ≤ fsize f := by
 obtain ⟨k, n, t, nl, l⟩ := f
 simp only [fsize]
 have := fs_mem (l := l) h
 omega
theorem fs_kids (f : Fm) : f.kids.length ≤ fsize f := by
 obtain ⟨k, n, t, nl, l⟩ := f
 simp only [fsize, Fm.kids]
 have := fs_len l
 omega
theorem fs_text (f : Fm) : f.text.length ≤ fsize f := by
 obtain ⟨k, n, t, nl, l⟩ := f
 simp only [fsize, Fm.text]
 omega
abbrev Fine (f : Fm) : Prop := fsize f ≤ 1048576
theorem Fine.kid {f g : Fm} (h : Fine f) (hg : g ∈ f.kids) : Fine g := by have := fs_kid hg; simp only [Fine] at *; omega
theorem Fine.kids {f : Fm} (h : Fine f) : f.kids.length ≤ 1000000000 := by have := fs_kids f; simp only [Fine] at *; omega
theorem Fine.text {f : Fm} (h : Fine f) : f.text.length ≤ 1000000000 := by have := fs_text f; simp only [Fine] at *; omega
theorem qI (k : IntKind) (n : Int) (p : Nat → Nat → Bool) : (V.int k n).refsB p := by simp only [V.refsB]
theorem qB (b : Bool) (p : Nat → Nat → Bool) : (V.bool b).refsB p := by simp only [V.refsB]
theorem p101 (a : Int) (S : St) : Pl.Pure Tryz.prog 101 [.int .i64 a] S (.bool false) := mkPure hm Tryz.func101 g101 c101 (Nat.le_of_ble_eq_true rfl) (qB _) (w101 _ a) S
theorem p102 (a : List UInt8) (S : St) : Pl.Pure Tryz.prog 102 [.str a] S (.bool false) := mkPure hm Tryz.func102 g102 c102 (Nat.le_of_ble_eq_true rfl) (qB _) (w102 _ a) S
theorem p76 (a b : Int) (S : St) : Pl.Pure Tryz.prog 76 [.int .i64 a, .int .i64 b] S (.int .i64 (cmpI a b)) := mkPure hm Tryz.func76 g76 c76 (Nat.le_of_ble_eq_true rfl) (qI _ _) (w76 _ a b p101) S
theorem p77 (a b : List UInt8) (S : St) : Pl.Pure Tryz.prog 77 [.str a, .str b] S (.int .i64 (cmpS a b)) := mkPure hm Tryz.func77 g77 c77 (Nat.le_of_ble_eq_true rfl) (qI _ _) (w77 _ a b p102) S
theorem p43 (f g : Fm) (h : Fine f) (S : St) : Pl.Pure Tryz.prog 43 [enc f, enc g] S (.int .i64 (cmpF f g)) :=
 mkPure hm Tryz.func43 g43 c43 (Nat.le_of_ble_eq_true rfl) (qI _ _) (w43 _ f g p76 p77 (fun S => mkPure hm Tryz.func78 g78 c78 (Nat.le_of_ble_eq_true rfl) (qI _ _) (w78 _ f.nl g.nl f.kids g.kids h.kids (fun a ha b S => p43 a b (h.kid ha) S)) S)) S
 termination_by fsize f
 decreasing_by have := fs_kid ha; omega
theorem p20 (f g : Fm) (h : Fine f) (S : St) : Pl.Pure Tryz.prog 20 [enc f, enc g] S (.bool (decide (cmpF f g = 0))) := mkPure hm Tryz.func20 g20 c20 (Nat.le_of_ble_eq_true rfl) (qB _) (w20 _ f g (p43 f g h)) S
theorem p104 (c : Int) (S : St) : Pl.Pure Tryz.prog 104 [.int .u8 c] S (.bool (outsideB c)) := mkPure hm Tryz.func104 g104 c104 (Nat.le_of_ble_eq_true rfl) (qB _) (w104 _ c (p127 brackets c)) S
theorem trimPrefix_le (s p : List UInt8) : (Lib.trimPrefix s p).length ≤ s.length := by
 unfold Lib.trimPrefix
 split <;> simp
theorem p103 (s : List UInt8) (hs : s.length ≤ 1000000000) (S : St) : Pl.Pure Tryz.prog 103 [.str s] S (.bool (numericB s)) :=
 mkPure hm Tryz.func103 g103 c103 (Nat.le_of_ble_eq_true rfl) (qB _) (w103 _ s (p125 s [45]) (p126 _ digits (Nat.le_trans (trimPrefix_le s [45]) hs) (by decide) (by decide))) S
theorem p105 (x : Nat) (S : St) : Pl.Pure Tryz.prog 105 [.int .i32 x] S (.bool (badRune x)) := mkPure hm Tryz.func105 g105 c105 (Nat.le_of_ble_eq_true rfl) (qB _) (w105 _ x) S
theorem e105 (args : Array Value) (w : World) : (callFunc 105 args).run Tryz.prog w = .ok (.enter 105 args) w := callFunc_run (by kernel_rfl) args
theorem p83 (f : Fm) (h : Fine f) (S : St) : Pl.Pure Tryz.prog 83 [enc f] S (.bool (leafB f)) :=
 mkPure hm Tryz.func83 g83 c83 (Nat.le_of_ble_eq_true rfl) (qB _) (w83 _ f h.text (p103 f.text h.text) (fun b S => p104 _ S) (p87 f.text 105 badRune e105 (fun x _ S => p105 x S))) S
theorem a50 (f : Fm) (hf : Fine f) (p d : Int) (S : St) (i : Nat) (hp : 0 ≤ p) (hp2 : p ≤ 20000) (hd : 0 ≤ d) (hd2 : d ≤ 100) (hS : S.H i 1 = some (.int .i64 p)) :
  ACalls Tryz.prog 50 [enc f, .ref i 1 0, .int .i64 d] S fun e S' => e = .ret (.bool (validF p d f).1) ∧ S' = S.set i 1 (.int .i64 (validF p d f).2) :=
 ACalls_of_vc hm Tryz.func50 g50 c50 (Nat.le_of_ble_eq_true rfl) (w50 _ f p d S i hp hp2 hd hd2 hS hf.kids (p83 f hf) (fun g hg p d S h1 h2 h3 h4 h5 => a50 g (hf.kid hg) p d S i h1 h2 h3 h4 h5))
 termination_by fsize f
 decreasing_by have := fs_kid hg; omega
def validB (f : Fm) : Bool := (validF 20000 100 f).1
theorem w26 (P : Program) (f : Fm) (r : Bool) (q : Int) (h50 : ∀ S i, S.H i 1 = some (.int .i64 20000) → ACalls P 50 [enc f, .ref i 1 0, .int .i64 100] S fun e S' => e = .ret (.bool r) ∧ S' = S.set i 1 (.int .i64 q)) :
  Walks P F26 [enc f] (.bool r) := by
 intro H n b c O hO hw
 cases f
 simp only [enc] at h50 ⊢
 generalize encs _ = xs at h50 ⊢
 (try cbv;repeat (simp only [w_same hO];try cbv))
 refine ACalls.mono (h50 _ n ?_) ?_
 ·simp only [upd2_eq hO, and_self, if_true]
 rintro e S' ⟨rfl, rfl⟩
 (try cbv;repeat (simp only [w_same hO];try cbv))
 (intro i k x hx;have hne:=WFS.ne hw i k x hx;first|exact hx|(simp (disch:=assumption) only [w_upd2_ne hO];exact hx))
theorem p26 (f : Fm) (hf : Fine f) (S : St) : Pl.Pure Tryz.prog 26 [enc f] S (.bool (validB f)) :=
 mkPure hm Tryz.func26 g26 c26 (Nat.le_of_ble_eq_true rfl) (qB _) (w26 _ f _ _ (fun S i h => a50 f hf 20000 100 S i (by decide) (by decide) (by decide) (by decide) h)) S
end Go.Pl.Z
end
section
open Go Go.Pl
namespace Go.Pl.Z
theorem bl_trans : ∀ (a b c : List UInt8), Op.bytesLess a b = true → Op.bytesLess b c = true → Op.bytesLess a c = true
 | _, [], _, h, _ => by simp [Op.bytesLess] at h
 | _, _ :: _, [], _, h => by simp [Op.bytesLess] at h
 | [], _ :: _, _ :: _, _, _ => by simp [Op.bytesLess]
 | a :: x, b :: y, c :: z, h1, h2 => by
  simp only [Op.bytesLess, Bool.or_eq_true, decide_eq_true_eq, Bool.and_eq_true, beq_iff_eq] at h1 h2 ⊢
  rcases h1 with h1 | ⟨rfl, h1⟩ <;> rcases h2 with h2 | ⟨rfl, h2⟩
  ·exact .inl (UInt8.lt_trans h1 h2)
  ·exact .inl h1
  ·exact .inl h2
  ·exact .inr ⟨rfl, bl_trans x y z h1 h2⟩
theorem bl_total : ∀ (a b : List UInt8), Op.bytesLess a b = false → Op.bytesLess b a = false → a = b
 | [], [], _, _ => rfl
 | [], _ :: _, h, _ => by simp [Op.bytesLess] at h
 | _ :: _, [], _, h => by simp [Op.bytesLess] at h
 | a :: x, b :: y, h1, h2 => by
  simp only [Op.bytesLess, Bool.or_eq_false_iff, decide_eq_false_iff_not, Bool.and_eq_false_iff, beq_eq_false_iff_ne] at h1 h2
  have e : a = b := by
   have k1 := UInt8.not_lt.1 h1.1
   have k2 := UInt8.not_lt.1 h2.1
   exact UInt8.le_antisymm k2 k1
  subst e
  rw [bl_total x y (by simpa using h1.2) (by simpa using h2.2)]
theorem bl_irr : ∀ (a : List UInt8), Op.bytesLess a a = false
 | [] => rfl
 | a :: x => by simp [Op.bytesLess, bl_irr x]
theorem cmpS_flip (a b : List UInt8) : cmpS b a = - cmpS a b := by
 unfold cmpS
 by_cases h : a = b
 ·subst h; simp [bl_irr]
 ·cases h1 : Op.bytesLess a b <;> cases h2 : Op.bytesLess b a
  ·exact (h (bl_total a b h1 h2)).elim
  ·simp [h]
  ·have e : ¬ b = a := fun e => h e.symm
   simp [e]
  ·have := bl_trans a b a h1 h2; rw [bl_irr] at this; cases this
theorem cmpS_le (a b : List UInt8) : cmpS a b ≤ 0 ↔ Op.bytesLess a b = true ∨ a = b := by
 unfold cmpS
 cases h1 : Op.bytesLess a b
 ·by_cases h : a = b <;> simp [h]
 ·simp
theorem cmpS_trans {a b c : List UInt8} (h1 : cmpS a b ≤ 0) (h2 : cmpS b c ≤ 0) : cmpS a c ≤ 0 := by
 rw [cmpS_le] at *
 rcases h1 with h1 | rfl
 ·rcases h2 with h2 | rfl
  ·exact .inl (bl_trans a b c h1 h2)
  ·exact .inl h1
 ·exact h2
theorem cmpI_flip (a b : Int) : cmpI b a = - cmpI a b := by
 unfold cmpI; split <;> split <;> (try split) <;> omega
theorem cmpI_le (a b : Int) : cmpI a b ≤ 0 ↔ a ≤ b := by
 unfold cmpI; split <;> (try split) <;> omega
mutual
theorem cmpF_flip : ∀ (f g : Fm), cmpF g f = - cmpF f g
 | .mk k n t b l, .mk k' n' t' b' l' => by
  simp only [cmpF]
  by_cases h : k = k'
  ·subst h
   simp only [ne_eq, not_true_eq_false, if_false]
   split
   ·exact cmpI_flip n n'
   ·split
    ·exact cmpS_flip t t'
    ·split
     ·exact cmpL_flip l l'
     ·rfl
  ·rw [if_pos (fun e : k' = k => h e.symm), if_pos h]; exact cmpI_flip k k'
theorem cmpL_flip : ∀ (l m : List Fm), cmpL m l = - cmpL l m
 | [], [] => by simp [cmpL]
 | [], _ :: _ => by simp [cmpL]
 | _ :: _, [] => by simp [cmpL]
 | a :: r, b :: s => by
  have h1 := cmpF_flip a b
  have h2 := cmpL_flip r s
  simp only [cmpL]
  by_cases e : cmpF a b = 0
  ·rw [if_neg (by omega), if_neg (by omega)]; exact h2
  ·rw [if_pos (by omega), if_pos (by omega)]; exact h1
end
def Tr (a b c : Fm) : Prop := cmpF a b ≤ 0 → cmpF b c ≤ 0 → cmpF a c ≤ 0
theorem Tr.lt_le {a b c : Fm} (h : Tr b c a) (h1 : cmpF a b < 0) (h2 : cmpF b c ≤ 0) : cmpF a c < 0 := by
 apply Classical.byContradiction
 intro hn
 have := h h2 (by have := cmpF_flip a c; omega)
 have := cmpF_flip a b
 omega
theorem Tr.le_lt {a b c : Fm} (h : Tr c a b) (h1 : cmpF a b ≤ 0) (h2 : cmpF b c < 0) : cmpF a c < 0 := by
 apply Classical.byContradiction
 intro hn
 have := h (by have := cmpF_flip a c; omega) h1
 have := cmpF_flip b c
 omega
theorem cmpL_le_cons {a b : Fm} {r s : List Fm} : cmpL (a :: r) (b :: s) ≤ 0 ↔ cmpF a b < 0 ∨ cmpF a b = 0 ∧ cmpL r s ≤ 0 := by
 simp only [cmpL]
 by_cases e : cmpF a b = 0
 ·rw [if_neg (by omega)]; omega
 ·rw [if_pos (by omega)]; omega
theorem cmpL_trans : ∀ (l m p : List Fm), (∀ a ∈ l, ∀ b ∈ m, ∀ c ∈ p, Tr a b c ∧ Tr b c a ∧ Tr c a b) → cmpL l m ≤ 0 → cmpL m p ≤ 0 → cmpL l p ≤ 0
 | [], _, [], _, _, _ => by simp [cmpL]
 | [], _, _ :: _, _, _, _ => by simp [cmpL]
 | _ :: _, [], _, _, h, _ => by simp [cmpL] at h
 | _ :: _, _ :: _, [], _, _, h => by simp [cmpL] at h
 | a :: r, b :: s, c :: t, H, h1, h2 => by
  obtain ⟨t1, t2, t3⟩ := H a (by simp) b (by simp) c (by simp)
  rw [cmpL_le_cons] at *
  rcases h1 with h1 | ⟨h1, k1⟩
  ·exact .inl (t2.lt_le h1 (by omega))
  ·rcases h2 with h2 | ⟨h2, k2⟩
   ·exact .inl (t3.le_lt (by omega) h2)
   ·exact .inr ⟨Same.trans a b c h1 h2, cmpL_trans r s t (fun a ha b hb c hc => H a (by simp [ha]) b (by simp [hb]) c (by simp [hc])) k1 k2⟩
theorem cmpF_trans' : ∀ (n : Nat) (a b c : Fm), fsize a + fsize b + fsize c ≤ n → Tr a b c := by
 intro n
 induction n with
 | zero => intro a b c h; have := fs_pos a; omega
 | succ n ih =>
  rintro ⟨k, m, t, b, l⟩ ⟨k', m', t', b', l'⟩ ⟨k'', m'', t'', b'', l''⟩ hs h1 h2
  simp only [cmpF] at h1 h2 ⊢
  by_cases e1 : k = k'
  ·subst e1
   rw [if_neg (by simp)] at h1
   by_cases e2 : k = k''
   ·subst e2
    rw [if_neg (by simp)] at h2 ⊢
    by_cases c0 : k = 0
    ·rw [if_pos c0] at *
     rw [cmpI_le] at *; omega
    ·rw [if_neg c0] at *
     by_cases c1 : k = 1 ∨ k = 2
     ·rw [if_pos c1] at *; exact cmpS_trans h1 h2
     ·rw [if_neg c1] at *
      by_cases c3 : k = 3
      ·rw [if_pos c3] at *
       refine cmpL_trans l l' l'' (fun x hx y hy z hz => ?_) h1 h2
       have g1 := fs_kid (f := .mk k m t b l) hx
       have g2 := fs_kid (f := .mk k m' t' b' l') hy
       have g3 := fs_kid (f := .mk k m'' t'' b'' l'') hz
       exact ⟨ih _ _ _ (by omega), ih _ _ _ (by omega), ih _ _ _ (by omega)⟩
      ·rw [if_neg c3]; omega
   ·rw [if_pos e2] at h2 ⊢; exact h2
  ·rw [if_pos e1] at h1
   by_cases e2 : k' = k''
   ·subst e2; rw [if_pos e1]; exact h1
   ·rw [if_pos e2] at h2
    rw [cmpI_le] at h1 h2
    rw [if_pos (by omega), cmpI_le]; omega
theorem cmpF_trans {a b c : Fm} (h1 : cmpF a b ≤ 0) (h2 : cmpF b c ≤ 0) : cmpF a c ≤ 0 := cmpF_trans' _ a b c (Nat.le_refl _) h1 h2
theorem cmpF_lt_le {a b c : Fm} (h1 : cmpF a b < 0) (h2 : cmpF b c ≤ 0) : cmpF a c < 0 := Tr.lt_le (fun h1 h2 => cmpF_trans h1 h2) h1 h2
theorem cmpF_le_lt {a b c : Fm} (h1 : cmpF a b ≤ 0) (h2 : cmpF b c < 0) : cmpF a c < 0 := Tr.le_lt (fun h1 h2 => cmpF_trans h1 h2) h1 h2
end Go.Pl.Z
end
