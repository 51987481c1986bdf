import Derived.Test.YtllbopmdpmjcpaaGreatDoorM23
set_option linter.unusedSimpArgs false
set_option linter.unusedVariables false
set_option linter.unusedSectionVars false
open Go Go.Pl Go.Proofs
namespace Go.Pl.Z
set_option maxRecDepth 100000
def fallsB (Bl : Fm → Fm → Bool) : List Fm → List Fm → Bool
 | [], y => decide ((0 : Int) < (y.length : Int))
 | _ :: _, [] => false
 | a :: r, b :: s => bif eqF a b then fallsB Bl r s else Bl a b
set_option maxHeartbeats 2000000 in
theorem w8 (P : Program) (Bl : Fm → Fm → Bool) (nx ny : Bool) (x y : List Fm) (vx vy : Bool) (hx : x.length ≤ 1000000000) (hy : y.length ≤ 1000000000) (h19x : ∀ S, Pl.Pure P 19 [.sl nx 4 (encs x), .fn 18 []] S (.bool (!vx)))
  (h19y : ∀ S, Pl.Pure P 19 [.sl ny 4 (encs y), .fn 18 []] S (.bool (!vy))) (h20 : ∀ a ∈ x, ∀ b S, Pl.Pure P 20 [enc a, enc b] S (.bool (eqF a b)))
  (h15 : vx = true → vy = true → ∀ a ∈ x, ∀ b ∈ y, ∀ S, Pl.Pure P 15 [enc a, enc b] S (.bool (Bl a b))) : Walks P F8 [.sl nx 4 (encs x), .sl ny 4 (encs y)] (bothV (vx && vy) (fallsB Bl x y)) := by
 intro H n b' c O hO hw
 cases vx
 ·simp only [bothV, Bool.false_and, cond_false]
  generalize encs x = xs at h19x ⊢
  generalize encs y = ys
  (try cbv;repeat (simp only [w_same hO];try cbv))
  refine Pure.go (h19x _) ?_
  (try cbv;repeat (simp only [w_same hO];try cbv))
  (intro i k x hx;have hne:=WFS.ne hw i k x hx;first|exact hx|(simp (disch:=assumption) only [w_upd2_ne hO];exact hx))
 cases vy
 ·simp only [bothV, Bool.true_and, Bool.false_and, cond_false]
  generalize encs x = xs at h19x ⊢
  generalize encs y = ys at h19y ⊢
  (try cbv;repeat (simp only [w_same hO];try cbv))
  refine Pure.go (h19x _) ?_
  (try cbv;repeat (simp only [w_same hO];try cbv))
  refine Pure.go (h19y _) ?_
  (try cbv;repeat (simp only [w_same hO];try cbv))
  (intro i k x hx;have hne:=WFS.ne hw i k x hx;first|exact hx|(simp (disch:=assumption) only [w_upd2_ne hO];exact hx))
 have hb := h15 rfl rfl
 clear h15
 simp only [bothV, Bool.true_and, cond_true]
 generalize hv : fallsB Bl x y = v
 have hX := w_lenE hO x
 have hY := w_lenE hO y
 have gX := w_getE hO x
 have gY := w_getE hO y
 obtain ⟨LX, eX⟩ : ∃ L : Int, L = x.length := ⟨_, rfl⟩
 obtain ⟨LY, eY⟩ : ∃ L : Int, L = y.length := ⟨_, rfl⟩
 rw [← eX] at hX
 rw [← eY] at hY
 have rX := encs_refsB (frameS H n O hO []).ok x
 have rY := encs_refsB (frameS H n O hO []).ok y
 generalize encs x = xs at h19x hX gX rX ⊢
 generalize encs y = ys at h19y hY gY rY ⊢
 by_cases hlt : LY < LX
 ·have e0 : O.ilt LY LX = true := w_ilt_t hO hlt
  (try cbv;repeat (simp only [w_same hO];try cbv))
  refine Pure.go (h19x _) ?_
  (try cbv;repeat (simp only [w_same hO];try cbv))
  refine Pure.go (h19y _) ?_
  (try cbv;repeat (simp only [w_same hO,hX,hY,e0];try cbv))
  refine AW_loopT (A := Nat × Int) (fun a => [(0, .sl nx 4 xs), (1, .sl ny 4 ys), (20, .int .i64 LY), (21, .int .i64 a.2)]) (fun _ => frameS H n O hO [])
   (fun a => a.2 = a.1 ∧ a.1 ≤ x.length ∧ a.1 ≤ y.length ∧ v = fallsB Bl (x.drop a.1) (y.drop a.1)) (fun a => x.length - a.1) (0, 0) ⟨rfl, Nat.zero_le _, Nat.zero_le _, hv.symm⟩
   (Drops.tab hw (Nat.le_refl _) [] (fun _ _ _ => rfl) trivial (by simp only [tabOk, V.refsB]; exact ⟨.inl rfl, rX, .inl rfl, rY, .inl rfl, trivial, .inl rfl, trivial, trivial⟩)) ?_
  rintro ⟨i, j⟩ ⟨hj, hi, hi', hin⟩ K hK
  simp only at hj hi hi' hin hK
  replace hj : j = (i : Int) := hj
  replace eX : LX = (x.length : Int) := eX
  replace eY : LY = (y.length : Int) := eY
  by_cases hl : j < LY
  ·have e1 : O.ilt j LY = true := w_ilt_t hO hl
   have lx : i < x.length := by omega
   have ly : i < y.length := by omega
   have g1 : O.get xs j = some (enc x[i]) := gX i j hj lx
   have g2 : O.get ys j = some (enc y[i]) := gY i j hj ly
   have q20 : ∀ S, Pl.Pure P 20 [enc x[i], enc y[i]] S (.bool (eqF x[i] y[i])) := h20 x[i] (List.getElem_mem lx) y[i]
   have q15 : ∀ S, Pl.Pure P 15 [enc x[i], enc y[i]] S (.bool (Bl x[i] y[i])) := hb x[i] (List.getElem_mem lx) y[i] (List.getElem_mem ly)
   rw [List.drop_eq_getElem_cons lx, List.drop_eq_getElem_cons ly] at hin
   simp only [fallsB] at hin
   clear gX gY h20 hb h19x h19y
   generalize x[i] = f at g1 q20 q15 hin
   generalize y[i] = g at g2 q20 q15 hin
   generalize eqF f g = t at q20 hin
   generalize Bl f g = r at q15 hin
   obtain ⟨fk, fm, ft, fn, fl⟩ := f
   obtain ⟨gk, gm, gt, gn, gl⟩ := g
   simp only [enc] at g1 g2 q20 q15
   generalize encs fl = us at g1 q20 q15
   generalize encs gl = zs at g2 q20 q15
   obtain ⟨j', hj'⟩ : ∃ j', j' = j + 1 := ⟨_, rfl⟩
   have hadd := w_add hO (a := j) (b := 1) (by omega) (by omega)
   rw [← hj'] at hadd
   cases t
   ·simp only [cond_false] at hin
    subst hin
    (try cbv;repeat (simp only [w_same hO,e1,g1,g2];try cbv))
    refine ⟨_, q20 _, ?_⟩
    (try cbv;repeat (simp only [w_same hO,g1,g2];try cbv))
    refine ⟨_, q15 _, ?_⟩
    (try cbv;repeat (simp only [w_same hO];try cbv))
    (intro i k x hx;have hne:=WFS.ne hw i k x hx;first|exact hx|(simp (disch:=assumption) only [w_upd2_ne hO];exact hx))
   ·simp only [cond_true] at hin
    (try cbv;repeat (simp only [w_same hO,e1,g1,g2];try cbv))
    refine ⟨_, q20 _, ?_⟩
    (try cbv;repeat (simp only [w_same hO,hadd];try cbv))
    replace hj' : j' = j + 1 := hj'
    replace hj : j = (i : Int) := hj
    exact hK _ _ (i + 1, j') (by show x.length - (i + 1) < x.length - i; omega) ⟨(by omega : j' = ((i + 1 : Nat) : Int)), (by omega : i + 1 ≤ x.length), (by omega : i + 1 ≤ y.length), hin⟩
     (Drops.tab hw (Nat.le_refl _) [] (fun i k hne => rfl) trivial (by simp only [tabOk, V.refsB]; exact ⟨.inl rfl, rX, .inl rfl, rY, .inl rfl, trivial, .inl rfl, trivial, trivial⟩))
  ·have e1 : O.ilt j LY = false := w_ilt_f hO (by omega)
   have e2 := v_ilt hO LX LY
   have ev : v = decide (LX < LY) := by
    rw [hin]
    by_cases hxx : i = x.length
    ·have : x.drop i = [] := List.drop_eq_nil_of_le (by omega)
     rw [this]
     simp only [fallsB, List.length_drop]
     by_cases hc : LX < LY
     ·rw [decide_eq_true hc, decide_eq_true (by omega)]
     ·rw [decide_eq_false hc, decide_eq_false (by omega)]
    ·have h1 : y.drop i = [] := List.drop_eq_nil_of_le (by omega)
     rw [h1, List.drop_eq_getElem_cons (by omega)]
     simp only [fallsB]
     rw [decide_eq_false (by omega)]
   rw [ev]
   generalize decide (LX < LY) = t at e2 ⊢
   (try cbv;repeat (simp only [w_same hO,e1,hX,hY,e2];try cbv))
   (intro i k x hx;have hne:=WFS.ne hw i k x hx;first|exact hx|(simp (disch:=assumption) only [w_upd2_ne hO];exact hx))
 ·have e0 : O.ilt LY LX = false := w_ilt_f hO (by omega)
  (try cbv;repeat (simp only [w_same hO];try cbv))
  refine Pure.go (h19x _) ?_
  (try cbv;repeat (simp only [w_same hO];try cbv))
  refine Pure.go (h19y _) ?_
  (try cbv;repeat (simp only [w_same hO,hX,hY,e0];try cbv))
  refine AW_loopT (A := Nat × Int) (fun a => [(0, .sl nx 4 xs), (1, .sl ny 4 ys), (20, .int .i64 LX), (21, .int .i64 a.2)]) (fun _ => frameS H n O hO [])
   (fun a => a.2 = a.1 ∧ a.1 ≤ x.length ∧ a.1 ≤ y.length ∧ v = fallsB Bl (x.drop a.1) (y.drop a.1)) (fun a => x.length - a.1) (0, 0) ⟨rfl, Nat.zero_le _, Nat.zero_le _, hv.symm⟩
   (Drops.tab hw (Nat.le_refl _) [] (fun _ _ _ => rfl) trivial (by simp only [tabOk, V.refsB]; exact ⟨.inl rfl, rX, .inl rfl, rY, .inl rfl, trivial, .inl rfl, trivial, trivial⟩)) ?_
  rintro ⟨i, j⟩ ⟨hj, hi, hi', hin⟩ K hK
  simp only at hj hi hi' hin hK
  replace hj : j = (i : Int) := hj
  replace eX : LX = (x.length : Int) := eX
  replace eY : LY = (y.length : Int) := eY
  by_cases hl : j < LX
  ·have e1 : O.ilt j LX = true := w_ilt_t hO hl
   have lx : i < x.length := by omega
   have ly : i < y.length := by omega
   have g1 : O.get xs j = some (enc x[i]) := gX i j hj lx
   have g2 : O.get ys j = some (enc y[i]) := gY i j hj ly
   have q20 : ∀ S, Pl.Pure P 20 [enc x[i], enc y[i]] S (.bool (eqF x[i] y[i])) := h20 x[i] (List.getElem_mem lx) y[i]
   have q15 : ∀ S, Pl.Pure P 15 [enc x[i], enc y[i]] S (.bool (Bl x[i] y[i])) := hb x[i] (List.getElem_mem lx) y[i] (List.getElem_mem ly)
   rw [List.drop_eq_getElem_cons lx, List.drop_eq_getElem_cons ly] at hin
   simp only [fallsB] at hin
   clear gX gY h20 hb h19x h19y
   generalize x[i] = f at g1 q20 q15 hin
   generalize y[i] = g at g2 q20 q15 hin
   generalize eqF f g = t at q20 hin
   generalize Bl f g = r at q15 hin
   obtain ⟨fk, fm, ft, fn, fl⟩ := f
   obtain ⟨gk, gm, gt, gn, gl⟩ := g
   simp only [enc] at g1 g2 q20 q15
   generalize encs fl = us at g1 q20 q15
   generalize encs gl = zs at g2 q20 q15
   obtain ⟨j', hj'⟩ : ∃ j', j' = j + 1 := ⟨_, rfl⟩
   have hadd := w_add hO (a := j) (b := 1) (by omega) (by omega)
   rw [← hj'] at hadd
   cases t
   ·simp only [cond_false] at hin
    subst hin
    (try cbv;repeat (simp only [w_same hO,e1,g1,g2];try cbv))
    refine ⟨_, q20 _, ?_⟩
    (try cbv;repeat (simp only [w_same hO,g1,g2];try cbv))
    refine ⟨_, q15 _, ?_⟩
    (try cbv;repeat (simp only [w_same hO];try cbv))
    (intro i k x hx;have hne:=WFS.ne hw i k x hx;first|exact hx|(simp (disch:=assumption) only [w_upd2_ne hO];exact hx))
   ·simp only [cond_true] at hin
    (try cbv;repeat (simp only [w_same hO,e1,g1,g2];try cbv))
    refine ⟨_, q20 _, ?_⟩
    (try cbv;repeat (simp only [w_same hO,hadd];try cbv))
    replace hj' : j' = j + 1 := hj'
    replace hj : j = (i : Int) := hj
    exact hK _ _ (i + 1, j') (by show x.length - (i + 1) < x.length - i; omega) ⟨(by omega : j' = ((i + 1 : Nat) : Int)), (by omega : i + 1 ≤ x.length), (by omega : i + 1 ≤ y.length), hin⟩
     (Drops.tab hw (Nat.le_refl _) [] (fun i k hne => rfl) trivial (by simp only [tabOk, V.refsB]; exact ⟨.inl rfl, rX, .inl rfl, rY, .inl rfl, trivial, .inl rfl, trivial, trivial⟩))
  ·have e1 : O.ilt j LX = false := w_ilt_f hO (by omega)
   have e2 := v_ilt hO LX LY
   have ev : v = decide (LX < LY) := by
    rw [hin]
    by_cases hxx : i = x.length
    ·have : x.drop i = [] := List.drop_eq_nil_of_le (by omega)
     rw [this]
     simp only [fallsB, List.length_drop]
     by_cases hc : LX < LY
     ·rw [decide_eq_true hc, decide_eq_true (by omega)]
     ·rw [decide_eq_false hc, decide_eq_false (by omega)]
    ·have h1 : y.drop i = [] := List.drop_eq_nil_of_le (by omega)
     rw [h1, List.drop_eq_getElem_cons (by omega)]
     simp only [fallsB]
     rw [decide_eq_false (by omega)]
   rw [ev]
   generalize decide (LX < LY) = t at e2 ⊢
   (try cbv;repeat (simp only [w_same hO,e1,hX,hY,e2];try cbv))
   (intro i k x hx;have hne:=WFS.ne hw i k x hx;first|exact hx|(simp (disch:=assumption) only [w_upd2_ne hO];exact hx))
end Go.Pl.Z
