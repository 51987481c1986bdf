import Derived.Test.YtllbopmdpmjcpaaGreatDoorM22
set_option linter.unusedSimpArgs false
set_option linter.unusedVariables false
set_option linter.unusedSectionVars false
open Go Go.Pl Go.Proofs
namespace Go.Pl.Z
set_option maxRecDepth 100000
def bothV (v t : Bool) : V := .tup [.bool (v && t), .int .i64 (bif v then 0 else 1)]
theorem w6 (P : Program) (a b : Fm) (va vb t : Bool) (ha : ∀ S, Pl.Pure P 14 [enc a] S (.bool va)) (hb : ∀ S, Pl.Pure P 14 [enc b] S (.bool vb))
  (h15 : va = true → vb = true → ∀ S, Pl.Pure P 15 [enc a, enc b] S (.bool t)) : Walks P F6 [enc a, enc b] (bothV (va && vb) t) := by
 intro H n b' c O hO hw
 obtain ⟨ak, am, at_, an, al⟩ := a
 obtain ⟨bk, bm, bt, bn, bl⟩ := b
 simp only [enc] at ha hb h15 ⊢
 generalize encs al = xs at ha h15 ⊢
 generalize encs bl = ys at hb h15 ⊢
 cases va
 ·simp only [bothV, Bool.false_and, cond_false]
  (try cbv;repeat (simp only [w_same hO];try cbv))
  refine Pure.go (ha _) ?_
  (try cbv;repeat (simp only [w_same hO];try cbv))
  (intro i k x hx;have hne:=WFS.ne hw i k x hx;first|exact hx|(simp (disch:=assumption) only [w_upd2_ne hO];exact hx))
 cases vb
 ·simp only [bothV, Bool.true_and, Bool.false_and, cond_false]
  (try cbv;repeat (simp only [w_same hO];try cbv))
  refine Pure.go (ha _) ?_
  (try cbv;repeat (simp only [w_same hO];try cbv))
  refine Pure.go (hb _) ?_
  (try cbv;repeat (simp only [w_same hO];try cbv))
  (intro i k x hx;have hne:=WFS.ne hw i k x hx;first|exact hx|(simp (disch:=assumption) only [w_upd2_ne hO];exact hx))
 have h := h15 rfl rfl
 clear h15
 simp only [bothV, Bool.true_and, cond_true]
 (try cbv;repeat (simp only [w_same hO];try cbv))
 refine Pure.go (ha _) ?_
 (try cbv;repeat (simp only [w_same hO];try cbv))
 refine Pure.go (hb _) ?_
 (try cbv;repeat (simp only [w_same hO];try cbv))
 refine Pure.go (h _) ?_
 (try cbv;repeat (simp only [w_same hO];try cbv))
 (intro i k x hx;have hne:=WFS.ne hw i k x hx;first|exact hx|(simp (disch:=assumption) only [w_upd2_ne hO];exact hx))
theorem w18 (P : Program) (f : Fm) (v : Bool) (h14 : ∀ S, Pl.Pure P 14 [enc f] S (.bool v)) : Walks P F18 [enc f] (.bool (!v)) := by
 intro H n b' c O hO hw
 cases f
 simp only [enc] at h14 ⊢
 generalize encs _ = xs at h14 ⊢
 generalize hr : (!v) = r
 (try cbv;repeat (simp only [w_same hO];try cbv))
 refine Pure.go (h14 _) ?_
 subst hr
 cases v <;> ((try cbv;repeat (simp only [w_same hO];try cbv)); (intro i k x hx;have hne:=WFS.ne hw i k x hx;first|exact hx|(simp (disch:=assumption) only [w_upd2_ne hO];exact hx)))
theorem w14 (P : Program) (f : Fm) (v w : Bool) (h26 : ∀ S, Pl.Pure P 26 [enc f] S (.bool v)) (h27 : v = true → ∀ S, Pl.Pure P 27 [enc f] S (.bool w)) : Walks P F14 [enc f] (.bool (v && w)) := by
 intro H n b' c O hO hw
 cases f
 simp only [enc] at h26 h27 ⊢
 generalize encs _ = xs at h26 h27 ⊢
 cases v
 ·simp only [Bool.false_and]
  (try cbv;repeat (simp only [w_same hO];try cbv))
  refine Pure.go (h26 _) ?_
  (try cbv;repeat (simp only [w_same hO];try cbv))
  (intro i k x hx;have hne:=WFS.ne hw i k x hx;first|exact hx|(simp (disch:=assumption) only [w_upd2_ne hO];exact hx))
 ·have h := h27 rfl
  simp only [Bool.true_and]
  (try cbv;repeat (simp only [w_same hO];try cbv))
  refine Pure.go (h26 _) ?_
  (try cbv;repeat (simp only [w_same hO];try cbv))
  refine Pure.go (h _) ?_
  (try cbv;repeat (simp only [w_same hO];try cbv))
  (intro i k x hx;have hne:=WFS.ne hw i k x hx;first|exact hx|(simp (disch:=assumption) only [w_upd2_ne hO];exact hx))
set_option maxHeartbeats 4000000 in
theorem w4 (P : Program) (a b c : Fm) (nx ny nz : Bool) (x y z : List V) (vaa taa vab tab' vbc tbc vac tac vxx txx vxy txy vyz tyz vxz txz : Bool)
  (irr : (vaa && taa) = false) (trans : (vab && tab') = true → (vbc && tbc) = true → (vac && tac) = true) (irr' : (vxx && txx) = false) (trans' : (vxy && txy) = true → (vyz && tyz) = true → (vxz && txz) = true)
  (haa : ∀ S, Pl.Pure P 6 [enc a, enc a] S (bothV vaa taa)) (hab : ∀ S, Pl.Pure P 6 [enc a, enc b] S (bothV vab tab')) (hbc : ∀ S, Pl.Pure P 6 [enc b, enc c] S (bothV vbc tbc)) (hac : ∀ S, Pl.Pure P 6 [enc a, enc c] S (bothV vac tac))
  (hxx : ∀ S, Pl.Pure P 8 [.sl nx 4 x, .sl nx 4 x] S (bothV vxx txx)) (hxy : ∀ S, Pl.Pure P 8 [.sl nx 4 x, .sl ny 4 y] S (bothV vxy txy)) (hyz : ∀ S, Pl.Pure P 8 [.sl ny 4 y, .sl nz 4 z] S (bothV vyz tyz)) (hxz : ∀ S, Pl.Pure P 8 [.sl nx 4 x, .sl nz 4 z] S (bothV vxz txz))
  (h10 : ∀ S, Pl.Pure P 10 [] S (.bool true)) : Walks P F4 [enc a, enc b, enc c, .sl nx 4 x, .sl ny 4 y, .sl nz 4 z] (.bool true) := by
 intro H n b' c' O hO hw
 obtain ⟨ak, am, at_, an, al⟩ := a
 obtain ⟨bk, bm, bt, bn, bl⟩ := b
 obtain ⟨ck, cm, ct, cn, cl⟩ := c
 simp only [enc, bothV] at haa hab hbc hac hxx hxy hyz hxz ⊢
 generalize encs al = l1 at haa hab hac ⊢
 generalize encs bl = l2 at hab hbc ⊢
 generalize encs cl = l3 at hbc hac ⊢
 have i0 := w_ieq_t hO (show (0 : Int) = 0 from rfl)
 have i1 := w_ieq_f hO (show (1 : Int) ≠ 0 by decide)
 have tr1 : (vab && tab') = true → (vbc && tbc) = true → vac = true ∧ tac = true := fun h1 h2 => (Bool.and_eq_true _ _).mp (trans h1 h2)
 have tr2 : (vxy && txy) = true → (vyz && tyz) = true → vxz = true ∧ txz = true := fun h1 h2 => (Bool.and_eq_true _ _).mp (trans' h1 h2)
 rw [irr] at haa
 rw [irr'] at hxx
 clear trans trans' irr irr'
 generalize (vab && tab') = p1 at hab tr1
 generalize (vbc && tbc) = q1 at hbc tr1
 generalize (vxy && txy) = p2 at hxy tr2
 generalize (vyz && tyz) = q2 at hyz tr2
 (try cbv;repeat (simp only [w_same hO];try cbv))
 refine Pure.go (haa _) ?_
 cases vaa
 all_goals
  (try cbv;repeat (simp only [w_same hO,i0,i1];try cbv))
  refine Pure.go (hab _) ?_
  (try cbv;repeat (simp only [w_same hO];try cbv))
  refine Pure.go (hbc _) ?_
  cases vab
  case false =>
   (try cbv;repeat (simp only [w_same hO,i0,i1];try cbv))
   refine Pure.go (hxx _) ?_
   cases vxx
   all_goals
    (try cbv;repeat (simp only [w_same hO,i0,i1];try cbv))
    refine Pure.go (hxy _) ?_
    (try cbv;repeat (simp only [w_same hO];try cbv))
    refine Pure.go (hyz _) ?_
    cases vxy
    case false =>
     (try cbv;repeat (simp only [w_same hO,i0,i1];try cbv))
     refine Pure.go (h10 _) ?_
     (try cbv;repeat (simp only [w_same hO];try cbv))
     (intro i k x hx;have hne:=WFS.ne hw i k x hx;first|exact hx|(simp (disch:=assumption) only [w_upd2_ne hO];exact hx))
    cases vyz
    case false =>
     (try cbv;repeat (simp only [w_same hO,i0,i1];try cbv))
     refine Pure.go (h10 _) ?_
     (try cbv;repeat (simp only [w_same hO];try cbv))
     (intro i k x hx;have hne:=WFS.ne hw i k x hx;first|exact hx|(simp (disch:=assumption) only [w_upd2_ne hO];exact hx))
    cases p2
    case false =>
     (try cbv;repeat (simp only [w_same hO,i0,i1];try cbv))
     refine Pure.go (h10 _) ?_
     (try cbv;repeat (simp only [w_same hO];try cbv))
     (intro i k x hx;have hne:=WFS.ne hw i k x hx;first|exact hx|(simp (disch:=assumption) only [w_upd2_ne hO];exact hx))
    cases q2
    case false =>
     (try cbv;repeat (simp only [w_same hO,i0,i1];try cbv))
     refine Pure.go (h10 _) ?_
     (try cbv;repeat (simp only [w_same hO];try cbv))
     (intro i k x hx;have hne:=WFS.ne hw i k x hx;first|exact hx|(simp (disch:=assumption) only [w_upd2_ne hO];exact hx))
    (try cbv;repeat (simp only [w_same hO,i0,i1];try cbv))
    refine Pure.go (hxz _) ?_
    obtain ⟨rfl, rfl⟩ := tr2 rfl rfl
    (try cbv;repeat (simp only [w_same hO,i0,i1];try cbv))
    refine Pure.go (h10 _) ?_
    (try cbv;repeat (simp only [w_same hO];try cbv))
    (intro i k x hx;have hne:=WFS.ne hw i k x hx;first|exact hx|(simp (disch:=assumption) only [w_upd2_ne hO];exact hx))
  cases vbc
  case false =>
   (try cbv;repeat (simp only [w_same hO,i0,i1];try cbv))
   refine Pure.go (hxx _) ?_
   cases vxx
   all_goals
    (try cbv;repeat (simp only [w_same hO,i0,i1];try cbv))
    refine Pure.go (hxy _) ?_
    (try cbv;repeat (simp only [w_same hO];try cbv))
    refine Pure.go (hyz _) ?_
    cases vxy
    case false =>
     (try cbv;repeat (simp only [w_same hO,i0,i1];try cbv))
     refine Pure.go (h10 _) ?_
     (try cbv;repeat (simp only [w_same hO];try cbv))
     (intro i k x hx;have hne:=WFS.ne hw i k x hx;first|exact hx|(simp (disch:=assumption) only [w_upd2_ne hO];exact hx))
    cases vyz
    case false =>
     (try cbv;repeat (simp only [w_same hO,i0,i1];try cbv))
     refine Pure.go (h10 _) ?_
     (try cbv;repeat (simp only [w_same hO];try cbv))
     (intro i k x hx;have hne:=WFS.ne hw i k x hx;first|exact hx|(simp (disch:=assumption) only [w_upd2_ne hO];exact hx))
    cases p2
    case false =>
     (try cbv;repeat (simp only [w_same hO,i0,i1];try cbv))
     refine Pure.go (h10 _) ?_
     (try cbv;repeat (simp only [w_same hO];try cbv))
     (intro i k x hx;have hne:=WFS.ne hw i k x hx;first|exact hx|(simp (disch:=assumption) only [w_upd2_ne hO];exact hx))
    cases q2
    case false =>
     (try cbv;repeat (simp only [w_same hO,i0,i1];try cbv))
     refine Pure.go (h10 _) ?_
     (try cbv;repeat (simp only [w_same hO];try cbv))
     (intro i k x hx;have hne:=WFS.ne hw i k x hx;first|exact hx|(simp (disch:=assumption) only [w_upd2_ne hO];exact hx))
    (try cbv;repeat (simp only [w_same hO,i0,i1];try cbv))
    refine Pure.go (hxz _) ?_
    obtain ⟨rfl, rfl⟩ := tr2 rfl rfl
    (try cbv;repeat (simp only [w_same hO,i0,i1];try cbv))
    refine Pure.go (h10 _) ?_
    (try cbv;repeat (simp only [w_same hO];try cbv))
    (intro i k x hx;have hne:=WFS.ne hw i k x hx;first|exact hx|(simp (disch:=assumption) only [w_upd2_ne hO];exact hx))
  cases p1
  case false =>
   (try cbv;repeat (simp only [w_same hO,i0,i1];try cbv))
   refine Pure.go (hxx _) ?_
   cases vxx
   all_goals
    (try cbv;repeat (simp only [w_same hO,i0,i1];try cbv))
    refine Pure.go (hxy _) ?_
    (try cbv;repeat (simp only [w_same hO];try cbv))
    refine Pure.go (hyz _) ?_
    cases vxy
    case false =>
     (try cbv;repeat (simp only [w_same hO,i0,i1];try cbv))
     refine Pure.go (h10 _) ?_
     (try cbv;repeat (simp only [w_same hO];try cbv))
     (intro i k x hx;have hne:=WFS.ne hw i k x hx;first|exact hx|(simp (disch:=assumption) only [w_upd2_ne hO];exact hx))
    cases vyz
    case false =>
     (try cbv;repeat (simp only [w_same hO,i0,i1];try cbv))
     refine Pure.go (h10 _) ?_
     (try cbv;repeat (simp only [w_same hO];try cbv))
     (intro i k x hx;have hne:=WFS.ne hw i k x hx;first|exact hx|(simp (disch:=assumption) only [w_upd2_ne hO];exact hx))
    cases p2
    case false =>
     (try cbv;repeat (simp only [w_same hO,i0,i1];try cbv))
     refine Pure.go (h10 _) ?_
     (try cbv;repeat (simp only [w_same hO];try cbv))
     (intro i k x hx;have hne:=WFS.ne hw i k x hx;first|exact hx|(simp (disch:=assumption) only [w_upd2_ne hO];exact hx))
    cases q2
    case false =>
     (try cbv;repeat (simp only [w_same hO,i0,i1];try cbv))
     refine Pure.go (h10 _) ?_
     (try cbv;repeat (simp only [w_same hO];try cbv))
     (intro i k x hx;have hne:=WFS.ne hw i k x hx;first|exact hx|(simp (disch:=assumption) only [w_upd2_ne hO];exact hx))
    (try cbv;repeat (simp only [w_same hO,i0,i1];try cbv))
    refine Pure.go (hxz _) ?_
    obtain ⟨rfl, rfl⟩ := tr2 rfl rfl
    (try cbv;repeat (simp only [w_same hO,i0,i1];try cbv))
    refine Pure.go (h10 _) ?_
    (try cbv;repeat (simp only [w_same hO];try cbv))
    (intro i k x hx;have hne:=WFS.ne hw i k x hx;first|exact hx|(simp (disch:=assumption) only [w_upd2_ne hO];exact hx))
  cases q1
  case false =>
   (try cbv;repeat (simp only [w_same hO,i0,i1];try cbv))
   refine Pure.go (hxx _) ?_
   cases vxx
   all_goals
    (try cbv;repeat (simp only [w_same hO,i0,i1];try cbv))
    refine Pure.go (hxy _) ?_
    (try cbv;repeat (simp only [w_same hO];try cbv))
    refine Pure.go (hyz _) ?_
    cases vxy
    case false =>
     (try cbv;repeat (simp only [w_same hO,i0,i1];try cbv))
     refine Pure.go (h10 _) ?_
     (try cbv;repeat (simp only [w_same hO];try cbv))
     (intro i k x hx;have hne:=WFS.ne hw i k x hx;first|exact hx|(simp (disch:=assumption) only [w_upd2_ne hO];exact hx))
    cases vyz
    case false =>
     (try cbv;repeat (simp only [w_same hO,i0,i1];try cbv))
     refine Pure.go (h10 _) ?_
     (try cbv;repeat (simp only [w_same hO];try cbv))
     (intro i k x hx;have hne:=WFS.ne hw i k x hx;first|exact hx|(simp (disch:=assumption) only [w_upd2_ne hO];exact hx))
    cases p2
    case false =>
     (try cbv;repeat (simp only [w_same hO,i0,i1];try cbv))
     refine Pure.go (h10 _) ?_
     (try cbv;repeat (simp only [w_same hO];try cbv))
     (intro i k x hx;have hne:=WFS.ne hw i k x hx;first|exact hx|(simp (disch:=assumption) only [w_upd2_ne hO];exact hx))
    cases q2
    case false =>
     (try cbv;repeat (simp only [w_same hO,i0,i1];try cbv))
     refine Pure.go (h10 _) ?_
     (try cbv;repeat (simp only [w_same hO];try cbv))
     (intro i k x hx;have hne:=WFS.ne hw i k x hx;first|exact hx|(simp (disch:=assumption) only [w_upd2_ne hO];exact hx))
    (try cbv;repeat (simp only [w_same hO,i0,i1];try cbv))
    refine Pure.go (hxz _) ?_
    obtain ⟨rfl, rfl⟩ := tr2 rfl rfl
    (try cbv;repeat (simp only [w_same hO,i0,i1];try cbv))
    refine Pure.go (h10 _) ?_
    (try cbv;repeat (simp only [w_same hO];try cbv))
    (intro i k x hx;have hne:=WFS.ne hw i k x hx;first|exact hx|(simp (disch:=assumption) only [w_upd2_ne hO];exact hx))
  (try cbv;repeat (simp only [w_same hO,i0,i1];try cbv))
  refine Pure.go (hac _) ?_
  obtain ⟨rfl, rfl⟩ := tr1 rfl rfl
  (try cbv;repeat (simp only [w_same hO,i0,i1];try cbv))
  refine Pure.go (hxx _) ?_
  cases vxx
  all_goals
   (try cbv;repeat (simp only [w_same hO,i0,i1];try cbv))
   refine Pure.go (hxy _) ?_
   (try cbv;repeat (simp only [w_same hO];try cbv))
   refine Pure.go (hyz _) ?_
   cases vxy
   case false =>
    (try cbv;repeat (simp only [w_same hO,i0,i1];try cbv))
    refine Pure.go (h10 _) ?_
    (try cbv;repeat (simp only [w_same hO];try cbv))
    (intro i k x hx;have hne:=WFS.ne hw i k x hx;first|exact hx|(simp (disch:=assumption) only [w_upd2_ne hO];exact hx))
   cases vyz
   case false =>
    (try cbv;repeat (simp only [w_same hO,i0,i1];try cbv))
    refine Pure.go (h10 _) ?_
    (try cbv;repeat (simp only [w_same hO];try cbv))
    (intro i k x hx;have hne:=WFS.ne hw i k x hx;first|exact hx|(simp (disch:=assumption) only [w_upd2_ne hO];exact hx))
   cases p2
   case false =>
    (try cbv;repeat (simp only [w_same hO,i0,i1];try cbv))
    refine Pure.go (h10 _) ?_
    (try cbv;repeat (simp only [w_same hO];try cbv))
    (intro i k x hx;have hne:=WFS.ne hw i k x hx;first|exact hx|(simp (disch:=assumption) only [w_upd2_ne hO];exact hx))
   cases q2
   case false =>
    (try cbv;repeat (simp only [w_same hO,i0,i1];try cbv))
    refine Pure.go (h10 _) ?_
    (try cbv;repeat (simp only [w_same hO];try cbv))
    (intro i k x hx;have hne:=WFS.ne hw i k x hx;first|exact hx|(simp (disch:=assumption) only [w_upd2_ne hO];exact hx))
   (try cbv;repeat (simp only [w_same hO,i0,i1];try cbv))
   refine Pure.go (hxz _) ?_
   obtain ⟨rfl, rfl⟩ := tr2 rfl rfl
   (try cbv;repeat (simp only [w_same hO,i0,i1];try cbv))
   refine Pure.go (h10 _) ?_
   (try cbv;repeat (simp only [w_same hO];try cbv))
   (intro i k x hx;have hne:=WFS.ne hw i k x hx;first|exact hx|(simp (disch:=assumption) only [w_upd2_ne hO];exact hx))
end Go.Pl.Z
