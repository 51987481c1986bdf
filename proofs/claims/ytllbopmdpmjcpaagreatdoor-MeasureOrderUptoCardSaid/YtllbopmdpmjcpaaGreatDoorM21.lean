import Derived.Test.YtllbopmdpmjcpaaGreatDoorM15
import Derived.Test.YtllbopmdpmjcpaaGreatDoorM17
import Derived.Test.YtllbopmdpmjcpaaGreatDoorM18
import Derived.Test.YtllbopmdpmjcpaaGreatDoorM20
set_option linter.unusedSimpArgs false
set_option linter.unusedVariables false
set_option linter.unusedSectionVars false
open Go Go.Pl Go.Proofs
namespace Go.Pl.Z
set_option maxRecDepth 100000
def sTrue : List UInt8 := [116, 114, 117, 101]
def sFalse : List UInt8 := [102, 97, 108, 115, 101]
def sNull : List UInt8 := [110, 117, 108, 108]
def hBits : List UInt8 := [98, 105, 116, 115]
def hSeq : List UInt8 := [115, 101, 113]
def hSet : List UInt8 := [115, 101, 116]
def hBag : List UInt8 := [98, 97, 103]
def hMap : List UInt8 := [109, 97, 112]
def hImap : List UInt8 := [105, 109, 97, 112]
def hData : List UInt8 := [100, 97, 116, 97]
def hLater : List UInt8 := [108, 97, 116, 101, 114]
def hRef : List UInt8 := [114, 101, 102]
def hFn : List UInt8 := [102, 110]
def bitsB : List Fm → Bool
 | [a, b] => decide (a.kind = 0) && (decide (b.kind = 0) && (decide (1 ≤ a.n) && (decide (a.n ≤ 16) && (decide (0 ≤ b.n) && decide (b.n < 2 ^ a.n.toNat)))))
 | _ => false
def imapB (W : Fm → Bool) : List Fm → Bool
 | [] => false
 | d :: ps => W d && (pairsB W ps && !ps.any fun p => decide (cmpF (sndF p) d = 0))
def dataB (W : Fm → Bool) : List Fm → Bool
 | [] => false
 | c :: cs => decide (c.kind = 1) && (isNameB c.text && cs.all W)
def refB : List Fm → Bool
 | [a] => decide (a.kind = 0) && decide (1 ≤ a.n)
 | _ => false
def headX (W : Fm → Bool) (G : List Fm → Bool) (hd : List UInt8) (r : List Fm) : Bool :=
 bif decide (hd = hBits) then bitsB r else bif decide (hd = hSeq) then r.all W else bif decide (hd = hSet) then r.all W && ascB r else bif decide (hd = hBag) then pairsB W r && !r.any bagBad
 else bif decide (hd = hMap) then pairsB W r else bif decide (hd = hImap) then imapB W r else bif decide (hd = hData) || decide (hd = hLater) then dataB W r else bif decide (hd = hRef) then refB r
 else bif decide (hd = hFn) then G r else false
def kidsX (W : Fm → Bool) (G : List Fm → Bool) (hd : List UInt8) : List Fm → Bool
 | [] => false
 | _ :: r => headX W G hd r
def isX (W : Fm → Bool) (G : List Fm → Bool) (f : Fm) : Bool :=
 bif decide (f.kind = 0) then true else bif decide (f.kind = 1) then decide (f.text = sTrue) || (decide (f.text = sFalse) || decide (f.text = sNull)) else bif decide (f.kind = 2) then false else
 kidsX W G (headF f) f.kids
theorem v_shl {O : Ops} (hO : O = Ops.std) {n : Int} (h1 : 1 ≤ n) (h2 : n ≤ 16) : O.iop .shl .i64 1 .i64 n = some (.int .i64 (2 ^ n.toNat)) := by
 subst hO
 rcases (by omega : n = 1 ∨ n = 2 ∨ n = 3 ∨ n = 4 ∨ n = 5 ∨ n = 6 ∨ n = 7 ∨ n = 8 ∨ n = 9 ∨ n = 10 ∨ n = 11 ∨ n = 12 ∨ n = 13 ∨ n = 14 ∨ n = 15 ∨ n = 16) with
  rfl | rfl | rfl | rfl | rfl | rfl | rfl | rfl | rfl | rfl | rfl | rfl | rfl | rfl | rfl | rfl <;> rfl
set_option maxHeartbeats 4000000 in
theorem w27 (P : Program) (W : Fm → Bool) (G : List Fm → Bool) (f : Fm) (hlen : f.kids.length ≤ 1000000000) (h28 : ∀ S, Pl.Pure P 28 [enc f] S (.str (headF f)))
  (h27 : ∀ g ∈ f.kids, ∀ S, Pl.Pure P 27 [enc g] S (.bool (W g))) (h51 : ∀ l, (∀ g ∈ l, g ∈ f.kids) → l.length ≤ 1000000000 → ∀ S, Pl.Pure P 51 [.sl f.nl 4 (encs l)] S (.bool (l.all W)))
  (h52 : ∀ l, (∀ g ∈ l, g ∈ f.kids) → l.length ≤ 1000000000 → ∀ S, Pl.Pure P 52 [.sl f.nl 4 (encs l)] S (.bool (ascB l))) (h53 : ∀ l, (∀ g ∈ l, g ∈ f.kids) → l.length ≤ 1000000000 → ∀ S, Pl.Pure P 53 [.sl f.nl 4 (encs l)] S (.bool (pairsB W l)))
  (h19b : ∀ l, (∀ g ∈ l, g ∈ f.kids) → l.length ≤ 1000000000 → pairsB W l = true → ∀ S, Pl.Pure P 19 [.sl f.nl 4 (encs l), .fn 54 []] S (.bool (l.any bagBad)))
  (h19i : ∀ l d ds i S, (∀ g ∈ l, g ∈ f.kids) → l.length ≤ 1000000000 → pairsB W l = true → S.ok i 1 = true → S.H i 1 = some (.sl f.nl 4 (encs (d :: ds))) → Pl.Pure P 19 [.sl f.nl 4 (encs l), .fn 55 [.ref i 1 0]] S (.bool (l.any fun p => decide (cmpF (sndF p) d = 0))))
  (h56 : ∀ s S, Pl.Pure P 56 [.str s] S (.bool (isNameB s))) (h57 : ∀ S, Pl.Pure P 57 [.sl f.nl 4 (encs (f.kids.drop 1))] S (.bool (G (f.kids.drop 1)))) : Walks P F27 [enc f] (.bool (isX W G f)) := by
 intro H n b' c O hO hw
 obtain ⟨k, q, t, nl, l⟩ := f
 have hv : isX W G (.mk k q t nl l) = (bif decide (k = 0) then true else bif decide (k = 1) then decide (t = sTrue) || (decide (t = sFalse) || decide (t = sNull)) else bif decide (k = 2) then false else
  kidsX W G (headF (.mk k q t nl l)) l) := rfl
 rw [hv]
 clear hv
 simp only [Fm.kids, Fm.nl] at hlen h27 h51 h52 h53 h19b h19i h57
 by_cases k0 : k = 0
 ·have e0 : O.ieq k 0 = true := w_ieq_t hO k0
  rw [decide_eq_true k0]
  simp only [cond_true, enc]
  generalize encs l = xs
  (try cbv;repeat (simp only [w_same hO,e0];try cbv))
  (intro i k x hx;have hne:=WFS.ne hw i k x hx;first|exact hx|(simp (disch:=assumption) only [w_upd2_ne hO];exact hx))
 have e0 : O.ieq k 0 = false := w_ieq_f hO k0
 rw [decide_eq_false k0]
 by_cases k1 : k = 1
 ·have e1 : O.ieq k 1 = true := w_ieq_t hO k1
  rw [decide_eq_true k1]
  simp only [cond_true, cond_false, enc]
  generalize encs l = xs
  have s1 := v_seq hO t sTrue
  have s2 := v_seq hO t sFalse
  have s3 := v_seq hO t sNull
  generalize decide (t = sTrue) = b1 at s1 ⊢
  generalize decide (t = sFalse) = b2 at s2 ⊢
  generalize decide (t = sNull) = b3 at s3 ⊢
  unfold sTrue at s1
  unfold sFalse at s2
  unfold sNull at s3
  cases b1
  ·cases b2 <;> ((try cbv;repeat (simp only [w_same hO,e0,e1,s1,s2,s3];try cbv)); (intro i k x hx;have hne:=WFS.ne hw i k x hx;first|exact hx|(simp (disch:=assumption) only [w_upd2_ne hO];exact hx)))
  ·(try cbv;repeat (simp only [w_same hO,e0,e1,s1];try cbv))
   (intro i k x hx;have hne:=WFS.ne hw i k x hx;first|exact hx|(simp (disch:=assumption) only [w_upd2_ne hO];exact hx))
 have e1 : O.ieq k 1 = false := w_ieq_f hO k1
 rw [decide_eq_false k1]
 by_cases k2 : k = 2
 ·have e2 : O.ieq k 2 = true := w_ieq_t hO k2
  rw [decide_eq_true k2]
  simp only [cond_true, cond_false, enc]
  generalize encs l = xs
  (try cbv;repeat (simp only [w_same hO,e0,e1,e2];try cbv))
  (intro i k x hx;have hne:=WFS.ne hw i k x hx;first|exact hx|(simp (disch:=assumption) only [w_upd2_ne hO];exact hx))
 have e2 : O.ieq k 2 = false := w_ieq_f hO k2
 rw [decide_eq_false k2]
 simp only [cond_false]
 have hL := w_lenE hO l
 obtain ⟨L, eL⟩ : ∃ L : Int, L = l.length := ⟨_, rfl⟩
 rw [← eL] at hL
 cases l with
 | nil =>
  have e3 : O.ieq L 0 = true := w_ieq_t hO (by simpa using eL)
  simp only [enc, kidsX]
  generalize encs [] = xs at hL ⊢
  (try cbv;repeat (simp only [w_same hO,e0,e1,e2,hL,e3];try cbv))
  (intro i k x hx;have hne:=WFS.ne hw i k x hx;first|exact hx|(simp (disch:=assumption) only [w_upd2_ne hO];exact hx))
 | cons h r =>
  have e3 : O.ieq L 0 = false := w_ieq_f hO (by simp at eL; omega)
  have hc := v_cutE hO (h :: r) 1 L 1 rfl eL (by simp)
  simp only [List.drop_succ_cons, List.drop_zero] at hc h57
  have hsub : ∀ g ∈ r, g ∈ h :: r := fun g hg => List.mem_cons_of_mem _ hg
  have hrl : r.length ≤ 1000000000 := by simp at hlen; omega
  simp only [kidsX]
  generalize headF (.mk k q t nl (h :: r)) = hd at h28 ⊢
  simp only [enc] at h28 ⊢
  generalize hR : headX W G hd r = R
  unfold headX at hR
  have t1 := v_seq hO hd hBits
  have t2 := v_seq hO hd hSeq
  have t3 := v_seq hO hd hSet
  have t4 := v_seq hO hd hBag
  have t5 := v_seq hO hd hMap
  have t6 := v_seq hO hd hImap
  have t7 := v_seq hO hd hData
  have t8 := v_seq hO hd hLater
  have t9 := v_seq hO hd hRef
  have t10 := v_seq hO hd hFn
  generalize decide (hd = hBits) = d1 at t1 hR
  unfold hBits at t1
  generalize decide (hd = hSeq) = d2 at t2 hR
  unfold hSeq at t2
  generalize decide (hd = hSet) = d3 at t3 hR
  unfold hSet at t3
  generalize decide (hd = hBag) = d4 at t4 hR
  unfold hBag at t4
  generalize decide (hd = hMap) = d5 at t5 hR
  unfold hMap at t5
  generalize decide (hd = hImap) = d6 at t6 hR
  unfold hImap at t6
  generalize decide (hd = hData) = d7 at t7 hR
  unfold hData at t7
  generalize decide (hd = hLater) = d8 at t8 hR
  unfold hLater at t8
  generalize decide (hd = hRef) = d9 at t9 hR
  unfold hRef at t9
  generalize decide (hd = hFn) = d10 at t10 hR
  unfold hFn at t10
  cases d1
  case true =>
   simp only [cond_true] at hR
   have hL2 := w_lenE hO r
   obtain ⟨L2, eL2⟩ : ∃ L2 : Int, L2 = r.length := ⟨_, rfl⟩
   rw [← eL2] at hL2
   clear h51 h52 h53 h19b h19i h57 h27 h56
   by_cases h1 : r.length = 2
   case neg =>
    have e4 : O.ieq L2 2 = false := w_ieq_f hO (by omega)
    have : bitsB r = false := by
     match r, h1 with
     | [], _ => rfl
     | [_], _ => rfl
     | [_, _], h => simp at h
     | _ :: _ :: _ :: _, _ => rfl
    rw [this] at hR
    subst hR
    generalize encs (h :: r) = xs at hL hc h28 ⊢
    generalize encs r = ys at hc hL2
    (try cbv;repeat (simp only [w_same hO,e0,e1,e2,hL,e3,hc];try cbv))
    refine Pure.go (h28 _) ?_
    (try cbv;repeat (simp only [w_same hO,t1,hL2,e4];try cbv))
    (intro i k x hx;have hne:=WFS.ne hw i k x hx;first|exact hx|(simp (disch:=assumption) only [w_upd2_ne hO];exact hx))
   have e4 : O.ieq L2 2 = true := w_ieq_t hO (by omega)
   obtain ⟨a0, b0, hab⟩ : ∃ a b, r = [a, b] := by
    match r, h1 with
    | [a, b], _ => exact ⟨a, b, rfl⟩
   subst hab
   obtain ⟨ak, am, at_, an, al⟩ := a0
   obtain ⟨bk, bm, bt, bn, bl⟩ := b0
   have hR' : (decide (ak = 0) && (decide (bk = 0) && (decide (1 ≤ am) && (decide (am ≤ 16) && (decide (0 ≤ bm) && decide (bm < 2 ^ am.toNat)))))) = R := hR
   clear hR
   have e5 := v_ieq hO ak 0
   have e6 := v_ieq hO bk 0
   have e7 := v_ile hO 1 am
   have e8 := v_ile hO am 16
   have e9 := v_ile hO 0 bm
   have e10 := v_ilt hO bm (2 ^ am.toNat)
   have esh : 1 ≤ am → am ≤ 16 → O.iop .shl .i64 1 .i64 am = some (.int .i64 (2 ^ am.toNat)) := v_shl hO
   generalize (2 ^ am.toNat : Int) = sh at hR' e10 esh
   generalize encs (h :: [.mk ak am at_ an al, .mk bk bm bt bn bl]) = xs at hL hc h28 ⊢
   simp only [encs, enc] at hc hL2
   generalize encs al = zs at hc hL2
   generalize encs bl = us at hc hL2
   have g2 := w_get0 hO (.agg [.int .i64 ak, .int .i64 am, .str at_, .sl an 4 zs]) [.agg [.int .i64 bk, .int .i64 bm, .str bt, .sl bn 4 us]]
   have g3 := w_get1 hO (.agg [.int .i64 ak, .int .i64 am, .str at_, .sl an 4 zs]) (.agg [.int .i64 bk, .int .i64 bm, .str bt, .sl bn 4 us]) []
   by_cases c7 : 1 ≤ am
   case neg =>
    rw [decide_eq_false c7] at hR' e7
    clear esh e8 e9 e10
    simp only [Bool.false_and, Bool.and_false] at hR'
    subst hR'
    generalize decide (ak = 0) = b1 at e5
    generalize decide (bk = 0) = b2 at e6
    cases b1
    ·(try cbv;repeat (simp only [w_same hO,e0,e1,e2,hL,e3,hc];try cbv))
     refine Pure.go (h28 _) ?_
     (try cbv;repeat (simp only [w_same hO,t1,hL2,e4,g2,g3,e5];try cbv))
     (intro i k x hx;have hne:=WFS.ne hw i k x hx;first|exact hx|(simp (disch:=assumption) only [w_upd2_ne hO];exact hx))
    ·cases b2
     ·(try cbv;repeat (simp only [w_same hO,e0,e1,e2,hL,e3,hc];try cbv))
      refine Pure.go (h28 _) ?_
      (try cbv;repeat (simp only [w_same hO,t1,hL2,e4,g2,g3,e5,e6];try cbv))
      (intro i k x hx;have hne:=WFS.ne hw i k x hx;first|exact hx|(simp (disch:=assumption) only [w_upd2_ne hO];exact hx))
     ·(try cbv;repeat (simp only [w_same hO,e0,e1,e2,hL,e3,hc];try cbv))
      refine Pure.go (h28 _) ?_
      (try cbv;repeat (simp only [w_same hO,t1,hL2,e4,g2,g3,e5,e6,e7];try cbv))
      (intro i k x hx;have hne:=WFS.ne hw i k x hx;first|exact hx|(simp (disch:=assumption) only [w_upd2_ne hO];exact hx))
   by_cases c8 : am ≤ 16
   case neg =>
    rw [decide_eq_true c7] at hR' e7
    rw [decide_eq_false c8] at hR' e8
    clear esh e9 e10
    simp only [Bool.false_and, Bool.and_false] at hR'
    subst hR'
    generalize decide (ak = 0) = b1 at e5
    generalize decide (bk = 0) = b2 at e6
    cases b1
    ·(try cbv;repeat (simp only [w_same hO,e0,e1,e2,hL,e3,hc];try cbv))
     refine Pure.go (h28 _) ?_
     (try cbv;repeat (simp only [w_same hO,t1,hL2,e4,g2,g3,e5];try cbv))
     (intro i k x hx;have hne:=WFS.ne hw i k x hx;first|exact hx|(simp (disch:=assumption) only [w_upd2_ne hO];exact hx))
    ·cases b2
     ·(try cbv;repeat (simp only [w_same hO,e0,e1,e2,hL,e3,hc];try cbv))
      refine Pure.go (h28 _) ?_
      (try cbv;repeat (simp only [w_same hO,t1,hL2,e4,g2,g3,e5,e6];try cbv))
      (intro i k x hx;have hne:=WFS.ne hw i k x hx;first|exact hx|(simp (disch:=assumption) only [w_upd2_ne hO];exact hx))
     ·(try cbv;repeat (simp only [w_same hO,e0,e1,e2,hL,e3,hc];try cbv))
      refine Pure.go (h28 _) ?_
      (try cbv;repeat (simp only [w_same hO,t1,hL2,e4,g2,g3,e5,e6,e7,e8];try cbv))
      (intro i k x hx;have hne:=WFS.ne hw i k x hx;first|exact hx|(simp (disch:=assumption) only [w_upd2_ne hO];exact hx))
   have esh' := esh c7 c8
   rw [decide_eq_true c7] at hR' e7
   rw [decide_eq_true c8] at hR' e8
   clear esh
   simp only [Bool.true_and] at hR'
   generalize decide (ak = 0) = b1 at e5 hR'
   generalize decide (bk = 0) = b2 at e6 hR'
   generalize decide (0 ≤ bm) = b5 at e9 hR'
   generalize decide (bm < sh) = b6 at e10 hR'
   cases b1
   case false =>
    simp only [Bool.false_and] at hR'
    subst hR'
    (try cbv;repeat (simp only [w_same hO,e0,e1,e2,hL,e3,hc];try cbv))
    refine Pure.go (h28 _) ?_
    (try cbv;repeat (simp only [w_same hO,t1,hL2,e4,g2,g3,e5];try cbv))
    (intro i k x hx;have hne:=WFS.ne hw i k x hx;first|exact hx|(simp (disch:=assumption) only [w_upd2_ne hO];exact hx))
   cases b2
   case false =>
    simp only [Bool.true_and, Bool.false_and] at hR'
    subst hR'
    (try cbv;repeat (simp only [w_same hO,e0,e1,e2,hL,e3,hc];try cbv))
    refine Pure.go (h28 _) ?_
    (try cbv;repeat (simp only [w_same hO,t1,hL2,e4,g2,g3,e5,e6];try cbv))
    (intro i k x hx;have hne:=WFS.ne hw i k x hx;first|exact hx|(simp (disch:=assumption) only [w_upd2_ne hO];exact hx))
   cases b5
   case false =>
    simp only [Bool.true_and, Bool.false_and] at hR'
    subst hR'
    (try cbv;repeat (simp only [w_same hO,e0,e1,e2,hL,e3,hc];try cbv))
    refine Pure.go (h28 _) ?_
    (try cbv;repeat (simp only [w_same hO,t1,hL2,e4,g2,g3,e5,e6,e7,e8,e9];try cbv))
    (intro i k x hx;have hne:=WFS.ne hw i k x hx;first|exact hx|(simp (disch:=assumption) only [w_upd2_ne hO];exact hx))
   simp only [Bool.true_and] at hR'
   subst hR'
   (try cbv;repeat (simp only [w_same hO,e0,e1,e2,hL,e3,hc];try cbv))
   refine Pure.go (h28 _) ?_
   (try cbv;repeat (simp only [w_same hO,t1,hL2,e4,g2,g3,e5,e6,e7,e8,e9,esh',e10];try cbv))
   (intro i k x hx;have hne:=WFS.ne hw i k x hx;first|exact hx|(simp (disch:=assumption) only [w_upd2_ne hO];exact hx))
  simp only [cond_false] at hR
  cases d2
  case true =>
   simp only [cond_true] at hR
   have h5 := h51 r hsub hrl
   rw [hR] at h5
   generalize encs (h :: r) = xs at hL hc h28 ⊢
   generalize encs r = ys at hc h5
   (try cbv;repeat (simp only [w_same hO,e0,e1,e2,hL,e3,hc];try cbv))
   refine Pure.go (h28 _) ?_
   (try cbv;repeat (simp only [w_same hO,t1,t2];try cbv))
   refine Pure.go (h5 _) ?_
   (try cbv;repeat (simp only [w_same hO];try cbv))
   (intro i k x hx;have hne:=WFS.ne hw i k x hx;first|exact hx|(simp (disch:=assumption) only [w_upd2_ne hO];exact hx))
  simp only [cond_false] at hR
  cases d3
  case true =>
   simp only [cond_true] at hR
   have h5 := h51 r hsub hrl
   have h6 := h52 r hsub hrl
   generalize encs (h :: r) = xs at hL hc h28 ⊢
   generalize encs r = ys at hc h5 h6
   generalize r.all W = b1 at h5 hR
   generalize ascB r = b2 at h6 hR
   cases b1
   ·simp only [Bool.false_and] at hR
    subst hR
    (try cbv;repeat (simp only [w_same hO,e0,e1,e2,hL,e3,hc];try cbv))
    refine Pure.go (h28 _) ?_
    (try cbv;repeat (simp only [w_same hO,t1,t2,t3];try cbv))
    refine Pure.go (h5 _) ?_
    (try cbv;repeat (simp only [w_same hO];try cbv))
    (intro i k x hx;have hne:=WFS.ne hw i k x hx;first|exact hx|(simp (disch:=assumption) only [w_upd2_ne hO];exact hx))
   ·simp only [Bool.true_and] at hR
    subst hR
    (try cbv;repeat (simp only [w_same hO,e0,e1,e2,hL,e3,hc];try cbv))
    refine Pure.go (h28 _) ?_
    (try cbv;repeat (simp only [w_same hO,t1,t2,t3];try cbv))
    refine Pure.go (h5 _) ?_
    (try cbv;repeat (simp only [w_same hO];try cbv))
    refine Pure.go (h6 _) ?_
    (try cbv;repeat (simp only [w_same hO];try cbv))
    (intro i k x hx;have hne:=WFS.ne hw i k x hx;first|exact hx|(simp (disch:=assumption) only [w_upd2_ne hO];exact hx))
  simp only [cond_false] at hR
  cases d4
  case true =>
   simp only [cond_true] at hR
   have h5 := h53 r hsub hrl
   have h6 := h19b r hsub hrl
   generalize encs (h :: r) = xs at hL hc h28 ⊢
   generalize encs r = ys at hc h5 h6
   generalize pairsB W r = b1 at h5 h6 hR
   generalize r.any bagBad = b2 at h6 hR
   cases b1
   ·simp only [Bool.false_and] at hR
    subst hR
    (try cbv;repeat (simp only [w_same hO,e0,e1,e2,hL,e3,hc];try cbv))
    refine Pure.go (h28 _) ?_
    (try cbv;repeat (simp only [w_same hO,t1,t2,t3,t4];try cbv))
    refine Pure.go (h5 _) ?_
    (try cbv;repeat (simp only [w_same hO];try cbv))
    (intro i k x hx;have hne:=WFS.ne hw i k x hx;first|exact hx|(simp (disch:=assumption) only [w_upd2_ne hO];exact hx))
   ·have h7 := h6 rfl
    clear h6
    cases b2
    ·simp only [Bool.true_and, Bool.not_false] at hR
     subst hR
     (try cbv;repeat (simp only [w_same hO,e0,e1,e2,hL,e3,hc];try cbv))
     refine Pure.go (h28 _) ?_
     (try cbv;repeat (simp only [w_same hO,t1,t2,t3,t4];try cbv))
     refine Pure.go (h5 _) ?_
     (try cbv;repeat (simp only [w_same hO];try cbv))
     refine Pure.go (h7 _) ?_
     (try cbv;repeat (simp only [w_same hO];try cbv))
     (intro i k x hx;have hne:=WFS.ne hw i k x hx;first|exact hx|(simp (disch:=assumption) only [w_upd2_ne hO];exact hx))
    ·simp only [Bool.true_and, Bool.not_true] at hR
     subst hR
     (try cbv;repeat (simp only [w_same hO,e0,e1,e2,hL,e3,hc];try cbv))
     refine Pure.go (h28 _) ?_
     (try cbv;repeat (simp only [w_same hO,t1,t2,t3,t4];try cbv))
     refine Pure.go (h5 _) ?_
     (try cbv;repeat (simp only [w_same hO];try cbv))
     refine Pure.go (h7 _) ?_
     (try cbv;repeat (simp only [w_same hO];try cbv))
     (intro i k x hx;have hne:=WFS.ne hw i k x hx;first|exact hx|(simp (disch:=assumption) only [w_upd2_ne hO];exact hx))
  simp only [cond_false] at hR
  cases d5
  case true =>
   simp only [cond_true] at hR
   have h5 := h53 r hsub hrl
   rw [hR] at h5
   generalize encs (h :: r) = xs at hL hc h28 ⊢
   generalize encs r = ys at hc h5
   (try cbv;repeat (simp only [w_same hO,e0,e1,e2,hL,e3,hc];try cbv))
   refine Pure.go (h28 _) ?_
   (try cbv;repeat (simp only [w_same hO,t1,t2,t3,t4,t5];try cbv))
   refine Pure.go (h5 _) ?_
   (try cbv;repeat (simp only [w_same hO];try cbv))
   (intro i k x hx;have hne:=WFS.ne hw i k x hx;first|exact hx|(simp (disch:=assumption) only [w_upd2_ne hO];exact hx))
  simp only [cond_false] at hR
  cases d6
  case true =>
   simp only [cond_true] at hR
   cases r with
   | nil =>
    simp only [imapB] at hR
    subst hR
    have e4 : O.ile 1 (O.len (encs [])) = false := by rw [w_lenE hO]; exact w_ile_f hO (by simp)
    generalize hL2 : O.len (encs []) = L2 at e4
    generalize encs [h] = xs at hL hc h28 ⊢
    generalize encs [] = ys at hc hL2
    (try cbv;repeat (simp only [w_same hO,e0,e1,e2,hL,e3,hc];try cbv))
    refine Pure.go (h28 _) ?_
    (try cbv;repeat (simp only [w_same hO,t1,t2,t3,t4,t5,t6,hL2,e4];try cbv))
    (intro i k x hx;have hne:=WFS.ne hw i k x hx;first|exact hx|(simp (disch:=assumption) only [w_upd2_ne hO];exact hx))
   | cons d ps =>
    simp only [imapB] at hR
    have e4 : O.ile 1 (O.len (encs (d :: ps))) = true := by rw [w_lenE hO]; exact w_ile_t hO (by simp; omega)
    have hL2 := w_lenE hO (d :: ps)
    obtain ⟨L2, eL2⟩ : ∃ L2 : Int, L2 = (d :: ps).length := ⟨_, rfl⟩
    rw [← eL2] at hL2
    rw [hL2] at e4
    have hc2 := v_cutE hO (d :: ps) 1 L2 1 rfl eL2 (by simp)
    simp only [List.drop_succ_cons, List.drop_zero] at hc2
    have hsub2 : ∀ g ∈ ps, g ∈ h :: d :: ps := fun g hg => hsub g (List.mem_cons_of_mem _ hg)
    have hpl : ps.length ≤ 1000000000 := by simp at hrl; omega
    have h5 := h27 d (hsub d List.mem_cons_self)
    have h6 := h53 ps hsub2 hpl
    have h7 := h19i ps d ps n
    have h8 : ∀ S : St, pairsB W ps = true → S.ok n 1 = true → S.H n 1 = some (.sl nl 4 (encs (d :: ps))) → Pl.Pure P 19 [.sl nl 4 (encs ps), .fn 55 [.ref n 1 0]] S (.bool (ps.any fun p => decide (cmpF (sndF p) d = 0))) :=
     fun S a1 a2 a3 => h7 S hsub2 hpl a1 a2 a3
    clear h7
    generalize W d = b1 at hR h5
    generalize pairsB W ps = b2 at hR h6 h8
    generalize (ps.any fun p => decide (cmpF (sndF p) d = 0)) = b3 at hR h8
    have g2 := w_get0 hO (enc d) (encs ps)
    generalize encs (h :: d :: ps) = xs at hL hc h28 ⊢
    obtain ⟨dk, dm, dt, dn, dl⟩ := d
    simp only [encs, enc] at hc g2 hL2 hc2 h5 h8 ⊢
    generalize encs ps = ws at hc g2 hL2 h6 hc2 h8
    generalize encs dl = zs at hc g2 hL2 hc2 h5 h8
    clear h51 h52 h53 h19b h19i h57 h27 h56
    cases b1
    case false =>
     simp only [Bool.false_and] at hR
     subst hR
     (try cbv;repeat (simp only [w_same hO,e0,e1,e2,hL,e3,hc];try cbv))
     refine Pure.go (h28 _) ?_
     (try cbv;repeat (simp only [w_same hO,t1,t2,t3,t4,t5,t6,hL2,e4,g2];try cbv))
     refine Pure.go (h5 _) ?_
     (try cbv;repeat (simp only [w_same hO];try cbv))
     (intro i k x hx;have hne:=WFS.ne hw i k x hx;first|exact hx|(simp (disch:=assumption) only [w_upd2_ne hO];exact hx))
    cases b2
    case false =>
     simp only [Bool.true_and, Bool.false_and] at hR
     subst hR
     (try cbv;repeat (simp only [w_same hO,e0,e1,e2,hL,e3,hc];try cbv))
     refine Pure.go (h28 _) ?_
     (try cbv;repeat (simp only [w_same hO,t1,t2,t3,t4,t5,t6,hL2,e4,g2];try cbv))
     refine Pure.go (h5 _) ?_
     (try cbv;repeat (simp only [w_same hO,hL2,hc2];try cbv))
     refine Pure.go (h6 _) ?_
     (try cbv;repeat (simp only [w_same hO];try cbv))
     (intro i k x hx;have hne:=WFS.ne hw i k x hx;first|exact hx|(simp (disch:=assumption) only [w_upd2_ne hO];exact hx))
    simp only [Bool.true_and] at hR
    (try cbv;repeat (simp only [w_same hO,e0,e1,e2,hL,e3,hc];try cbv))
    refine Pure.go (h28 _) ?_
    (try cbv;repeat (simp only [w_same hO,t1,t2,t3,t4,t5,t6,hL2,e4,g2];try cbv))
    refine Pure.go (h5 _) ?_
    (try cbv;repeat (simp only [w_same hO,hL2,hc2];try cbv))
    refine Pure.go (h6 _) ?_
    (try cbv;repeat (simp only [w_same hO,hL2,hc2];try cbv))
    refine Pure.go (h8 _ rfl ?_ ?_) ?_
    ·rw [ok_iff]
     simp only
     omega
    ·simp only [upd2_eq hO, and_self, if_true]
    cases b3
    ·simp only [Bool.not_false] at hR
     subst hR
     (try cbv;repeat (simp only [w_same hO];try cbv))
     (intro i k x hx;have hne:=WFS.ne hw i k x hx;first|exact hx|(simp (disch:=assumption) only [w_upd2_ne hO];exact hx))
    ·simp only [Bool.not_true] at hR
     subst hR
     (try cbv;repeat (simp only [w_same hO];try cbv))
     (intro i k x hx;have hne:=WFS.ne hw i k x hx;first|exact hx|(simp (disch:=assumption) only [w_upd2_ne hO];exact hx))
  simp only [cond_false] at hR
  cases hd78 : (d7 || d8)
  case true =>
   rw [hd78] at hR
   simp only [cond_true] at hR
   cases r with
   | nil =>
    simp only [dataB] at hR
    subst hR
    have e4 : O.ile 1 (O.len (encs [])) = false := by rw [w_lenE hO]; exact w_ile_f hO (by simp)
    generalize hL2 : O.len (encs []) = L2 at e4
    generalize encs [h] = xs at hL hc h28 ⊢
    generalize encs [] = ys at hc hL2
    cases d7 <;> cases d8 <;> first | (simp at hd78; done) | skip
    all_goals
     (try cbv;repeat (simp only [w_same hO,e0,e1,e2,hL,e3,hc];try cbv))
     refine Pure.go (h28 _) ?_
     (try cbv;repeat (simp only [w_same hO,t1,t2,t3,t4,t5,t6,t7,t8,hL2,e4];try cbv))
     (intro i k x hx;have hne:=WFS.ne hw i k x hx;first|exact hx|(simp (disch:=assumption) only [w_upd2_ne hO];exact hx))
   | cons c0 cs =>
    simp only [dataB] at hR
    have e4 : O.ile 1 (O.len (encs (c0 :: cs))) = true := by rw [w_lenE hO]; exact w_ile_t hO (by simp; omega)
    have hL2 := w_lenE hO (c0 :: cs)
    obtain ⟨L2, eL2⟩ : ∃ L2 : Int, L2 = (c0 :: cs).length := ⟨_, rfl⟩
    rw [← eL2] at hL2
    rw [hL2] at e4
    have hc2 := v_cutE hO (c0 :: cs) 1 L2 1 rfl eL2 (by simp)
    simp only [List.drop_succ_cons, List.drop_zero] at hc2
    have h5 := h51 cs (fun g hg => hsub g (List.mem_cons_of_mem _ hg)) (by simp at hrl; omega)
    have h6 := h56 c0.text
    obtain ⟨ck, cm, ct, cn, cl⟩ := c0
    replace hR : (decide (ck = 1) && (isNameB ct && cs.all W)) = R := hR
    replace h6 : ∀ S, Pl.Pure P 56 [.str ct] S (.bool (isNameB ct)) := h6
    have g2 := w_get0 hO (enc (.mk ck cm ct cn cl)) (encs cs)
    have e5 := v_ieq hO ck 1
    generalize decide (ck = 1) = b1 at hR e5
    generalize isNameB ct = b2 at hR h6
    generalize cs.all W = b3 at hR h5
    generalize encs (h :: .mk ck cm ct cn cl :: cs) = xs at hL hc h28 ⊢
    simp only [encs, enc] at hc g2 hL2 hc2 ⊢
    generalize encs cs = ws at hc g2 hL2 h5 hc2
    generalize encs cl = zs at hc g2 hL2 hc2
    clear h51 h52 h53 h19b h19i h57 h27 h56
    cases d7 <;> cases d8 <;> first | (simp at hd78; done) | skip
    all_goals
     cases b1
     case false =>
      simp only [Bool.false_and] at hR
      subst hR
      (try cbv;repeat (simp only [w_same hO,e0,e1,e2,hL,e3,hc];try cbv))
      refine Pure.go (h28 _) ?_
      (try cbv;repeat (simp only [w_same hO,t1,t2,t3,t4,t5,t6,t7,t8,hL2,e4,g2,e5];try cbv))
      (intro i k x hx;have hne:=WFS.ne hw i k x hx;first|exact hx|(simp (disch:=assumption) only [w_upd2_ne hO];exact hx))
     cases b2
     case false =>
      simp only [Bool.true_and, Bool.false_and] at hR
      subst hR
      (try cbv;repeat (simp only [w_same hO,e0,e1,e2,hL,e3,hc];try cbv))
      refine Pure.go (h28 _) ?_
      (try cbv;repeat (simp only [w_same hO,t1,t2,t3,t4,t5,t6,t7,t8,hL2,e4,g2,e5];try cbv))
      refine Pure.go (h6 _) ?_
      (try cbv;repeat (simp only [w_same hO];try cbv))
      (intro i k x hx;have hne:=WFS.ne hw i k x hx;first|exact hx|(simp (disch:=assumption) only [w_upd2_ne hO];exact hx))
     simp only [Bool.true_and] at hR
     subst hR
     (try cbv;repeat (simp only [w_same hO,e0,e1,e2,hL,e3,hc];try cbv))
     refine Pure.go (h28 _) ?_
     (try cbv;repeat (simp only [w_same hO,t1,t2,t3,t4,t5,t6,t7,t8,hL2,e4,g2,e5];try cbv))
     refine Pure.go (h6 _) ?_
     (try cbv;repeat (simp only [w_same hO,hL2,hc2];try cbv))
     refine Pure.go (h5 _) ?_
     (try cbv;repeat (simp only [w_same hO];try cbv))
     (intro i k x hx;have hne:=WFS.ne hw i k x hx;first|exact hx|(simp (disch:=assumption) only [w_upd2_ne hO];exact hx))
  rw [hd78] at hR
  simp only [cond_false] at hR
  obtain ⟨rfl, rfl⟩ := Bool.or_eq_false_iff.1 hd78
  cases d9
  case true =>
   simp only [cond_true] at hR
   have hL2 := w_lenE hO r
   obtain ⟨L2, eL2⟩ : ∃ L2 : Int, L2 = r.length := ⟨_, rfl⟩
   rw [← eL2] at hL2
   by_cases h1 : r.length = 1
   case neg =>
    have e4 : O.ieq L2 1 = false := w_ieq_f hO (by omega)
    have : refB r = false := by
     match r, h1 with
     | [], _ => rfl
     | [_], h => simp at h
     | _ :: _ :: _, _ => rfl
    rw [this] at hR
    subst hR
    generalize encs (h :: r) = xs at hL hc h28 ⊢
    generalize encs r = ys at hc hL2
    (try cbv;repeat (simp only [w_same hO,e0,e1,e2,hL,e3,hc];try cbv))
    refine Pure.go (h28 _) ?_
    (try cbv;repeat (simp only [w_same hO,t1,t2,t3,t4,t5,t6,t7,t8,t9,hL2,e4];try cbv))
    (intro i k x hx;have hne:=WFS.ne hw i k x hx;first|exact hx|(simp (disch:=assumption) only [w_upd2_ne hO];exact hx))
   have e4 : O.ieq L2 1 = true := w_ieq_t hO (by omega)
   obtain ⟨a0, ha0⟩ : ∃ a, r = [a] := by
    match r, h1 with
    | [a], _ => exact ⟨a, rfl⟩
   subst ha0
   obtain ⟨ak, am, at_, an, al⟩ := a0
   have hR' : (decide (ak = 0) && decide (1 ≤ am)) = R := hR
   have e5 := v_ieq hO ak 0
   have e6 := v_ile hO 1 am
   clear hR
   generalize decide (ak = 0) = b1 at hR' e5
   generalize decide (1 ≤ am) = b2 at hR' e6
   generalize encs (h :: [.mk ak am at_ an al]) = xs at hL hc h28 ⊢
   simp only [encs, enc] at hc hL2
   generalize encs al = zs at hc hL2
   have g2 := w_get0 hO (.agg [.int .i64 ak, .int .i64 am, .str at_, .sl an 4 zs]) []
   clear h51 h52 h53 h19b h19i h57 h27 h56
   cases b1
   ·simp only [Bool.false_and] at hR'
    subst hR'
    (try cbv;repeat (simp only [w_same hO,e0,e1,e2,hL,e3,hc];try cbv))
    refine Pure.go (h28 _) ?_
    (try cbv;repeat (simp only [w_same hO,t1,t2,t3,t4,t5,t6,t7,t8,t9,hL2,e4,g2,e5];try cbv))
    (intro i k x hx;have hne:=WFS.ne hw i k x hx;first|exact hx|(simp (disch:=assumption) only [w_upd2_ne hO];exact hx))
   ·simp only [Bool.true_and] at hR'
    subst hR'
    (try cbv;repeat (simp only [w_same hO,e0,e1,e2,hL,e3,hc];try cbv))
    refine Pure.go (h28 _) ?_
    (try cbv;repeat (simp only [w_same hO,t1,t2,t3,t4,t5,t6,t7,t8,t9,hL2,e4,g2,e5,e6];try cbv))
    (intro i k x hx;have hne:=WFS.ne hw i k x hx;first|exact hx|(simp (disch:=assumption) only [w_upd2_ne hO];exact hx))
  simp only [cond_false] at hR
  cases d10
  case true =>
   simp only [cond_true] at hR
   subst hR
   generalize G r = b1 at h57 ⊢
   generalize encs (h :: r) = xs at hL hc h28 ⊢
   generalize encs r = ys at hc h57
   (try cbv;repeat (simp only [w_same hO,e0,e1,e2,hL,e3,hc];try cbv))
   refine Pure.go (h28 _) ?_
   (try cbv;repeat (simp only [w_same hO,t1,t2,t3,t4,t5,t6,t7,t8,t9,t10];try cbv))
   refine Pure.go (h57 _) ?_
   (try cbv;repeat (simp only [w_same hO];try cbv))
   (intro i k x hx;have hne:=WFS.ne hw i k x hx;first|exact hx|(simp (disch:=assumption) only [w_upd2_ne hO];exact hx))
  simp only [cond_false] at hR
  subst hR
  generalize encs (h :: r) = xs at hL hc h28 ⊢
  generalize encs r = ys at hc
  (try cbv;repeat (simp only [w_same hO,e0,e1,e2,hL,e3,hc];try cbv))
  refine Pure.go (h28 _) ?_
  (try cbv;repeat (simp only [w_same hO,t1,t2,t3,t4,t5,t6,t7,t8,t9,t10];try cbv))
  (intro i k x hx;have hne:=WFS.ne hw i k x hx;first|exact hx|(simp (disch:=assumption) only [w_upd2_ne hO];exact hx))
end Go.Pl.Z
