import Derived.Test.YtllbopmdpmjcpaaGreatDoorM18
import Derived.Test.YtllbopmdpmjcpaaGreatDoorM20
import Derived.Test.YtllbopmdpmjcpaaGreatDoorM21
set_option linter.unusedSimpArgs false
set_option linter.unusedVariables false
set_option linter.unusedSectionVars false
section
open Go Go.Pl
namespace Go.Pl.Z
theorem all_congr' {l : List Fm} {p q : Fm → Bool} (h : ∀ g ∈ l, p g = q g) : l.all p = l.all q := by
 induction l with
 | nil => rfl
 | cons a r ih =>
  simp only [List.all_cons]
  rw [h a List.mem_cons_self, ih fun g hg => h g (List.mem_cons_of_mem _ hg)]
theorem pairB_congr {W W' : Fm → Bool} {p : Fm} (h : ∀ g ∈ p.kids, W g = W' g) : pairB W p = pairB W' p := by
 unfold pairB
 by_cases h2 : (p.kids.length : Int) = 2
 ·obtain ⟨y, g, r, hk⟩ := two_kids (show 1 < p.kids.length by omega)
  have e1 : fstF p = y := by unfold fstF; rw [hk]; rfl
  have e2 : sndF p = g := by unfold sndF; rw [hk]; rfl
  rw [e1, e2, h y (by rw [hk]; simp), h g (by rw [hk]; simp)]
 ·rw [decide_eq_false h2]; simp
theorem pairsB_congr {W W' : Fm → Bool} {l : List Fm} (h : ∀ p ∈ l, ∀ g ∈ p.kids, W g = W' g) : pairsB W l = pairsB W' l := by
 unfold pairsB
 rw [all_congr' fun p hp => pairB_congr (h p hp)]
theorem isX_congr {W W' : Fm → Bool} {G : (Fm → Bool) → List Fm → Bool} (hG : ∀ r, (∀ g, fsize g < fsizes r + 5 → W g = W' g) → G W r = G W' r) (f : Fm) (h : ∀ g, fsize g < fsize f → W g = W' g) : isX W (G W) f = isX W' (G W') f := by
 unfold isX
 cases hk : f.kids with
 | nil => rfl
 | cons a r =>
  have hsz : fsizes r + 10 ≤ fsize f := by
   obtain ⟨k, n, t, nl, l⟩ := f
   simp only [Fm.kids] at hk
   subst hk
   simp only [fsize, fsizes]
   have := fs_pos a
   omega
  have h1 : ∀ g ∈ r, W g = W' g := fun g hg => h g (by have := fs_mem hg; omega)
  have h2 : ∀ p ∈ r, ∀ g ∈ p.kids, W g = W' g := fun p hp g hg => h g (by have := fs_mem hp; have := fs_kid hg; omega)
  have h3 : G W r = G W' r := hG r fun g hg => h g (by omega)
  have h4 : imapB W r = imapB W' r := by
   cases r with
   | nil => rfl
   | cons d ps =>
    simp only [imapB]
    rw [h1 d List.mem_cons_self, pairsB_congr fun p hp => h2 p (List.mem_cons_of_mem _ hp)]
  have h5 : dataB W r = dataB W' r := by
   cases r with
   | nil => rfl
   | cons c cs =>
    simp only [dataB]
    rw [all_congr' fun g hg => h1 g (List.mem_cons_of_mem _ hg)]
  simp only [kidsX, headX]
  rw [all_congr' h1, pairsB_congr h2, h3, h4, h5]
def isN (G : (Fm → Bool) → List Fm → Bool) : Nat → Fm → Bool
 | 0, _ => false
 | k + 1, f => isX (isN G k) (G (isN G k)) f
def isV (G : (Fm → Bool) → List Fm → Bool) (f : Fm) : Bool := isN G (fsize f) f
theorem isN_eq {G : (Fm → Bool) → List Fm → Bool} (hG : ∀ W W' r, (∀ g, fsize g < fsizes r + 5 → W g = W' g) → G W r = G W' r) : ∀ (k : Nat) (f : Fm) (m : Nat), fsize f ≤ k → fsize f ≤ m → isN G k f = isN G m f
 | 0, f, m, h, _ => by have := fs_pos f; omega
 | k + 1, f, 0, _, h => by have := fs_pos f; omega
 | k + 1, f, m + 1, h, h' => by
  simp only [isN]
  exact isX_congr (hG _ _) f fun g hg => isN_eq hG k g m (by omega) (by omega)
theorem isV_eq {G : (Fm → Bool) → List Fm → Bool} (hG : ∀ W W' r, (∀ g, fsize g < fsizes r + 5 → W g = W' g) → G W r = G W' r) (f : Fm) : isV G f = isX (isV G) (G (isV G)) f := by
 have hp := fs_pos f
 obtain ⟨k, hk⟩ : ∃ k, fsize f = k + 1 := ⟨fsize f - 1, by omega⟩
 unfold isV
 rw [hk]
 simp only [isN]
 exact isX_congr (hG _ _) f fun g hg => isN_eq hG k g (fsize g) (by omega) (Nat.le_refl _)
end Go.Pl.Z
end
section
open Go Go.Pl Go.Proofs
namespace Go.Pl.Z
def F29 : F := ⟨14,[.tmp 4],.seq (.reg [⟨some 2,.box (.t 0),none⟩,⟨some 4,.asg (.k (.bool false)),none⟩]) (.seq (.reg [⟨some 5,.fa 0 1 false (.t 2),none⟩,⟨some 6,.ld 1 false (.t 5),none⟩,⟨some 7,.bin .eql (.t 6) (.k (.int .i64 1)),none⟩,⟨some 8,.mv (.t 7),none⟩,⟨some 9,.fa 2 1 false (.t 2),some (8,true)⟩,⟨some 10,.ld 1 false (.t 9),some (8,true)⟩,⟨some 11,.mv (.t 1),some (8,true)⟩,⟨some 12,.bin .eql (.t 10) (.t 11),some (8,true)⟩,⟨some 13,.pick (.t 8) (.t 12) (.k (.bool false)),none⟩,⟨some 4,.asg (.t 13),none⟩]) .ret)⟩
theorem c29 : compFn Tryz.prog Tryz.f29 = some F29 := by kernel_rfl
theorem g29 : isGo Tryz.prog 29 = true := by kernel_rfl
end Go.Pl.Z
end
section
open Go Go.Pl Go.Proofs
namespace Go.Pl.Z
set_option maxRecDepth 100000
def eqF (v w : Fm) : Bool := decide (cmpF v w = 0)
theorem p63v (P : Program) (fn : Func) (hm : P.follows .mixedOrders = true) (hf : P.funcs[63]? = some fn) (hgo : isGo P 63 = true) (hc : compFn P fn = some F63) (v w : Fm) (i : Nat) (S : St) (hS : S.H i 0 = some (enc v))
  (h20 : ∀ S, Pl.Pure P 20 [enc v, enc w] S (.bool (eqF v w))) : Pl.Pure P 63 [enc w, .ref i 0 0] S (.bool (eqF v w)) := by
 refine Pure_of_vc hm hf hgo hc (Nat.le_of_ble_eq_true rfl) (by simp only [V.refsB]) fun S' hle hw => ?_
 have hS' := hle.1 _ _ _ hS
 clear hS hle
 obtain ⟨H, n, b, c, O, hO⟩ := S'
 have hne := WFS.ne hw i 0 _ hS'
 simp only at hS'
 have e0 : O.same i n = false := w_same_f hO hne
 generalize eqF v w = t at h20 ⊢
 cases v; cases w
 simp only [enc] at h20 hS' ⊢
 generalize encs _ = xs at h20 hS'
 generalize encs _ = ys at h20 ⊢
 simp only [St.enter]
 (try cbv;repeat (simp only [w_same hO,e0,hS'];try cbv))
 refine Pure.go (h20 _) ?_
 (try cbv;repeat (simp only [w_same hO];try cbv))
 (intro i k x hx;have hne:=WFS.ne hw i k x hx;first|exact hx|(simp (disch:=assumption) only [w_upd2_ne hO];exact hx))
theorem p62v (P : Program) (fn : Func) (hm : P.follows .mixedOrders = true) (hf : P.funcs[62]? = some fn) (hgo : isGo P 62 = true) (hc : compFn P fn = some F62) (v : Fm) (na : Bool) (xs : List V) (i : Nat) (S : St) (hS : S.H i 0 = some (.sl na 4 xs)) (r : Bool)
  (h19 : ∀ (S : St) (j : Nat), S.ok j 0 = true → S.H j 0 = some (enc v) → Pl.Pure P 19 [.sl na 4 xs, .fn 63 [.ref j 0 0]] S (.bool r)) : Pl.Pure P 62 [enc v, .ref i 0 0] S (.bool (!r)) := by
 refine Pure_of_vc hm hf hgo hc (Nat.le_of_ble_eq_true rfl) (by simp only [V.refsB]) fun S' hle hw => ?_
 have hS' := hle.1 _ _ _ hS
 clear hS hle
 obtain ⟨H, n, b, c, O, hO⟩ := S'
 have hne := WFS.ne hw i 0 _ hS'
 simp only at hS'
 have e0 : O.same i n = false := w_same_f hO hne
 cases v
 simp only [enc] at h19 ⊢
 generalize encs _ = ys at h19 ⊢
 generalize hu : (!r) = u
 simp only [St.enter]
 (try cbv;repeat (simp only [w_same hO,e0,hS'];try cbv))
 refine Pure.go (h19 _ n ?_ ?_) ?_
 ·rw [ok_iff]
  simp only
  omega
 ·simp only [upd2_eq hO, and_self, if_true]
 subst hu
 cases r <;> ((try cbv;repeat (simp only [w_same hO];try cbv)); (intro i k x hx;have hne:=WFS.ne hw i k x hx;first|exact hx|(simp (disch:=assumption) only [w_upd2_ne hO];exact hx)))
theorem w31 (P : Program) (nb na : Bool) (bs as' : List Fm) (r : Bool)
  (h19 : ∀ (S : St) (j : Nat), S.ok j 0 = true → S.H j 0 = some (.sl na 4 (encs as')) → Pl.Pure P 19 [.sl nb 4 (encs bs), .fn 62 [.ref j 0 0]] S (.bool r)) :
  Walks P F31 [.sl nb 4 (encs bs), .sl na 4 (encs as')] (.bool (decide ((bs.length : Int) < (as'.length : Int)) && !r)) := by
 intro H n b c O hO hw
 have hB := w_lenE hO bs
 have hA := w_lenE hO as'
 have e1 := v_ilt hO (bs.length : Int) (as'.length : Int)
 generalize (bs.length : Int) = LB at hB e1 ⊢
 generalize (as'.length : Int) = LA at hA e1 ⊢
 generalize decide (LB < LA) = t at e1 ⊢
 generalize encs bs = xs at hB h19 ⊢
 generalize encs as' = ys at hA h19 ⊢
 generalize hu : (t && !r) = u
 cases t
 ·simp only [Bool.false_and] at hu
  subst hu
  (try cbv;repeat (simp only [w_same hO,hB,hA,e1];try cbv))
  (intro i k x hx;have hne:=WFS.ne hw i k x hx;first|exact hx|(simp (disch:=assumption) only [w_upd2_ne hO];exact hx))
 ·simp only [Bool.true_and] at hu
  (try cbv;repeat (simp only [w_same hO,hB,hA,e1];try cbv))
  refine Pure.go (h19 _ n ?_ ?_) ?_
  ·rw [ok_iff]
   simp only
   omega
  ·simp only [upd2_eq hO, and_self, if_true]
  subst hu
  cases r <;> ((try cbv;repeat (simp only [w_same hO];try cbv)); (intro i k x hx;have hne:=WFS.ne hw i k x hx;first|exact hx|(simp (disch:=assumption) only [w_upd2_ne hO];exact hx)))
def insideB (bs as' : List Fm) : Bool := decide ((bs.length : Int) < (as'.length : Int)) && !bs.any fun v => !as'.any (eqF v)
theorem p31 (nb na : Bool) (bs as' : List Fm) (hb : fsizes bs ≤ 1048576) (ha : fsizes as' ≤ 1048576) (S : St) : Pl.Pure Tryz.prog 31 [.sl nb 4 (encs bs), .sl na 4 (encs as')] S (.bool (insideB bs as')) := by
 have hbl : bs.length ≤ 1000000000 := by have := fs_len bs; omega
 have hal : as'.length ≤ 1000000000 := by have := fs_len as'; omega
 refine mkPure hm Tryz.func31 g31 c31 (Nat.le_of_ble_eq_true rfl) (qB _) (w31 _ nb na bs as' _ (fun S j hok hS => ?_)) S
 refine p19 nb bs 62 [.ref j 0 0] _ hbl S (by simp only [V.refsBs, V.refsB, and_true]; exact hok) (fun v hv => ?_)
 refine p62v _ _ hm Tryz.func62 g62 c62 v na (encs as') j S hS _ (fun S k hok' hS' => ?_)
 refine p19 na as' 63 [.ref k 0 0] _ hal S (by simp only [V.refsBs, V.refsB, and_true]; exact hok') (fun w hw => ?_)
 exact p63v _ _ hm Tryz.func63 g63 c63 v w k S hS' (p20 v w (by have := fs_mem hv; simp only [Fine]; omega))
def isWordB (f : Fm) (s : List UInt8) : Bool := decide (f.kind = 1) && decide (f.text = s)
theorem w29 (P : Program) (f : Fm) (s : List UInt8) : Walks P F29 [enc f, .str s] (.bool (isWordB f s)) := by
 intro H n b c O hO hw
 obtain ⟨k, q, t, nl, l⟩ := f
 have hv : isWordB (.mk k q t nl l) s = (decide (k = 1) && decide (t = s)) := rfl
 rw [hv]
 clear hv
 have e1 := v_ieq hO k 1
 have e2 := v_seq hO t s
 generalize decide (k = 1) = b1 at e1 ⊢
 generalize decide (t = s) = b2 at e2 ⊢
 simp only [enc]
 generalize encs l = xs
 cases b1
 ·(try cbv;repeat (simp only [w_same hO,e1];try cbv))
  (intro i k x hx;have hne:=WFS.ne hw i k x hx;first|exact hx|(simp (disch:=assumption) only [w_upd2_ne hO];exact hx))
 ·cases b2 <;> ((try cbv;repeat (simp only [w_same hO,e1,e2];try cbv)); (intro i k x hx;have hne:=WFS.ne hw i k x hx;first|exact hx|(simp (disch:=assumption) only [w_upd2_ne hO];exact hx)))
theorem p29 (f : Fm) (s : List UInt8) (S : St) : Pl.Pure Tryz.prog 29 [enc f, .str s] S (.bool (isWordB f s)) := mkPure hm Tryz.func29 g29 c29 (Nat.le_of_ble_eq_true rfl) (qB _) (w29 _ f s) S
end Go.Pl.Z
end
section
open Go Go.Pl Go.Proofs
namespace Go.Pl.Z
set_option maxRecDepth 100000
theorem p60v (P : Program) (fn : Func) (hm : P.follows .mixedOrders = true) (hf : P.funcs[60]? = some fn) (hgo : isGo P 60 = true) (hc : compFn P fn = some F60) (b k : Fm) (w : Bool) (i : Nat) (S : St) (hS : S.H i 0 = some (enc b))
  (h20 : ∀ S, Pl.Pure P 20 [enc k, enc b] S (.bool (eqF k b))) (h30 : ∀ S, Pl.Pure P 30 [enc b, enc k] S (.bool w)) : Pl.Pure P 60 [enc k, .ref i 0 0] S (.bool (eqF k b || w)) := by
 refine Pure_of_vc hm hf hgo hc (Nat.le_of_ble_eq_true rfl) (by simp only [V.refsB]) fun S' hle hw => ?_
 have hS' := hle.1 _ _ _ hS
 clear hS hle
 obtain ⟨H, n, b', c, O, hO⟩ := S'
 have hne := WFS.ne hw i 0 _ hS'
 simp only at hS'
 have e0 : O.same i n = false := w_same_f hO hne
 generalize eqF k b = t at h20 ⊢
 obtain ⟨bk, bm, bt, bn, bl⟩ := b
 obtain ⟨kk, km, kt, kn, kl⟩ := k
 simp only [enc] at h20 h30 hS' ⊢
 generalize encs bl = xs at h20 hS' h30
 generalize encs kl = ys at h20 h30 ⊢
 simp only [St.enter]
 cases t
 ·simp only [Bool.false_or]
  (try cbv;repeat (simp only [w_same hO,e0,hS'];try cbv))
  refine Pure.go (h20 _) ?_
  (try cbv;repeat (simp only [w_same hO,e0,hS'];try cbv))
  refine Pure.go (h30 _) ?_
  (try cbv;repeat (simp only [w_same hO];try cbv))
  (intro i k x hx;have hne:=WFS.ne hw i k x hx;first|exact hx|(simp (disch:=assumption) only [w_upd2_ne hO];exact hx))
 ·simp only [Bool.true_or]
  (try cbv;repeat (simp only [w_same hO,e0,hS'];try cbv))
  refine Pure.go (h20 _) ?_
  (try cbv;repeat (simp only [w_same hO];try cbv))
  (intro i k x hx;have hne:=WFS.ne hw i k x hx;first|exact hx|(simp (disch:=assumption) only [w_upd2_ne hO];exact hx))
theorem p59v (P : Program) (fn : Func) (hm : P.follows .mixedOrders = true) (hf : P.funcs[59]? = some fn) (hgo : isGo P 59 = true) (hc : compFn P fn = some F59) (nl : Bool) (xs : List V) (i : Nat) (r : Bool) (S : St)
  (h19 : Pl.Pure P 19 [.sl nl 4 xs, .fn 60 [.ref i 0 0]] S (.bool r)) : Pl.Pure P 59 [.sl nl 4 xs, .ref i 0 0] S (.bool r) := by
 refine Pure_of_vc hm hf hgo hc (Nat.le_of_ble_eq_true rfl) (by simp only [V.refsB]) fun S' hle hw => ?_
 have h' := h19.le hle
 clear h19 hle
 obtain ⟨H, n, b, c, O, hO⟩ := S'
 have h2 := h'.le le_enter
 clear h'
 simp only [St.enter]
 (try cbv;repeat (simp only [w_same hO];try cbv))
 refine Pure.go h2 ?_
 (try cbv;repeat (simp only [w_same hO];try cbv))
 (intro i k x hx;have hne:=WFS.ne hw i k x hx;first|exact hx|(simp (disch:=assumption) only [w_upd2_ne hO];exact hx))
def innerOf (a : Fm) : List Fm :=
 bif decide (headF a = hData) then a.kids.drop 2 else bif decide (headF a = hSeq) || decide (headF a = hSet) then a.kids.drop 1 else bif decide (headF a = hBag) then (a.kids.drop 1).map fstF
 else bif decide (headF a = hMap) then (a.kids.drop 1).map sndF else []
def innerOk (a : Fm) : Prop := (headF a ≠ [] → 1 ≤ a.kids.length) ∧ (headF a = hData → 2 ≤ a.kids.length) ∧ ((headF a = hBag ∨ headF a = hMap) → ∀ p ∈ a.kids.drop 1, 1 < p.kids.length)
set_option maxHeartbeats 2000000 in
theorem w30 (P : Program) (b a : Fm) (I : Fm → Bool) (hok : innerOk a) (hlen : a.kids.length ≤ 1000000000) (h28 : ∀ S, Pl.Pure P 28 [enc a] S (.str (headF a)))
  (h33 : (∀ p ∈ a.kids.drop 1, 1 < p.kids.length) → ∀ S, Pl.Pure P 33 [.sl a.nl 4 (encs (a.kids.drop 1))] S (keyV ((a.kids.drop 1).map fstF)))
  (h61 : (∀ p ∈ a.kids.drop 1, 1 < p.kids.length) → ∀ S, Pl.Pure P 61 [.sl a.nl 4 (encs (a.kids.drop 1))] S (keyV ((a.kids.drop 1).map sndF)))
  (h59 : ∀ (S : St) (i : Nat), S.ok i 0 = true → S.H i 0 = some (enc b) → ∀ nl, Pl.Pure P 59 [.sl nl 4 (encs (innerOf a)), .ref i 0 0] S (.bool ((innerOf a).any I))) :
  Walks P F30 [enc b, enc a] (.bool ((innerOf a).any I)) := by
 intro H n b' c O hO hw
 have hokN : ∀ (H' : Nat → Nat → Option V) (c' : Nat), 0 < c' → St.ok ⟨H', n + 1, n, c', O, hO⟩ n 0 = true := fun H' c' h => (ok_iff _ _ _).2 ⟨Nat.lt_succ_self _, fun _ => h⟩
 obtain ⟨o1, o2, o3⟩ := hok
 have hin : innerOf a = bif decide (headF a = hData) then a.kids.drop 2 else bif decide (headF a = hSeq) || decide (headF a = hSet) then a.kids.drop 1 else bif decide (headF a = hBag) then (a.kids.drop 1).map fstF
  else bif decide (headF a = hMap) then (a.kids.drop 1).map sndF else [] := rfl
 generalize innerOf a = inn at hin h59 ⊢
 have t1 := v_seq hO (headF a) hData
 have t2 := v_seq hO (headF a) hSeq
 have t3 := v_seq hO (headF a) hSet
 have t4 := v_seq hO (headF a) hBag
 have t5 := v_seq hO (headF a) hMap
 have o3' : headF a = hBag → ∀ p ∈ a.kids.drop 1, 1 < p.kids.length := fun h => o3 (.inl h)
 have o3'' : headF a = hMap → ∀ p ∈ a.kids.drop 1, 1 < p.kids.length := fun h => o3 (.inr h)
 have o4 : headF a = hSeq → 1 ≤ a.kids.length := fun h => o1 (by rw [h]; decide)
 have o5 : headF a = hSet → 1 ≤ a.kids.length := fun h => o1 (by rw [h]; decide)
 have o6 : headF a = hBag → 1 ≤ a.kids.length := fun h => o1 (by rw [h]; decide)
 have o7 : headF a = hMap → 1 ≤ a.kids.length := fun h => o1 (by rw [h]; decide)
 clear o1 o3
 generalize headF a = hd at *
 obtain ⟨k, q, t, nl, l⟩ := a
 simp only [Fm.kids, Fm.nl] at *
 have hL := w_lenE hO l
 obtain ⟨L, eL⟩ : ∃ L : Int, L = l.length := ⟨_, rfl⟩
 rw [← eL] at hL
 have cut1 : 1 ≤ l.length → O.cut (encs l) 1 L = some (encs (l.drop 1)) := fun h => v_cutE hO l 1 L 1 rfl eL h
 have cut2 : 2 ≤ l.length → O.cut (encs l) 2 L = some (encs (l.drop 2)) := fun h => v_cutE hO l 2 L 2 rfl eL h
 obtain ⟨bk, bm, bt, bn, bl⟩ := b
 generalize hr : inn.any I = r at h59 ⊢
 simp only [enc] at h28 h59 ⊢
 generalize encs bl = zs at h59 ⊢
 by_cases q1 : hd = hData
 ·have c1 := cut2 (o2 q1)
  rw [decide_eq_true q1] at t1 hin
  simp only [cond_true] at hin
  subst hin
  unfold hData at t1
  clear cut1 cut2 h33 h61 t2 t3 t4 t5 o2 o3' o3'' o4 o5 o6 o7 q1 hr
  generalize encs l = xs at hL c1 h28 ⊢
  generalize encs (l.drop 2) = ys at c1 h59
  (try cbv;repeat (simp only [w_same hO];try cbv))
  refine Pure.go (h28 _) ?_
  (try cbv;repeat (simp only [w_same hO,t1,hL,c1];try cbv))
  refine Pure.go (h59 _ n (hokN _ _ (by decide)) ?_ _) ?_
  ·simp only [upd2_eq hO]; simp
  (try cbv;repeat (simp only [w_same hO];try cbv))
  (intro i k x hx;have hne:=WFS.ne hw i k x hx;first|exact hx|(simp (disch:=assumption) only [w_upd2_ne hO];exact hx))
 rw [decide_eq_false q1] at t1 hin
 simp only [cond_false] at hin
 unfold hData at t1
 by_cases q2 : hd = hSeq ∨ hd = hSet
 ·have c1 := cut1 (q2.elim o4 o5)
  have e2 : (decide (hd = hSeq) || decide (hd = hSet)) = true := by rcases q2 with h | h <;> simp [h]
  rw [e2] at hin
  simp only [cond_true] at hin
  subst hin
  generalize decide (hd = hSeq) = d2 at t2 e2
  generalize decide (hd = hSet) = d3 at t3 e2
  unfold hSeq at t2
  unfold hSet at t3
  clear cut1 cut2 h33 h61 t4 t5 o2 o3' o3'' o4 o5 o6 o7 q1 q2 hr
  generalize encs l = xs at hL c1 h28 ⊢
  generalize encs (l.drop 1) = ys at c1 h59
  cases d2 <;> cases d3 <;> first | (simp at e2; done) | skip
  all_goals
   (try cbv;repeat (simp only [w_same hO];try cbv))
   refine Pure.go (h28 _) ?_
   (try cbv;repeat (simp only [w_same hO,t1,t2,t3,hL,c1];try cbv))
   refine Pure.go (h59 _ n (hokN _ _ (by decide)) ?_ _) ?_
   ·simp only [upd2_eq hO]; simp
   (try cbv;repeat (simp only [w_same hO];try cbv))
   (intro i k x hx;have hne:=WFS.ne hw i k x hx;first|exact hx|(simp (disch:=assumption) only [w_upd2_ne hO];exact hx))
 have q2a : hd ≠ hSeq := fun h => q2 (.inl h)
 have q2b : hd ≠ hSet := fun h => q2 (.inr h)
 rw [decide_eq_false q2a] at t2 hin
 rw [decide_eq_false q2b] at t3 hin
 simp only [Bool.or_self, cond_false] at hin
 unfold hSeq at t2
 unfold hSet at t3
 by_cases q4 : hd = hBag
 ·have c1 := cut1 (o6 q4)
  have g1 := h33 (o3' q4)
  rw [decide_eq_true q4] at t4 hin
  simp only [cond_true] at hin
  subst hin
  unfold hBag at t4
  clear cut1 cut2 h33 h61 t5 o2 o3' o3'' o4 o5 o6 o7 q1 q2 q2a q2b q4 hr
  generalize encs l = xs at hL c1 h28 ⊢
  generalize encs (l.drop 1) = ys at c1 g1
  generalize (l.drop 1).map fstF = ks at g1 h59
  cases ks with
  | nil =>
   have h5 := fun S i h1 h2 => h59 S i h1 h2 true
   clear h59
   simp only [keyV, encs] at g1 h5
   (try cbv;repeat (simp only [w_same hO];try cbv))
   refine Pure.go (h28 _) ?_
   (try cbv;repeat (simp only [w_same hO,t1,t2,t3,t4,hL,c1];try cbv))
   refine Pure.go (g1 _) ?_
   (try cbv;repeat (simp only [w_same hO];try cbv))
   refine Pure.go (h5 _ n (hokN _ _ (by decide)) ?_) ?_
   ·simp only [upd2_eq hO]; simp
   (try cbv;repeat (simp only [w_same hO];try cbv))
   (intro i k x hx;have hne:=WFS.ne hw i k x hx;first|exact hx|(simp (disch:=assumption) only [w_upd2_ne hO];exact hx))
  | cons k0 kr =>
   have h5 := fun S i h1 h2 => h59 S i h1 h2 false
   clear h59
   simp only [keyV] at g1
   generalize encs (k0 :: kr) = kx at g1 h5
   (try cbv;repeat (simp only [w_same hO];try cbv))
   refine Pure.go (h28 _) ?_
   (try cbv;repeat (simp only [w_same hO,t1,t2,t3,t4,hL,c1];try cbv))
   refine Pure.go (g1 _) ?_
   (try cbv;repeat (simp only [w_same hO];try cbv))
   refine Pure.go (h5 _ n (hokN _ _ (by decide)) ?_) ?_
   ·simp only [upd2_eq hO]; simp
   (try cbv;repeat (simp only [w_same hO];try cbv))
   (intro i k x hx;have hne:=WFS.ne hw i k x hx;first|exact hx|(simp (disch:=assumption) only [w_upd2_ne hO];exact hx))
 rw [decide_eq_false q4] at t4 hin
 simp only [cond_false] at hin
 unfold hBag at t4
 by_cases q5 : hd = hMap
 ·have c1 := cut1 (o7 q5)
  have g1 := h61 (o3'' q5)
  rw [decide_eq_true q5] at t5 hin
  simp only [cond_true] at hin
  subst hin
  unfold hMap at t5
  clear cut1 cut2 h33 h61 o2 o3' o3'' o4 o5 o6 o7 q1 q2 q2a q2b q4 q5 hr
  generalize encs l = xs at hL c1 h28 ⊢
  generalize encs (l.drop 1) = ys at c1 g1
  generalize (l.drop 1).map sndF = ks at g1 h59
  cases ks with
  | nil =>
   have h5 := fun S i h1 h2 => h59 S i h1 h2 true
   clear h59
   simp only [keyV, encs] at g1 h5
   (try cbv;repeat (simp only [w_same hO];try cbv))
   refine Pure.go (h28 _) ?_
   (try cbv;repeat (simp only [w_same hO,t1,t2,t3,t4,t5,hL,c1];try cbv))
   refine Pure.go (g1 _) ?_
   (try cbv;repeat (simp only [w_same hO];try cbv))
   refine Pure.go (h5 _ n (hokN _ _ (by decide)) ?_) ?_
   ·simp only [upd2_eq hO]; simp
   (try cbv;repeat (simp only [w_same hO];try cbv))
   (intro i k x hx;have hne:=WFS.ne hw i k x hx;first|exact hx|(simp (disch:=assumption) only [w_upd2_ne hO];exact hx))
  | cons k0 kr =>
   have h5 := fun S i h1 h2 => h59 S i h1 h2 false
   clear h59
   simp only [keyV] at g1
   generalize encs (k0 :: kr) = kx at g1 h5
   (try cbv;repeat (simp only [w_same hO];try cbv))
   refine Pure.go (h28 _) ?_
   (try cbv;repeat (simp only [w_same hO,t1,t2,t3,t4,t5,hL,c1];try cbv))
   refine Pure.go (g1 _) ?_
   (try cbv;repeat (simp only [w_same hO];try cbv))
   refine Pure.go (h5 _ n (hokN _ _ (by decide)) ?_) ?_
   ·simp only [upd2_eq hO]; simp
   (try cbv;repeat (simp only [w_same hO];try cbv))
   (intro i k x hx;have hne:=WFS.ne hw i k x hx;first|exact hx|(simp (disch:=assumption) only [w_upd2_ne hO];exact hx))
 rw [decide_eq_false q5] at t5 hin
 simp only [cond_false] at hin
 unfold hMap at t5
 subst hin
 simp only [List.any_nil] at hr
 subst hr
 clear cut1 cut2 h33 h61 h59
 generalize encs l = xs at hL h28 ⊢
 (try cbv;repeat (simp only [w_same hO];try cbv))
 refine Pure.go (h28 _) ?_
 (try cbv;repeat (simp only [w_same hO,t1,t2,t3,t4,t5];try cbv))
 (intro i k x hx;have hne:=WFS.ne hw i k x hx;first|exact hx|(simp (disch:=assumption) only [w_upd2_ne hO];exact hx))
end Go.Pl.Z
end
