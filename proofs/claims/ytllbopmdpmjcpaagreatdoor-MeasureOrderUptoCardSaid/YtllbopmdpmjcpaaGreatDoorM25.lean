import Derived.Test.YtllbopmdpmjcpaaGreatDoorM24
set_option linter.unusedSimpArgs false
set_option linter.unusedVariables false
set_option linter.unusedSectionVars false
open Go Go.Pl Go.Proofs
namespace Go.Pl.Z
set_option maxRecDepth 100000
def belowV (wv bv : Bool) (a b : Fm) : Bool :=
 bif decide (a.kind = 0) && decide (b.kind = 0) then decide (b.n < a.n) && decide (0 ≤ a.n)
 else bif decide (a.kind = 1) || decide (b.kind = 1) then isWordB a sTrue && isWordB b sFalse
 else bif decide (headF a = hData) then decide (headF b = hData) && wv
 else bif !decide (headF a = headF b) then false
 else bif decide (headF a = hBits) then decide ((b.kids.getD 2 default).n < (a.kids.getD 2 default).n)
 else bif decide (headF a = hSeq) then decide ((b.kids.length : Int) < (a.kids.length : Int))
 else bif decide (headF a = hSet) then insideB (b.kids.drop 1) (a.kids.drop 1)
 else bif decide (headF a = hBag) then bv
 else bif decide (headF a = hMap) then insideB ((b.kids.drop 1).map fstF) ((a.kids.drop 1).map fstF)
 else false
def belowOk (a : Fm) : Prop := (headF a ≠ [] → 1 ≤ a.kids.length) ∧ (headF a = hBits → 3 ≤ a.kids.length)
set_option maxHeartbeats 4000000 in
theorem w15 (P : Program) (wv bv : Bool) (a b : Fm) (oka : belowOk a) (okb : belowOk b) (h28a : ∀ S, Pl.Pure P 28 [enc a] S (.str (headF a))) (h28b : ∀ S, Pl.Pure P 28 [enc b] S (.str (headF b)))
  (h29a : ∀ S, Pl.Pure P 29 [enc a, .str sTrue] S (.bool (isWordB a sTrue))) (h29b : ∀ S, Pl.Pure P 29 [enc b, .str sFalse] S (.bool (isWordB b sFalse)))
  (h30 : headF a = hData → headF b = hData → ∀ S, Pl.Pure P 30 [enc b, enc a] S (.bool wv)) (h32 : headF a = hBag → headF b = hBag → ∀ S, Pl.Pure P 32 [enc b, enc a] S (.bool bv))
  (h31 : ∀ S, Pl.Pure P 31 [.sl b.nl 4 (encs (b.kids.drop 1)), .sl a.nl 4 (encs (a.kids.drop 1))] S (.bool (insideB (b.kids.drop 1) (a.kids.drop 1))))
  (h31m : ∀ S, Pl.Pure P 31 [keyP ((b.kids.drop 1).map fstF), keyP ((a.kids.drop 1).map fstF)] S (.bool (insideB ((b.kids.drop 1).map fstF) ((a.kids.drop 1).map fstF))))
  (h33a : headF a = hMap → ∀ S, Pl.Pure P 33 [.sl a.nl 4 (encs (a.kids.drop 1))] S (keyV ((a.kids.drop 1).map fstF)))
  (h33b : headF b = hMap → ∀ S, Pl.Pure P 33 [.sl b.nl 4 (encs (b.kids.drop 1))] S (keyV ((b.kids.drop 1).map fstF))) : Walks P F15 [enc a, enc b] (.bool (belowV wv bv a b)) := by
 intro H n b' c O hO hw
 have hv : belowV wv bv a b = (bif decide (a.kind = 0) && decide (b.kind = 0) then decide (b.n < a.n) && decide (0 ≤ a.n)
  else bif decide (a.kind = 1) || decide (b.kind = 1) then isWordB a sTrue && isWordB b sFalse
  else bif decide (headF a = hData) then decide (headF b = hData) && wv
  else bif !decide (headF a = headF b) then false
  else bif decide (headF a = hBits) then decide ((b.kids.getD 2 default).n < (a.kids.getD 2 default).n)
  else bif decide (headF a = hSeq) then decide ((b.kids.length : Int) < (a.kids.length : Int))
  else bif decide (headF a = hSet) then insideB (b.kids.drop 1) (a.kids.drop 1)
  else bif decide (headF a = hBag) then bv
  else bif decide (headF a = hMap) then insideB ((b.kids.drop 1).map fstF) ((a.kids.drop 1).map fstF)
  else false) := rfl
 generalize belowV wv bv a b = R at hv ⊢
 obtain ⟨oa1, oa2⟩ := oka
 obtain ⟨ob1, ob2⟩ := okb
 unfold sTrue at h29a
 unfold sFalse at h29b
 change R = _ at hv
 have hsT : isWordB a [116, 114, 117, 101] = isWordB a sTrue := rfl
 have hsF : isWordB b [102, 97, 108, 115, 101] = isWordB b sFalse := rfl
 rw [hsT] at h29a
 rw [hsF] at h29b
 clear hsT hsF
 generalize isWordB a sTrue = wa at h29a hv
 generalize isWordB b sFalse = wb at h29b hv
 generalize headF a = ha at *
 generalize headF b = hb at *
 obtain ⟨ak, am, at_, an, al⟩ := a
 obtain ⟨bk, bm, bt, bn, bl⟩ := b
 simp only [Fm.nl, Fm.kids] at h31 h31m h33a h33b oa1 oa2 ob1 ob2
 replace hv : R = (bif decide (ak = 0) && decide (bk = 0) then decide (bm < am) && decide (0 ≤ am)
  else bif decide (ak = 1) || decide (bk = 1) then wa && wb
  else bif decide (ha = hData) then decide (hb = hData) && wv
  else bif !decide (ha = hb) then false
  else bif decide (ha = hBits) then decide ((bl.getD 2 default).n < (al.getD 2 default).n)
  else bif decide (ha = hSeq) then decide ((bl.length : Int) < (al.length : Int))
  else bif decide (ha = hSet) then insideB (bl.drop 1) (al.drop 1)
  else bif decide (ha = hBag) then bv
  else bif decide (ha = hMap) then insideB ((bl.drop 1).map fstF) ((al.drop 1).map fstF)
  else false) := hv
 have lA := w_lenE hO al
 have lB := w_lenE hO bl
 obtain ⟨LA, eA⟩ : ∃ L : Int, L = al.length := ⟨_, rfl⟩
 obtain ⟨LB, eB⟩ : ∃ L : Int, L = bl.length := ⟨_, rfl⟩
 rw [← eA] at lA
 rw [← eB] at lB
 have cA : 1 ≤ al.length → O.cut (encs al) 1 LA = some (encs (al.drop 1)) := fun h => v_cutE hO al 1 LA 1 rfl eA h
 have cB : 1 ≤ bl.length → O.cut (encs bl) 1 LB = some (encs (bl.drop 1)) := fun h => v_cutE hO bl 1 LB 1 rfl eB h
 have gA : (h : 2 < al.length) → O.get (encs al) 2 = some (enc al[2]) := fun h => w_getE hO al 2 2 rfl h
 have gB : (h : 2 < bl.length) → O.get (encs bl) 2 = some (enc bl[2]) := fun h => w_getE hO bl 2 2 rfl h
 simp only [enc] at h28a h28b h29a h29b h30 h32 ⊢
 generalize hxa : encs al = xa at *
 generalize hxb : encs bl = xb at *
 clear hxa hxb
 have k1 := v_ieq hO ak 0
 have k2 := v_ieq hO bk 0
 have k3 := v_ieq hO ak 1
 have k4 := v_ieq hO bk 1
 cases q1 : (decide (ak = 0) && decide (bk = 0))
 case true =>
  rw [q1] at hv
  simp only [cond_true] at hv
  have e1 := v_ilt hO bm am
  have e2 := v_ile hO 0 am
  obtain ⟨q1a, q1b⟩ := (Bool.and_eq_true _ _).mp q1
  rw [q1a] at k1
  rw [q1b] at k2
  generalize decide (bm < am) = d1 at hv e1
  generalize decide (0 ≤ am) = d2 at hv e2
  clear h29a h29b h30 h31 h31m h32 h33a h33b cA cB gA gB q1 q1a q1b k3 k4
  cases d1
  ·simp only [Bool.false_and] at hv
   subst hv
   (try cbv;repeat (simp only [w_same hO];try cbv))
   refine ⟨_, h28a _, ?_⟩
   (try cbv;repeat (simp only [w_same hO];try cbv))
   refine ⟨_, h28b _, ?_⟩
   (try cbv;repeat (simp only [w_same hO,k1,k2,e1];try cbv))
   (intro i k x hx;have hne:=WFS.ne hw i k x hx;first|exact hx|(simp (disch:=assumption) only [w_upd2_ne hO];exact hx))
  ·simp only [Bool.true_and] at hv
   subst hv
   (try cbv;repeat (simp only [w_same hO];try cbv))
   refine ⟨_, h28a _, ?_⟩
   (try cbv;repeat (simp only [w_same hO];try cbv))
   refine ⟨_, h28b _, ?_⟩
   (try cbv;repeat (simp only [w_same hO,k1,k2,e1,e2];try cbv))
   (intro i k x hx;have hne:=WFS.ne hw i k x hx;first|exact hx|(simp (disch:=assumption) only [w_upd2_ne hO];exact hx))
 rw [q1] at hv
 simp only [cond_false] at hv
 generalize decide (ak = 0) = n1 at k1 q1
 generalize decide (bk = 0) = n2 at k2 q1
 have q1' : n1 = false ∨ n1 = true ∧ n2 = false := by cases n1 <;> cases n2 <;> simp_all
 clear q1
 cases q2 : (decide (ak = 1) || decide (bk = 1))
 case true =>
  rw [q2] at hv
  simp only [cond_true] at hv
  generalize decide (ak = 1) = n3 at k3 q2
  generalize decide (bk = 1) = n4 at k4 q2
  have q2' : n3 = true ∨ n3 = false ∧ n4 = true := by cases n3 <;> cases n4 <;> simp_all
  clear h30 h31 h31m h32 h33a h33b cA cB gA gB q2
  rcases q1' with rfl | ⟨rfl, rfl⟩ <;> rcases q2' with rfl | ⟨rfl, rfl⟩
  all_goals
   cases wa
   case false =>
    simp only [Bool.false_and] at hv
    subst hv
    (try cbv;repeat (simp only [w_same hO];try cbv))
    refine ⟨_, h28a _, ?_⟩
    (try cbv;repeat (simp only [w_same hO];try cbv))
    refine ⟨_, h28b _, ?_⟩
    (try cbv;repeat (simp only [w_same hO,k1,k2,k3,k4];try cbv))
    refine Pure.go (h29a _) ?_
    (try cbv;repeat (simp only [w_same hO];try cbv))
    (intro i k x hx;have hne:=WFS.ne hw i k x hx;first|exact hx|(simp (disch:=assumption) only [w_upd2_ne hO];exact hx))
   simp only [Bool.true_and] at hv
   subst hv
   (try cbv;repeat (simp only [w_same hO];try cbv))
   refine ⟨_, h28a _, ?_⟩
   (try cbv;repeat (simp only [w_same hO];try cbv))
   refine ⟨_, h28b _, ?_⟩
   (try cbv;repeat (simp only [w_same hO,k1,k2,k3,k4];try cbv))
   refine Pure.go (h29a _) ?_
   (try cbv;repeat (simp only [w_same hO];try cbv))
   refine Pure.go (h29b _) ?_
   (try cbv;repeat (simp only [w_same hO];try cbv))
   (intro i k x hx;have hne:=WFS.ne hw i k x hx;first|exact hx|(simp (disch:=assumption) only [w_upd2_ne hO];exact hx))
 rw [q2] at hv
 simp only [cond_false] at hv
 obtain ⟨q2a, q2b⟩ := Bool.or_eq_false_iff.1 q2
 rw [q2a] at k3
 rw [q2b] at k4
 clear q2 q2a q2b h29a h29b
 have t1 := v_seq hO ha hData
 by_cases hd : ha = hData
 ·rw [decide_eq_true hd] at t1 hv
  simp only [cond_true] at hv
  have t2 := v_seq hO hb hData
  unfold hData at t1
  by_cases hd2 : hb = hData
  ·rw [decide_eq_true hd2] at t2 hv
   simp only [Bool.true_and] at hv
   have h3 := h30 hd hd2
   subst hv
   unfold hData at t2
   clear h31 h31m h32 h33a h33b h30 cA cB gA gB hd hd2 oa1 oa2 ob1 ob2
   rcases q1' with rfl | ⟨rfl, rfl⟩
   all_goals
    (try cbv;repeat (simp only [w_same hO];try cbv))
    refine ⟨_, h28a _, ?_⟩
    (try cbv;repeat (simp only [w_same hO];try cbv))
    refine ⟨_, h28b _, ?_⟩
    (try cbv;repeat (simp only [w_same hO,k1,k2,k3,k4,t1,t2];try cbv))
    refine Pure.go (h3 _) ?_
    (try cbv;repeat (simp only [w_same hO];try cbv))
    (intro i k x hx;have hne:=WFS.ne hw i k x hx;first|exact hx|(simp (disch:=assumption) only [w_upd2_ne hO];exact hx))
  ·rw [decide_eq_false hd2] at t2 hv
   simp only [Bool.false_and] at hv
   subst hv
   unfold hData at t2
   clear h31 h31m h32 h33a h33b h30 cA cB gA gB hd hd2 oa1 oa2 ob1 ob2
   rcases q1' with rfl | ⟨rfl, rfl⟩
   all_goals
    (try cbv;repeat (simp only [w_same hO];try cbv))
    refine ⟨_, h28a _, ?_⟩
    (try cbv;repeat (simp only [w_same hO];try cbv))
    refine ⟨_, h28b _, ?_⟩
    (try cbv;repeat (simp only [w_same hO,k1,k2,k3,k4,t1,t2];try cbv))
    (intro i k x hx;have hne:=WFS.ne hw i k x hx;first|exact hx|(simp (disch:=assumption) only [w_upd2_ne hO];exact hx))
 rw [decide_eq_false hd] at t1 hv
 simp only [cond_false] at hv
 unfold hData at t1
 clear h30 hd
 by_cases he : ha = hb
 case neg =>
  have t2 : O.seq ha hb = false := w_seq_f hO he
  rw [decide_eq_false he] at hv
  simp only [Bool.not_false, cond_true] at hv
  subst hv
  clear h31 h31m h32 h33a h33b cA cB gA gB he oa1 oa2 ob1 ob2
  rcases q1' with rfl | ⟨rfl, rfl⟩
  all_goals
   (try cbv;repeat (simp only [w_same hO];try cbv))
   refine ⟨_, h28a _, ?_⟩
   (try cbv;repeat (simp only [w_same hO];try cbv))
   refine ⟨_, h28b _, ?_⟩
   (try cbv;repeat (simp only [w_same hO,k1,k2,k3,k4,t1,t2];try cbv))
   (intro i k x hx;have hne:=WFS.ne hw i k x hx;first|exact hx|(simp (disch:=assumption) only [w_upd2_ne hO];exact hx))
 rw [decide_eq_true he] at hv
 simp only [Bool.not_true, cond_false] at hv
 subst he
 have t2 : O.seq ha ha = true := w_seq_t hO rfl
 have t3 := v_seq hO ha hBits
 by_cases hB : ha = hBits
 ·rw [decide_eq_true hB] at t3 hv
  simp only [cond_true] at hv
  have la := oa2 hB
  have lb := ob2 hB
  have ga := gA (by omega)
  have gb := gB (by omega)
  have ea : al.getD 2 default = al[2] := by simp [List.getD_eq_getElem?_getD, show 2 < al.length by omega]
  have eb : bl.getD 2 default = bl[2] := by simp [List.getD_eq_getElem?_getD, show 2 < bl.length by omega]
  rw [ea, eb] at hv
  clear ea eb
  generalize al[2] = f at ga hv
  generalize bl[2] = g at gb hv
  obtain ⟨fk, fm, ft, fn, fl⟩ := f
  obtain ⟨gk, gm, gt, gn, gl⟩ := g
  replace hv : R = decide (gm < fm) := hv
  have e5 := v_ilt hO gm fm
  generalize decide (gm < fm) = d at hv e5
  subst hv
  simp only [enc] at ga gb
  generalize encs fl = us at ga
  generalize encs gl = zs at gb
  unfold hBits at t3
  clear h31 h31m h32 h33a h33b cA cB gA gB hB oa1 oa2 ob1 ob2
  rcases q1' with rfl | ⟨rfl, rfl⟩
  all_goals
   (try cbv;repeat (simp only [w_same hO];try cbv))
   refine ⟨_, h28a _, ?_⟩
   (try cbv;repeat (simp only [w_same hO];try cbv))
   refine ⟨_, h28b _, ?_⟩
   (try cbv;repeat (simp only [w_same hO,k1,k2,k3,k4,t1,t2,t3,ga,gb,e5];try cbv))
   (intro i k x hx;have hne:=WFS.ne hw i k x hx;first|exact hx|(simp (disch:=assumption) only [w_upd2_ne hO];exact hx))
 rw [decide_eq_false hB] at t3 hv
 simp only [cond_false] at hv
 unfold hBits at t3
 clear hB oa2 ob2 gA gB
 have t4 := v_seq hO ha hSeq
 by_cases hB : ha = hSeq
 ·rw [decide_eq_true hB] at t4 hv
  simp only [cond_true] at hv
  rw [← eA, ← eB] at hv
  have e5 := v_ilt hO LB LA
  generalize decide (LB < LA) = d at hv e5
  subst hv
  unfold hSeq at t4
  clear h31 h31m h32 h33a h33b cA cB hB oa1 ob1
  rcases q1' with rfl | ⟨rfl, rfl⟩
  all_goals
   (try cbv;repeat (simp only [w_same hO];try cbv))
   refine ⟨_, h28a _, ?_⟩
   (try cbv;repeat (simp only [w_same hO];try cbv))
   refine ⟨_, h28b _, ?_⟩
   (try cbv;repeat (simp only [w_same hO,k1,k2,k3,k4,t1,t2,t3,t4,lA,lB,e5];try cbv))
   (intro i k x hx;have hne:=WFS.ne hw i k x hx;first|exact hx|(simp (disch:=assumption) only [w_upd2_ne hO];exact hx))
 rw [decide_eq_false hB] at t4 hv
 simp only [cond_false] at hv
 unfold hSeq at t4
 clear hB
 have t5 := v_seq hO ha hSet
 by_cases hB : ha = hSet
 ·rw [decide_eq_true hB] at t5 hv
  simp only [cond_true] at hv
  have ca := cA (oa1 (by rw [hB]; decide))
  have cb := cB (ob1 (by rw [hB]; decide))
  rw [← hv] at h31
  clear hv
  unfold hSet at t5
  clear h31m h32 h33a h33b cA cB hB oa1 ob1
  generalize encs (al.drop 1) = ya at ca h31
  generalize encs (bl.drop 1) = yb at cb h31
  rcases q1' with rfl | ⟨rfl, rfl⟩
  all_goals
   (try cbv;repeat (simp only [w_same hO];try cbv))
   refine ⟨_, h28a _, ?_⟩
   (try cbv;repeat (simp only [w_same hO];try cbv))
   refine ⟨_, h28b _, ?_⟩
   (try cbv;repeat (simp only [w_same hO,k1,k2,k3,k4,t1,t2,t3,t4,t5,lA,lB,ca,cb];try cbv))
   refine ⟨_, h31 _, ?_⟩
   (try cbv;repeat (simp only [w_same hO];try cbv))
   (intro i k x hx;have hne:=WFS.ne hw i k x hx;first|exact hx|(simp (disch:=assumption) only [w_upd2_ne hO];exact hx))
 rw [decide_eq_false hB] at t5 hv
 simp only [cond_false] at hv
 unfold hSet at t5
 clear hB h31
 have t6 := v_seq hO ha hBag
 by_cases hB : ha = hBag
 ·rw [decide_eq_true hB] at t6 hv
  simp only [cond_true] at hv
  have h3 := h32 hB hB
  subst hv
  unfold hBag at t6
  clear h31m h32 h33a h33b cA cB hB oa1 ob1
  rcases q1' with rfl | ⟨rfl, rfl⟩
  all_goals
   (try cbv;repeat (simp only [w_same hO];try cbv))
   refine ⟨_, h28a _, ?_⟩
   (try cbv;repeat (simp only [w_same hO];try cbv))
   refine ⟨_, h28b _, ?_⟩
   (try cbv;repeat (simp only [w_same hO,k1,k2,k3,k4,t1,t2,t3,t4,t5,t6];try cbv))
   refine Pure.go (h3 _) ?_
   (try cbv;repeat (simp only [w_same hO];try cbv))
   (intro i k x hx;have hne:=WFS.ne hw i k x hx;first|exact hx|(simp (disch:=assumption) only [w_upd2_ne hO];exact hx))
 rw [decide_eq_false hB] at t6 hv
 simp only [cond_false] at hv
 unfold hBag at t6
 clear hB h32
 have t7 := v_seq hO ha hMap
 by_cases hB : ha = hMap
 ·rw [decide_eq_true hB] at t7 hv
  simp only [cond_true] at hv
  have ca := cA (oa1 (by rw [hB]; decide))
  have cb := cB (ob1 (by rw [hB]; decide))
  have ja := h33a hB
  have jb := h33b hB
  rw [← hv] at h31m
  clear hv
  unfold hMap at t7
  clear h33a h33b cA cB hB oa1 ob1
  generalize encs (al.drop 1) = ya at ca ja
  generalize encs (bl.drop 1) = yb at cb jb
  generalize (al.drop 1).map fstF = fa at ja h31m
  generalize (bl.drop 1).map fstF = fb at jb h31m
  cases fa with
  | nil =>
   cases fb with
   | nil =>
    simp only [keyV, keyP] at ja jb h31m
    rcases q1' with rfl | ⟨rfl, rfl⟩
    all_goals
     (try cbv;repeat (simp only [w_same hO];try cbv))
     refine ⟨_, h28a _, ?_⟩
     (try cbv;repeat (simp only [w_same hO];try cbv))
     refine ⟨_, h28b _, ?_⟩
     (try cbv;repeat (simp only [w_same hO,k1,k2,k3,k4,t1,t2,t3,t4,t5,t6,t7,lA,lB,ca,cb];try cbv))
     refine ⟨_, jb _, ?_⟩
     (try cbv;repeat (simp only [w_same hO,lA,lB,ca,cb];try cbv))
     refine ⟨_, ja _, ?_⟩
     (try cbv;repeat (simp only [w_same hO,lA,lB,ca,cb];try cbv))
     refine ⟨_, h31m _, ?_⟩
     (try cbv;repeat (simp only [w_same hO];try cbv))
     (intro i k x hx;have hne:=WFS.ne hw i k x hx;first|exact hx|(simp (disch:=assumption) only [w_upd2_ne hO];exact hx))
   | cons b0 br =>
    simp only [keyV, keyP] at ja jb h31m
    generalize encs (b0 :: br) = zb at jb h31m
    rcases q1' with rfl | ⟨rfl, rfl⟩
    all_goals
     (try cbv;repeat (simp only [w_same hO];try cbv))
     refine ⟨_, h28a _, ?_⟩
     (try cbv;repeat (simp only [w_same hO];try cbv))
     refine ⟨_, h28b _, ?_⟩
     (try cbv;repeat (simp only [w_same hO,k1,k2,k3,k4,t1,t2,t3,t4,t5,t6,t7,lA,lB,ca,cb];try cbv))
     refine ⟨_, jb _, ?_⟩
     (try cbv;repeat (simp only [w_same hO,lA,lB,ca,cb];try cbv))
     refine ⟨_, ja _, ?_⟩
     (try cbv;repeat (simp only [w_same hO,lA,lB,ca,cb];try cbv))
     refine ⟨_, h31m _, ?_⟩
     (try cbv;repeat (simp only [w_same hO];try cbv))
     (intro i k x hx;have hne:=WFS.ne hw i k x hx;first|exact hx|(simp (disch:=assumption) only [w_upd2_ne hO];exact hx))
  | cons a0 ar =>
   cases fb with
   | nil =>
    simp only [keyV, keyP] at ja jb h31m
    generalize encs (a0 :: ar) = za at ja h31m
    rcases q1' with rfl | ⟨rfl, rfl⟩
    all_goals
     (try cbv;repeat (simp only [w_same hO];try cbv))
     refine ⟨_, h28a _, ?_⟩
     (try cbv;repeat (simp only [w_same hO];try cbv))
     refine ⟨_, h28b _, ?_⟩
     (try cbv;repeat (simp only [w_same hO,k1,k2,k3,k4,t1,t2,t3,t4,t5,t6,t7,lA,lB,ca,cb];try cbv))
     refine ⟨_, jb _, ?_⟩
     (try cbv;repeat (simp only [w_same hO,lA,lB,ca,cb];try cbv))
     refine ⟨_, ja _, ?_⟩
     (try cbv;repeat (simp only [w_same hO,lA,lB,ca,cb];try cbv))
     refine ⟨_, h31m _, ?_⟩
     (try cbv;repeat (simp only [w_same hO];try cbv))
     (intro i k x hx;have hne:=WFS.ne hw i k x hx;first|exact hx|(simp (disch:=assumption) only [w_upd2_ne hO];exact hx))
   | cons b0 br =>
    simp only [keyV, keyP] at ja jb h31m
    generalize encs (a0 :: ar) = za at ja h31m
    generalize encs (b0 :: br) = zb at jb h31m
    rcases q1' with rfl | ⟨rfl, rfl⟩
    all_goals
     (try cbv;repeat (simp only [w_same hO];try cbv))
     refine ⟨_, h28a _, ?_⟩
     (try cbv;repeat (simp only [w_same hO];try cbv))
     refine ⟨_, h28b _, ?_⟩
     (try cbv;repeat (simp only [w_same hO,k1,k2,k3,k4,t1,t2,t3,t4,t5,t6,t7,lA,lB,ca,cb];try cbv))
     refine ⟨_, jb _, ?_⟩
     (try cbv;repeat (simp only [w_same hO,lA,lB,ca,cb];try cbv))
     refine ⟨_, ja _, ?_⟩
     (try cbv;repeat (simp only [w_same hO,lA,lB,ca,cb];try cbv))
     refine ⟨_, h31m _, ?_⟩
     (try cbv;repeat (simp only [w_same hO];try cbv))
     (intro i k x hx;have hne:=WFS.ne hw i k x hx;first|exact hx|(simp (disch:=assumption) only [w_upd2_ne hO];exact hx))
 rw [decide_eq_false hB] at t7 hv
 simp only [cond_false] at hv
 unfold hMap at t7
 subst hv
 clear hB h31m h33a h33b cA cB oa1 ob1
 rcases q1' with rfl | ⟨rfl, rfl⟩
 all_goals
  (try cbv;repeat (simp only [w_same hO];try cbv))
  refine ⟨_, h28a _, ?_⟩
  (try cbv;repeat (simp only [w_same hO];try cbv))
  refine ⟨_, h28b _, ?_⟩
  (try cbv;repeat (simp only [w_same hO,k1,k2,k3,k4,t1,t2,t3,t4,t5,t6,t7];try cbv))
  (intro i k x hx;have hne:=WFS.ne hw i k x hx;first|exact hx|(simp (disch:=assumption) only [w_upd2_ne hO];exact hx))
end Go.Pl.Z
