import Derived.Test.YtllbopmdpmjcpaaGreatDoorM11
import Derived.Test.YtllbopmdpmjcpaaGreatDoorM13
import Derived.Test.YtllbopmdpmjcpaaGreatDoorM14
set_option linter.unusedSimpArgs false
set_option linter.unusedVariables false
set_option linter.unusedSectionVars false
section
open Go Go.Pl Go.Proofs
namespace Go.Pl.Z
set_option maxRecDepth 100000
def brackets : List UInt8 := [40, 41, 34, 59]
def digits : List UInt8 := [48, 49, 50, 51, 52, 53, 54, 55, 56, 57]
def outsideB (c : Int) : Bool := decide (c < 33) || decide (126 < c) || decide (0 ≤ Lib.indexByte brackets c.toNat.toUInt8)
def numericB (s : List UInt8) : Bool := !decide (Lib.trimPrefix s [45] = []) && decide (Lib.trimS (Lib.trimPrefix s [45]) digits = [])
def badRune (x : Nat) : Bool := !decide ((x : Int) = 10) && (decide ((x : Int) < 32) || decide (126 < (x : Int)))
theorem w104 (P : Program) (c : Int) (h : ∀ S, Pl.Pure P 127 [.str brackets, .int .u8 c] S (.int .i64 (Lib.indexByte brackets c.toNat.toUInt8))) : Walks P F104 [.int .u8 c] (.bool (outsideB c)) := by
 intro H n b' c' O hO hw
 have e1 := v_ilt hO c 33
 have e2 := v_ilt hO 126 c
 have e3 := v_ile hO 0 (Lib.indexByte brackets c.toNat.toUInt8)
 unfold outsideB
 generalize Lib.indexByte brackets c.toNat.toUInt8 = d at h e3 ⊢
 generalize decide (c < 33) = b1 at e1 ⊢
 generalize decide (126 < c) = b2 at e2 ⊢
 generalize decide (0 ≤ d) = b3 at e3 ⊢
 cases b1
 ·cases b2
  ·(try cbv;repeat (simp only [w_same hO,e1,e2];try cbv))
   refine Pure.go (h _) ?_
   (try cbv;repeat (simp only [w_same hO,e3];try cbv))
   (intro i k x hx;have hne:=WFS.ne hw i k x hx;first|exact hx|(simp (disch:=assumption) only [w_upd2_ne hO];exact hx))
  ·(try cbv;repeat (simp only [w_same hO,e1,e2];try cbv))
   (intro i k x hx;have hne:=WFS.ne hw i k x hx;first|exact hx|(simp (disch:=assumption) only [w_upd2_ne hO];exact hx))
 ·(try cbv;repeat (simp only [w_same hO,e1];try cbv))
  (intro i k x hx;have hne:=WFS.ne hw i k x hx;first|exact hx|(simp (disch:=assumption) only [w_upd2_ne hO];exact hx))
theorem w103 (P : Program) (s : List UInt8) (h125 : ∀ S, Pl.Pure P 125 [.str s, .str [45]] S (.str (Lib.trimPrefix s [45])))
  (h126 : ∀ S, Pl.Pure P 126 [.str (Lib.trimPrefix s [45]), .str digits] S (.str (Lib.trimS (Lib.trimPrefix s [45]) digits))) : Walks P F103 [.str s] (.bool (numericB s)) := by
 intro H n b' c' O hO hw
 unfold numericB
 generalize Lib.trimPrefix s [45] = t at h125 h126 ⊢
 have e1 := v_seq hO t []
 generalize Lib.trimS t digits = u at h126 ⊢
 have e2 := v_seq hO u []
 generalize decide (t = []) = b1 at e1 ⊢
 generalize decide (u = []) = b2 at e2 ⊢
 (try cbv;repeat (simp only [w_same hO];try cbv))
 refine Pure.go (h125 _) ?_
 cases b1
 ·(try cbv;repeat (simp only [w_same hO,e1];try cbv))
  refine Pure.go (h126 _) ?_
  (try cbv;repeat (simp only [w_same hO,e2];try cbv))
  (intro i k x hx;have hne:=WFS.ne hw i k x hx;first|exact hx|(simp (disch:=assumption) only [w_upd2_ne hO];exact hx))
 ·(try cbv;repeat (simp only [w_same hO,e1];try cbv))
  (intro i k x hx;have hne:=WFS.ne hw i k x hx;first|exact hx|(simp (disch:=assumption) only [w_upd2_ne hO];exact hx))
theorem w105 (P : Program) (x : Nat) : Walks P F105 [.int .i32 x] (.bool (badRune x)) := by
 intro H n b' c' O hO hw
 unfold badRune
 generalize (x : Int) = y
 have e1 := v_ieq hO y 10
 have e2 := v_ilt hO y 32
 have e3 := v_ilt hO 126 y
 generalize decide (y = 10) = b1 at e1 ⊢
 generalize decide (y < 32) = b2 at e2 ⊢
 generalize decide (126 < y) = b3 at e3 ⊢
 cases b1 <;> cases b2 <;> ((try cbv;repeat (simp only [w_same hO,e1,e2,e3];try cbv)); (intro i k x hx;have hne:=WFS.ne hw i k x hx;first|exact hx|(simp (disch:=assumption) only [w_upd2_ne hO];exact hx)))
def noKids (f : Fm) : Bool := decide ((f.kids.length : Int) = 0)
def goodWord (t : List UInt8) : Bool := (!decide (t = []) && decide ((t.length : Int) ≤ 30) && !numericB t) && t.all (fun b => !outsideB b.toNat)
def goodText (t : List UInt8) : Bool := decide ((t.length : Int) ≤ 2000) && !decide (0 ≤ Lib.idxFunc badRune true ⟨t.toArray⟩)
def leafB (f : Fm) : Bool :=
 if f.kind = 0 then decide (f.text = []) && noKids f && decide (-1152921504606846976 ≤ f.n) && decide (f.n ≤ 1152921504606846976)
 else if f.kind = 1 then goodWord f.text && decide (f.n = 0) && noKids f
 else if f.kind = 2 then goodText f.text && decide (f.n = 0) && noKids f
 else if f.kind = 3 then decide (f.text = []) && decide (f.n = 0)
 else false
set_option maxHeartbeats 1000000 in
theorem w83 (P : Program) (f : Fm) (hlen : f.text.length ≤ 1000000000) (h103 : ∀ S, Pl.Pure P 103 [.str f.text] S (.bool (numericB f.text))) (h104 : ∀ b : UInt8, ∀ S, Pl.Pure P 104 [.int .u8 b.toNat] S (.bool (outsideB b.toNat)))
  (h87 : ∀ S, Pl.Pure P 87 [.str f.text, .fn 105 []] S (.bool (decide (0 ≤ Lib.idxFunc badRune true ⟨f.text.toArray⟩)))) : Walks P F83 [enc f] (.bool (leafB f)) := by
 intro H n b' c' O hO hw
 generalize hX : decide (0 ≤ Lib.idxFunc badRune true ⟨f.text.toArray⟩) = b9 at h87
 obtain ⟨k, m, t, nl, l⟩ := f
 simp only [Fm.text] at hlen h103 h87
 have hX' : decide (0 ≤ Lib.idxFunc badRune true ⟨t.toArray⟩) = b9 := hX
 clear hX
 have hv : leafB (.mk k m t nl l) = if k = 0 then decide (t = []) && decide ((l.length : Int) = 0) && decide (-1152921504606846976 ≤ m) && decide (m ≤ 1152921504606846976)
   else if k = 1 then goodWord t && decide (m = 0) && decide ((l.length : Int) = 0) else if k = 2 then goodText t && decide (m = 0) && decide ((l.length : Int) = 0) else if k = 3 then decide (t = []) && decide (m = 0) else false := rfl
 rw [hv]
 clear hv
 have hL := w_lenE hO l
 have rL := encs_refsB (frameS H n O hO []).ok l
 simp only [enc]
 have e0 := v_ieq hO (l.length : Int) 0
 generalize (l.length : Int) = L at hL e0 ⊢
 have e1 := v_seq hO t []
 have e2 := v_ieq hO m 0
 generalize encs l = xs at hL rL ⊢
 generalize decide (L = 0) = b0 at e0 ⊢
 generalize hb1 : decide (t = []) = b1 at e1 ⊢
 generalize decide (m = 0) = b2 at e2 ⊢
 by_cases k0 : k = 0
 ·rw [if_pos k0]
  have e5 : O.ieq k 0 = true := w_ieq_t hO k0
  have e3 := v_ile hO (-1152921504606846976) m
  have e4 := v_ile hO m 1152921504606846976
  generalize decide (-1152921504606846976 ≤ m) = b3 at e3 ⊢
  generalize decide (m ≤ 1152921504606846976) = b4 at e4 ⊢
  cases b1
  ·(try cbv;repeat (simp only [w_same hO,e5,e1];try cbv))
   (intro i k x hx;have hne:=WFS.ne hw i k x hx;first|exact hx|(simp (disch:=assumption) only [w_upd2_ne hO];exact hx))
  cases b0
  ·(try cbv;repeat (simp only [w_same hO,e5,e1,hL,e0];try cbv))
   (intro i k x hx;have hne:=WFS.ne hw i k x hx;first|exact hx|(simp (disch:=assumption) only [w_upd2_ne hO];exact hx))
  cases b3
  ·(try cbv;repeat (simp only [w_same hO,e5,e1,hL,e0,e3];try cbv))
   (intro i k x hx;have hne:=WFS.ne hw i k x hx;first|exact hx|(simp (disch:=assumption) only [w_upd2_ne hO];exact hx))
  ·(try cbv;repeat (simp only [w_same hO,e5,e1,hL,e0,e3,e4];try cbv))
   (intro i k x hx;have hne:=WFS.ne hw i k x hx;first|exact hx|(simp (disch:=assumption) only [w_upd2_ne hO];exact hx))
 rw [if_neg k0]
 have e5 : O.ieq k 0 = false := w_ieq_f hO k0
 by_cases k1 : k = 1
 ·rw [if_pos k1]
  have e6 : O.ieq k 1 = true := w_ieq_t hO k1
  have hT := w_slen hO t
  have gT := v_sget hO t
  obtain ⟨T, eT⟩ : ∃ T : Int, T = t.length := ⟨_, rfl⟩
  rw [← eT] at hT
  have e7 := v_ile hO T 30
  have gw : goodWord t = ((!b1 && decide (T ≤ 30) && !numericB t) && t.all (fun b => !outsideB b.toNat)) := by unfold goodWord; rw [hb1, eT]
  generalize goodWord t = G at gw ⊢
  generalize numericB t = nb at gw h103
  generalize decide (T ≤ 30) = b7 at e7 gw
  clear hb1
  have rr : (V.ref n 0 0).refsB (frameS H n O hO [.agg [.int .i64 k, .int .i64 m, .str t, .sl nl 4 xs]]).ok := by
   simp only [V.refsB]
   exact (ok_iff _ _ _).2 ⟨Nat.lt_succ_self _, fun _ => Nat.zero_lt_one⟩
  have rbx : boxesOk (frameS H n O hO [.agg [.int .i64 k, .int .i64 m, .str t, .sl nl 4 xs]]).ok [.agg [.int .i64 k, .int .i64 m, .str t, .sl nl 4 xs]] := by
   simp only [boxesOk, V.refsB, V.refsBs, and_true, true_and]
   exact refsBs_mono (fun i' k' hh => by
    rw [ok_iff] at hh ⊢
    exact ⟨hh.1, fun e => absurd (hh.2 e) (Nat.not_lt_zero _)⟩) xs rL
  cases b1
  ·cases b7
   ·simp only [Bool.not_false, Bool.true_and, Bool.false_and] at gw
    (try cbv;repeat (simp only [w_same hO,e5,e6,e1,hT,e7];try cbv))
    refine AW_loopT (A := Nat × Int × Bool) (fun a => [(1, .ref n 0 0), (3, .bool a.2.2), (4, .int .i64 a.2.1)]) (fun _ => frameS H n O hO [.agg [.int .i64 k, .int .i64 m, .str t, .sl nl 4 xs]])
     (fun a => a.2.1 = a.1 ∧ a.1 ≤ t.length ∧ G = (a.2.2 && (t.drop a.1).all (fun b => !outsideB b.toNat))) (fun a => t.length - a.1) (0, 0, false) ⟨rfl, Nat.zero_le _, by simpa using gw⟩
     (Drops.tab hw (Nat.le_refl _) [.agg [.int .i64 k, .int .i64 m, .str t, .sl nl 4 xs]] (fun _ _ _ => rfl) rbx (by simp only [tabOk]; exact ⟨.inl rfl, rr, .inl rfl, trivial, .inl rfl, trivial, trivial⟩)) ?_
    rintro ⟨i, j, g⟩ ⟨hj, hi, hin⟩ K hK
    simp only at hj hi hin hK
    replace hj : j = (i : Int) := hj
    replace eT : T = (t.length : Int) := eT
    by_cases hlt : i < t.length
    ·have l1 : O.ilt j T = true := w_ilt_t hO (by omega)
     cases g
     ·have eG : G = false := by rw [hin]; simp
      subst eG
      clear gw hin
      (try cbv;repeat (simp only [w_same hO,hT,l1];try cbv))
      (intro i k x hx;have hne:=WFS.ne hw i k x hx;first|exact hx|(simp (disch:=assumption) only [w_upd2_ne hO];exact hx))
     ·have g1 : O.sget t j = some (t[i].toNat : Int) := gT i j hj hlt
      have hf : ∀ S, Pl.Pure P 104 [.int .u8 (t[i].toNat : Int)] S (.bool (outsideB (t[i].toNat : Int))) := h104 t[i]
      have hd : t.drop i = t[i] :: t.drop (i + 1) := List.drop_eq_getElem_cons hlt
      rw [hd] at hin
      simp only [List.all_cons, Bool.true_and] at hin
      replace hin : G = (!outsideB (t[i].toNat : Int) && (t.drop (i + 1)).all (fun b => !outsideB (b.toNat : Int))) := hin
      clear gT h104 gw hd
      generalize t[i] = x at g1 hf hin
      obtain ⟨y, hy⟩ : ∃ y : Int, y = x.toNat := ⟨_, rfl⟩
      rw [← hy] at g1 hf hin
      clear hy
      generalize outsideB y = ob at hf hin
      obtain ⟨j', hj'⟩ : ∃ j', j' = j + 1 := ⟨_, rfl⟩
      have hadd := w_add hO (a := j) (b := 1) (by omega) (by omega)
      rw [← hj'] at hadd
      (try cbv;repeat (simp only [w_same hO,hT,l1,g1];try cbv))
      refine Pure.go (hf _) ?_
      (try cbv;repeat (simp only [w_same hO,hadd];try cbv))
      replace hj' : j' = j + 1 := hj'
      replace hj : j = (i : Int) := hj
      refine hK _ _ (i + 1, j', !ob) (by show t.length - (i + 1) < t.length - i; omega) ⟨(by omega : j' = ((i + 1 : Nat) : Int)), (by omega : i + 1 ≤ t.length), hin⟩
       (Drops.tab hw (Nat.le_refl _) [.agg [.int .i64 k, .int .i64 m, .str t, .sl nl 4 xs]] (fun i k hne => ?_) rbx (by simp only [tabOk]; refine ⟨.inl rfl, rr, .inl ?_, trivial, .inl rfl, trivial, trivial⟩; cases ob <;> rfl))
      simp (disch := first | exact hne | decide) only [upd2_above hO]; rfl
    ·have l1 : O.ilt j T = false := w_ilt_f hO (by omega)
     have hd : t.drop i = [] := List.drop_eq_nil_of_le (by omega)
     rw [hd] at hin
     have eG : G = g := by rw [hin]; simp
     subst eG
     clear gw hin hd
     generalize hv : (G && b2 && b0) = v
     cases G
     ·simp at hv
      subst hv
      (try cbv;repeat (simp only [w_same hO,hT,l1];try cbv))
      (intro i k x hx;have hne:=WFS.ne hw i k x hx;first|exact hx|(simp (disch:=assumption) only [w_upd2_ne hO];exact hx))
     ·cases b2
      ·simp at hv
       subst hv
       (try cbv;repeat (simp only [w_same hO,hT,l1,e2];try cbv))
       (intro i k x hx;have hne:=WFS.ne hw i k x hx;first|exact hx|(simp (disch:=assumption) only [w_upd2_ne hO];exact hx))
      ·simp at hv
       subst hv
       (try cbv;repeat (simp only [w_same hO,hT,l1,e2,hL,e0];try cbv))
       (intro i k x hx;have hne:=WFS.ne hw i k x hx;first|exact hx|(simp (disch:=assumption) only [w_upd2_ne hO];exact hx))
   ·simp only [Bool.not_false, Bool.true_and] at gw
    (try cbv;repeat (simp only [w_same hO,e5,e6,e1,hT,e7];try cbv))
    refine Pure.go (h103 _) ?_
    cases nb
    ·(try cbv;repeat (simp only [w_same hO];try cbv))
     refine AW_loopT (A := Nat × Int × Bool) (fun a => [(1, .ref n 0 0), (3, .bool a.2.2), (4, .int .i64 a.2.1)]) (fun _ => frameS H n O hO [.agg [.int .i64 k, .int .i64 m, .str t, .sl nl 4 xs]])
      (fun a => a.2.1 = a.1 ∧ a.1 ≤ t.length ∧ G = (a.2.2 && (t.drop a.1).all (fun b => !outsideB b.toNat))) (fun a => t.length - a.1) (0, 0, true) ⟨rfl, Nat.zero_le _, by simpa using gw⟩
      (Drops.tab hw (Nat.le_refl _) [.agg [.int .i64 k, .int .i64 m, .str t, .sl nl 4 xs]] (fun _ _ _ => rfl) rbx (by simp only [tabOk]; exact ⟨.inl rfl, rr, .inl rfl, trivial, .inl rfl, trivial, trivial⟩)) ?_
     rintro ⟨i, j, g⟩ ⟨hj, hi, hin⟩ K hK
     simp only at hj hi hin hK
     replace hj : j = (i : Int) := hj
     replace eT : T = (t.length : Int) := eT
     by_cases hlt : i < t.length
     ·have l1 : O.ilt j T = true := w_ilt_t hO (by omega)
      cases g
      ·have eG : G = false := by rw [hin]; simp
       subst eG
       clear gw hin
       (try cbv;repeat (simp only [w_same hO,hT,l1];try cbv))
       (intro i k x hx;have hne:=WFS.ne hw i k x hx;first|exact hx|(simp (disch:=assumption) only [w_upd2_ne hO];exact hx))
      ·have g1 : O.sget t j = some (t[i].toNat : Int) := gT i j hj hlt
       have hf : ∀ S, Pl.Pure P 104 [.int .u8 (t[i].toNat : Int)] S (.bool (outsideB (t[i].toNat : Int))) := h104 t[i]
       have hd : t.drop i = t[i] :: t.drop (i + 1) := List.drop_eq_getElem_cons hlt
       rw [hd] at hin
       simp only [List.all_cons, Bool.true_and] at hin
       replace hin : G = (!outsideB (t[i].toNat : Int) && (t.drop (i + 1)).all (fun b => !outsideB (b.toNat : Int))) := hin
       clear gT h104 gw hd
       generalize t[i] = x at g1 hf hin
       obtain ⟨y, hy⟩ : ∃ y : Int, y = x.toNat := ⟨_, rfl⟩
       rw [← hy] at g1 hf hin
       clear hy
       generalize outsideB y = ob at hf hin
       obtain ⟨j', hj'⟩ : ∃ j', j' = j + 1 := ⟨_, rfl⟩
       have hadd := w_add hO (a := j) (b := 1) (by omega) (by omega)
       rw [← hj'] at hadd
       (try cbv;repeat (simp only [w_same hO,hT,l1,g1];try cbv))
       refine Pure.go (hf _) ?_
       (try cbv;repeat (simp only [w_same hO,hadd];try cbv))
       replace hj' : j' = j + 1 := hj'
       replace hj : j = (i : Int) := hj
       refine hK _ _ (i + 1, j', !ob) (by show t.length - (i + 1) < t.length - i; omega) ⟨(by omega : j' = ((i + 1 : Nat) : Int)), (by omega : i + 1 ≤ t.length), hin⟩
        (Drops.tab hw (Nat.le_refl _) [.agg [.int .i64 k, .int .i64 m, .str t, .sl nl 4 xs]] (fun i k hne => ?_) rbx (by simp only [tabOk]; refine ⟨.inl rfl, rr, .inl ?_, trivial, .inl rfl, trivial, trivial⟩; cases ob <;> rfl))
       simp (disch := first | exact hne | decide) only [upd2_above hO]; rfl
     ·have l1 : O.ilt j T = false := w_ilt_f hO (by omega)
      have hd : t.drop i = [] := List.drop_eq_nil_of_le (by omega)
      rw [hd] at hin
      have eG : G = g := by rw [hin]; simp
      subst eG
      clear gw hin hd
      generalize hv : (G && b2 && b0) = v
      cases G
      ·simp at hv
       subst hv
       (try cbv;repeat (simp only [w_same hO,hT,l1];try cbv))
       (intro i k x hx;have hne:=WFS.ne hw i k x hx;first|exact hx|(simp (disch:=assumption) only [w_upd2_ne hO];exact hx))
      ·cases b2
       ·simp at hv
        subst hv
        (try cbv;repeat (simp only [w_same hO,hT,l1,e2];try cbv))
        (intro i k x hx;have hne:=WFS.ne hw i k x hx;first|exact hx|(simp (disch:=assumption) only [w_upd2_ne hO];exact hx))
       ·simp at hv
        subst hv
        (try cbv;repeat (simp only [w_same hO,hT,l1,e2,hL,e0];try cbv))
        (intro i k x hx;have hne:=WFS.ne hw i k x hx;first|exact hx|(simp (disch:=assumption) only [w_upd2_ne hO];exact hx))
    ·(try cbv;repeat (simp only [w_same hO];try cbv))
     refine AW_loopT (A := Nat × Int × Bool) (fun a => [(1, .ref n 0 0), (3, .bool a.2.2), (4, .int .i64 a.2.1)]) (fun _ => frameS H n O hO [.agg [.int .i64 k, .int .i64 m, .str t, .sl nl 4 xs]])
      (fun a => a.2.1 = a.1 ∧ a.1 ≤ t.length ∧ G = (a.2.2 && (t.drop a.1).all (fun b => !outsideB b.toNat))) (fun a => t.length - a.1) (0, 0, false) ⟨rfl, Nat.zero_le _, by simpa using gw⟩
      (Drops.tab hw (Nat.le_refl _) [.agg [.int .i64 k, .int .i64 m, .str t, .sl nl 4 xs]] (fun _ _ _ => rfl) rbx (by simp only [tabOk]; exact ⟨.inl rfl, rr, .inl rfl, trivial, .inl rfl, trivial, trivial⟩)) ?_
     rintro ⟨i, j, g⟩ ⟨hj, hi, hin⟩ K hK
     simp only at hj hi hin hK
     replace hj : j = (i : Int) := hj
     replace eT : T = (t.length : Int) := eT
     by_cases hlt : i < t.length
     ·have l1 : O.ilt j T = true := w_ilt_t hO (by omega)
      cases g
      ·have eG : G = false := by rw [hin]; simp
       subst eG
       clear gw hin
       (try cbv;repeat (simp only [w_same hO,hT,l1];try cbv))
       (intro i k x hx;have hne:=WFS.ne hw i k x hx;first|exact hx|(simp (disch:=assumption) only [w_upd2_ne hO];exact hx))
      ·have g1 : O.sget t j = some (t[i].toNat : Int) := gT i j hj hlt
       have hf : ∀ S, Pl.Pure P 104 [.int .u8 (t[i].toNat : Int)] S (.bool (outsideB (t[i].toNat : Int))) := h104 t[i]
       have hd : t.drop i = t[i] :: t.drop (i + 1) := List.drop_eq_getElem_cons hlt
       rw [hd] at hin
       simp only [List.all_cons, Bool.true_and] at hin
       replace hin : G = (!outsideB (t[i].toNat : Int) && (t.drop (i + 1)).all (fun b => !outsideB (b.toNat : Int))) := hin
       clear gT h104 gw hd
       generalize t[i] = x at g1 hf hin
       obtain ⟨y, hy⟩ : ∃ y : Int, y = x.toNat := ⟨_, rfl⟩
       rw [← hy] at g1 hf hin
       clear hy
       generalize outsideB y = ob at hf hin
       obtain ⟨j', hj'⟩ : ∃ j', j' = j + 1 := ⟨_, rfl⟩
       have hadd := w_add hO (a := j) (b := 1) (by omega) (by omega)
       rw [← hj'] at hadd
       (try cbv;repeat (simp only [w_same hO,hT,l1,g1];try cbv))
       refine Pure.go (hf _) ?_
       (try cbv;repeat (simp only [w_same hO,hadd];try cbv))
       replace hj' : j' = j + 1 := hj'
       replace hj : j = (i : Int) := hj
       refine hK _ _ (i + 1, j', !ob) (by show t.length - (i + 1) < t.length - i; omega) ⟨(by omega : j' = ((i + 1 : Nat) : Int)), (by omega : i + 1 ≤ t.length), hin⟩
        (Drops.tab hw (Nat.le_refl _) [.agg [.int .i64 k, .int .i64 m, .str t, .sl nl 4 xs]] (fun i k hne => ?_) rbx (by simp only [tabOk]; refine ⟨.inl rfl, rr, .inl ?_, trivial, .inl rfl, trivial, trivial⟩; cases ob <;> rfl))
       simp (disch := first | exact hne | decide) only [upd2_above hO]; rfl
     ·have l1 : O.ilt j T = false := w_ilt_f hO (by omega)
      have hd : t.drop i = [] := List.drop_eq_nil_of_le (by omega)
      rw [hd] at hin
      have eG : G = g := by rw [hin]; simp
      subst eG
      clear gw hin hd
      generalize hv : (G && b2 && b0) = v
      cases G
      ·simp at hv
       subst hv
       (try cbv;repeat (simp only [w_same hO,hT,l1];try cbv))
       (intro i k x hx;have hne:=WFS.ne hw i k x hx;first|exact hx|(simp (disch:=assumption) only [w_upd2_ne hO];exact hx))
      ·cases b2
       ·simp at hv
        subst hv
        (try cbv;repeat (simp only [w_same hO,hT,l1,e2];try cbv))
        (intro i k x hx;have hne:=WFS.ne hw i k x hx;first|exact hx|(simp (disch:=assumption) only [w_upd2_ne hO];exact hx))
       ·simp at hv
        subst hv
        (try cbv;repeat (simp only [w_same hO,hT,l1,e2,hL,e0];try cbv))
        (intro i k x hx;have hne:=WFS.ne hw i k x hx;first|exact hx|(simp (disch:=assumption) only [w_upd2_ne hO];exact hx))
  ·simp only [Bool.not_true, Bool.false_and] at gw
   (try cbv;repeat (simp only [w_same hO,e5,e6,e1];try cbv))
   refine AW_loopT (A := Nat × Int × Bool) (fun a => [(1, .ref n 0 0), (3, .bool a.2.2), (4, .int .i64 a.2.1)]) (fun _ => frameS H n O hO [.agg [.int .i64 k, .int .i64 m, .str t, .sl nl 4 xs]])
    (fun a => a.2.1 = a.1 ∧ a.1 ≤ t.length ∧ G = (a.2.2 && (t.drop a.1).all (fun b => !outsideB b.toNat))) (fun a => t.length - a.1) (0, 0, false) ⟨rfl, Nat.zero_le _, by simpa using gw⟩
    (Drops.tab hw (Nat.le_refl _) [.agg [.int .i64 k, .int .i64 m, .str t, .sl nl 4 xs]] (fun _ _ _ => rfl) rbx (by simp only [tabOk]; exact ⟨.inl rfl, rr, .inl rfl, trivial, .inl rfl, trivial, trivial⟩)) ?_
   rintro ⟨i, j, g⟩ ⟨hj, hi, hin⟩ K hK
   simp only at hj hi hin hK
   replace hj : j = (i : Int) := hj
   replace eT : T = (t.length : Int) := eT
   by_cases hlt : i < t.length
   ·have l1 : O.ilt j T = true := w_ilt_t hO (by omega)
    cases g
    ·have eG : G = false := by rw [hin]; simp
     subst eG
     clear gw hin
     (try cbv;repeat (simp only [w_same hO,hT,l1];try cbv))
     (intro i k x hx;have hne:=WFS.ne hw i k x hx;first|exact hx|(simp (disch:=assumption) only [w_upd2_ne hO];exact hx))
    ·have g1 : O.sget t j = some (t[i].toNat : Int) := gT i j hj hlt
     have hf : ∀ S, Pl.Pure P 104 [.int .u8 (t[i].toNat : Int)] S (.bool (outsideB (t[i].toNat : Int))) := h104 t[i]
     have hd : t.drop i = t[i] :: t.drop (i + 1) := List.drop_eq_getElem_cons hlt
     rw [hd] at hin
     simp only [List.all_cons, Bool.true_and] at hin
     replace hin : G = (!outsideB (t[i].toNat : Int) && (t.drop (i + 1)).all (fun b => !outsideB (b.toNat : Int))) := hin
     clear gT h104 gw hd
     generalize t[i] = x at g1 hf hin
     obtain ⟨y, hy⟩ : ∃ y : Int, y = x.toNat := ⟨_, rfl⟩
     rw [← hy] at g1 hf hin
     clear hy
     generalize outsideB y = ob at hf hin
     obtain ⟨j', hj'⟩ : ∃ j', j' = j + 1 := ⟨_, rfl⟩
     have hadd := w_add hO (a := j) (b := 1) (by omega) (by omega)
     rw [← hj'] at hadd
     (try cbv;repeat (simp only [w_same hO,hT,l1,g1];try cbv))
     refine Pure.go (hf _) ?_
     (try cbv;repeat (simp only [w_same hO,hadd];try cbv))
     replace hj' : j' = j + 1 := hj'
     replace hj : j = (i : Int) := hj
     refine hK _ _ (i + 1, j', !ob) (by show t.length - (i + 1) < t.length - i; omega) ⟨(by omega : j' = ((i + 1 : Nat) : Int)), (by omega : i + 1 ≤ t.length), hin⟩
      (Drops.tab hw (Nat.le_refl _) [.agg [.int .i64 k, .int .i64 m, .str t, .sl nl 4 xs]] (fun i k hne => ?_) rbx (by simp only [tabOk]; refine ⟨.inl rfl, rr, .inl ?_, trivial, .inl rfl, trivial, trivial⟩; cases ob <;> rfl))
     simp (disch := first | exact hne | decide) only [upd2_above hO]; rfl
   ·have l1 : O.ilt j T = false := w_ilt_f hO (by omega)
    have hd : t.drop i = [] := List.drop_eq_nil_of_le (by omega)
    rw [hd] at hin
    have eG : G = g := by rw [hin]; simp
    subst eG
    clear gw hin hd
    generalize hv : (G && b2 && b0) = v
    cases G
    ·simp at hv
     subst hv
     (try cbv;repeat (simp only [w_same hO,hT,l1];try cbv))
     (intro i k x hx;have hne:=WFS.ne hw i k x hx;first|exact hx|(simp (disch:=assumption) only [w_upd2_ne hO];exact hx))
    ·cases b2
     ·simp at hv
      subst hv
      (try cbv;repeat (simp only [w_same hO,hT,l1,e2];try cbv))
      (intro i k x hx;have hne:=WFS.ne hw i k x hx;first|exact hx|(simp (disch:=assumption) only [w_upd2_ne hO];exact hx))
     ·simp at hv
      subst hv
      (try cbv;repeat (simp only [w_same hO,hT,l1,e2,hL,e0];try cbv))
      (intro i k x hx;have hne:=WFS.ne hw i k x hx;first|exact hx|(simp (disch:=assumption) only [w_upd2_ne hO];exact hx))
 rw [if_neg k1]
 have e6 : O.ieq k 1 = false := w_ieq_f hO k1
 by_cases k2 : k = 2
 ·rw [if_pos k2]
  have e7 : O.ieq k 2 = true := w_ieq_t hO k2
  have hT := w_slen hO t
  have e8 := v_ile hO (t.length : Int) 2000
  unfold goodText
  generalize (t.length : Int) = T at hT e8 ⊢
  rw [hX']
  clear hX'
  generalize decide (T ≤ 2000) = b8 at e8 ⊢
  generalize hv : (b8 && !b9 && b2 && b0) = v
  cases b8
  ·simp at hv
   subst hv
   (try cbv;repeat (simp only [w_same hO,e5,e6,e7,hT,e8];try cbv))
   (intro i k x hx;have hne:=WFS.ne hw i k x hx;first|exact hx|(simp (disch:=assumption) only [w_upd2_ne hO];exact hx))
  ·(try cbv;repeat (simp only [w_same hO,e5,e6,e7,hT,e8];try cbv))
   refine Pure.go (h87 _) ?_
   cases b9
   ·cases b2
    ·simp at hv
     subst hv
     (try cbv;repeat (simp only [w_same hO,e2];try cbv))
     (intro i k x hx;have hne:=WFS.ne hw i k x hx;first|exact hx|(simp (disch:=assumption) only [w_upd2_ne hO];exact hx))
    ·simp at hv
     subst hv
     (try cbv;repeat (simp only [w_same hO,e2,hL,e0];try cbv))
     (intro i k x hx;have hne:=WFS.ne hw i k x hx;first|exact hx|(simp (disch:=assumption) only [w_upd2_ne hO];exact hx))
   ·simp at hv
    subst hv
    (try cbv;repeat (simp only [w_same hO];try cbv))
    (intro i k x hx;have hne:=WFS.ne hw i k x hx;first|exact hx|(simp (disch:=assumption) only [w_upd2_ne hO];exact hx))
 rw [if_neg k2]
 have e7 : O.ieq k 2 = false := w_ieq_f hO k2
 by_cases k3 : k = 3
 ·rw [if_pos k3]
  have e8 : O.ieq k 3 = true := w_ieq_t hO k3
  cases b1
  ·(try cbv;repeat (simp only [w_same hO,e5,e6,e7,e8,e1];try cbv))
   (intro i k x hx;have hne:=WFS.ne hw i k x hx;first|exact hx|(simp (disch:=assumption) only [w_upd2_ne hO];exact hx))
  ·(try cbv;repeat (simp only [w_same hO,e5,e6,e7,e8,e1,e2];try cbv))
   (intro i k x hx;have hne:=WFS.ne hw i k x hx;first|exact hx|(simp (disch:=assumption) only [w_upd2_ne hO];exact hx))
 ·rw [if_neg k3]
  have e8 : O.ieq k 3 = false := w_ieq_f hO k3
  (try cbv;repeat (simp only [w_same hO,e5,e6,e7,e8];try cbv))
  (intro i k x hx;have hne:=WFS.ne hw i k x hx;first|exact hx|(simp (disch:=assumption) only [w_upd2_ne hO];exact hx))
end Go.Pl.Z
end
section
open Go Go.Pl Go.Proofs
namespace Go.Pl.Z
set_option maxRecDepth 100000
def headF (f : Fm) : List UInt8 := if f.kind = 3 then (match f.kids with
 | g :: _ => if g.kind = 1 then g.text else []
 | [] => []) else []
def kidsF (f : Fm) : V := if f.kind = 3 then .sl f.nl 4 (encs f.kids) else .sl true 4 []
theorem w58 (P : Program) (f : Fm) : Walks P F58 [enc f] (kidsF f) := by
 obtain ⟨k, m, t, nl, l⟩ := f
 intro H n b' c O hO hw
 by_cases h : k = 3
 ·have e : kidsF (.mk k m t nl l) = .sl nl 4 (encs l) := by simp [kidsF, Fm.kind, Fm.nl, Fm.kids, h]
  rw [e]
  simp only [enc]
  generalize encs l = xs
  (try cbv;repeat (simp (disch:=first|assumption|omega|decide) only [w_same hO,w_ieq_t hO];try cbv))
  (intro i k x hx;have hne:=WFS.ne hw i k x hx;first|exact hx|(simp (disch:=assumption) only [w_upd2_ne hO];exact hx))
 ·have e : kidsF (.mk k m t nl l) = .sl true 4 [] := by simp [kidsF, Fm.kind, h]
  rw [e]
  simp only [enc]
  generalize encs l = xs
  (try cbv;repeat (simp (disch:=first|assumption|omega|decide) only [w_same hO,w_ieq_f hO];try cbv))
  (intro i k x hx;have hne:=WFS.ne hw i k x hx;first|exact hx|(simp (disch:=assumption) only [w_upd2_ne hO];exact hx))
theorem w28 (P : Program) (f : Fm) (h58 : ∀ S, Pl.Pure P 58 [enc f] S (kidsF f)) : Walks P F28 [enc f] (.str (headF f)) := by
 obtain ⟨k, m, t, nl, l⟩ := f
 intro H n b' c O hO hw
 by_cases h : k = 3
 ·have ek : kidsF (.mk k m t nl l) = .sl nl 4 (encs l) := by simp [kidsF, Fm.kind, Fm.nl, Fm.kids, h]
  rw [ek] at h58
  cases l with
  | nil =>
   have e : headF (.mk k m t nl []) = [] := by simp [headF, Fm.kids]
   rw [e]
   simp only [enc] at h58 ⊢
   have e1 : O.len (encs []) = 0 := by rw [w_len hO]; rfl
   generalize encs [] = xs at e1 h58 ⊢
   (try cbv;repeat (simp (disch:=first|assumption|omega|decide) only [w_same hO];try cbv))
   refine Pure.go (h58 _) ?_
   (try cbv;repeat (simp (disch:=first|assumption|omega|decide) only [w_same hO,e1,w_ilt_f hO];try cbv))
   (intro i k x hx;have hne:=WFS.ne hw i k x hx;first|exact hx|(simp (disch:=assumption) only [w_upd2_ne hO];exact hx))
  | cons g l' =>
   obtain ⟨k', m', t', nl', l''⟩ := g
   have e1 : ∃ L : Int, O.len (encs (.mk k' m' t' nl' l'' :: l')) = L ∧ 0 < L := ⟨_, rfl, by rw [w_len hO, encs_length, List.length_cons]; omega⟩
   have e2 : O.get (encs (.mk k' m' t' nl' l'' :: l')) 0 = some (enc (.mk k' m' t' nl' l'')) := w_get0 hO _ _
   by_cases h' : k' = 1
   ·have e : headF (.mk k m t nl (.mk k' m' t' nl' l'' :: l')) = t' := by simp [headF, Fm.kind, Fm.kids, Fm.text, h, h']
    rw [e]
    simp only [enc] at e2 h58 ⊢
    generalize encs (.mk k' m' t' nl' l'' :: l') = xs at e1 e2 h58 ⊢
    generalize encs l'' = ys at e2
    obtain ⟨L, e1, hL⟩ := e1
    have e3 : O.ilt 0 L = true := w_ilt_t hO (by omega)
    (try cbv;repeat (simp (disch:=first|assumption|omega|decide) only [w_same hO];try cbv))
    refine Pure.go (h58 _) ?_
    (try cbv;repeat (simp (disch:=first|assumption|omega|decide) only [w_same hO,w_ieq_t hO,e1,e2,e3];try cbv))
    (intro i k x hx;have hne:=WFS.ne hw i k x hx;first|exact hx|(simp (disch:=assumption) only [w_upd2_ne hO];exact hx))
   ·have e : headF (.mk k m t nl (.mk k' m' t' nl' l'' :: l')) = [] := by simp [headF, Fm.kind, Fm.kids, h, h']
    rw [e]
    simp only [enc] at e2 h58 ⊢
    generalize encs (.mk k' m' t' nl' l'' :: l') = xs at e1 e2 h58 ⊢
    generalize encs l'' = ys at e2
    obtain ⟨L, e1, hL⟩ := e1
    have e3 : O.ilt 0 L = true := w_ilt_t hO (by omega)
    (try cbv;repeat (simp (disch:=first|assumption|omega|decide) only [w_same hO];try cbv))
    refine Pure.go (h58 _) ?_
    (try cbv;repeat (simp (disch:=first|assumption|omega|decide) only [w_same hO,w_ieq_t hO,w_ieq_f hO,e1,e2,e3];try cbv))
    (intro i k x hx;have hne:=WFS.ne hw i k x hx;first|exact hx|(simp (disch:=assumption) only [w_upd2_ne hO];exact hx))
 ·have e : headF (.mk k m t nl l) = [] := by simp [headF, Fm.kind, h]
  have ek : kidsF (.mk k m t nl l) = .sl true 4 [] := by simp [kidsF, Fm.kind, h]
  rw [ek] at h58
  rw [e]
  simp only [enc] at h58 ⊢
  generalize encs l = xs at h58 ⊢
  have e1 : O.len [] = 0 := by rw [w_len hO]; rfl
  (try cbv;repeat (simp (disch:=first|assumption|omega|decide) only [w_same hO];try cbv))
  refine Pure.go (h58 _) ?_
  (try cbv;repeat (simp (disch:=first|assumption|omega|decide) only [w_same hO,e1,w_ilt_f hO];try cbv))
  (intro i k x hx;have hne:=WFS.ne hw i k x hx;first|exact hx|(simp (disch:=assumption) only [w_upd2_ne hO];exact hx))
end Go.Pl.Z
end
section
open Go Go.Pl Go.Proofs
namespace Go.Pl.Z
set_option maxRecDepth 100000
end Go.Pl.Z
end
section
open Go Go.Pl Go.Proofs
namespace Go.Pl.Z
set_option maxRecDepth 100000
def wordV (s : List UInt8) : V := .agg [.int .i64 1, .int .i64 0, .str s, .sl true 4 []]
def listV (nl : Bool) (xs : List V) : V := .agg [.int .i64 3, .int .i64 0, .str [], .sl nl 4 xs]
def callV (s : List UInt8) (xs : List V) : V := listV false (wordV s :: xs)
def fmV (k m : Int) (t : List UInt8) (nl : Bool) (xs : List V) : V := .agg [.int .i64 k, .int .i64 m, .str t, .sl nl 4 xs]
end Go.Pl.Z
end
section
open Go Go.Pl Go.Proofs
namespace Go.Pl.Z
set_option maxRecDepth 100000
end Go.Pl.Z
end
section
open Go Go.Pl Go.Proofs
namespace Go.Pl.Z
set_option maxRecDepth 100000
end Go.Pl.Z
end
section
open Go Go.Pl Go.Proofs
namespace Go.Pl.Z
set_option maxRecDepth 100000
end Go.Pl.Z
end
section
open Go Go.Pl Go.Proofs
namespace Go.Pl.Z
set_option maxRecDepth 100000
end Go.Pl.Z
end
section
open Go Go.Pl Go.Proofs
namespace Go.Pl.Z
set_option maxRecDepth 100000
end Go.Pl.Z
end
