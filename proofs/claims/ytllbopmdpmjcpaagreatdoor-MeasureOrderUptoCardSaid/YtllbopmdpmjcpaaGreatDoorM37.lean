import Derived.Test.YtllbopmdpmjcpaaGreatDoorM27
import Derived.Test.YtllbopmdpmjcpaaGreatDoorM36
set_option linter.unusedSimpArgs false
set_option linter.unusedVariables false
set_option linter.unusedSectionVars false
section
open Go Go.Pl Go.Proofs Go.Pl.Z
namespace Go.Pl.L
set_option maxRecDepth 100000
def endX (r : Option Int) : AE := AE.of 95 (exU r)
@[simp] theorem endX_none : endX none = .ret (.tup []) := rfl
def andX : Option Int → Option Int → Option Int
 | none, b => b
 | some c, _ => some c
@[simp] theorem andX_none (b : Option Int) : andX none b = b := rfl
@[simp] theorem andX_some (c : Int) (b : Option Int) : andX (some c) b = some c := rfl
def wantX (b : Bool) : Option Int := bif b then none else some 4
@[simp] theorem wantX_t : wantX true = none := rfl
@[simp] theorem wantX_f : wantX false = some 4 := rfl
section
variable {f : Nat} {args : List V} {R : Option Int} {S S₀ : St} {Kr : V → St → Prop}
theorem callX {r : Option Int} (h : Thr Tryz.prog f args (endX r)) (hp : ∀ c, r = some c → R = some c) (hk : r = none → Kr (.tup []) S) (hS : S = S₀ := by rfl) : callA Tryz.prog f args S Kr (kp fun e S' => e = endX R ∧ S' = S₀) := by
 subst hS
 cases r with
 | none => exact Thr.call h (hk rfl)
 | some c => exact Thr.pans (v := thrown 95 c) h ⟨by rw [hp c rfl]; rfl, rfl⟩
theorem callW {b : Bool} {v : V} (h : Thr Tryz.prog f args (AE.of 95 (wantV b v))) (hp : b = false → R = some 4) (hk : b = true → Kr v S) (hS : S = S₀ := by rfl) : callA Tryz.prog f args S Kr (kp fun e S' => e = endX R ∧ S' = S₀) := by
 subst hS
 cases b with
 | true => exact Thr.call h (hk rfl)
 | false => exact Thr.pans (v := thrown 95 4) h ⟨by rw [hp rfl]; rfl, rfl⟩
theorem callEx {r : Except Int V} (h : Thr Tryz.prog f args (AE.of 95 r)) (hp : ∀ c, r = .error c → R = some c) (hk : ∀ v, r = .ok v → Kr v S) (hS : S = S₀ := by rfl) : callA Tryz.prog f args S Kr (kp fun e S' => e = endX R ∧ S' = S₀) := by
 subst hS
 cases r with
 | ok v => exact Thr.call h (hk v rfl)
 | error c => exact Thr.pans (v := thrown 95 c) h ⟨by rw [hp c rfl]; rfl, rfl⟩
end
theorem x133 (b : Bool) : Thr Tryz.prog 133 [.bool b] (AE.of 95 (wantV b (.tup []))) := Thr.ofThrows (Z.t133 b)
theorem x164 (f : Fm) (m : Int) : Thr Tryz.prog 164 [enc f, .int .i64 m] (AE.of 95 (wantV (exactB f m) (slV f))) := Thr.ofThrows (Z.t164 f m)
theorem x206 (f : Fm) (m : Int) : Thr Tryz.prog 206 [enc f, .int .i64 m] (AE.of 95 (wantV (listB f m) (slV f))) := Thr.ofThrows (Z.t206 f m)
theorem x165 (f : Fm) : Thr Tryz.prog 165 [enc f] (AE.of 95 (wantV (nameFB isNameB f) (.str f.text))) := Thr.ofThrows (Z.t165 f)
theorem x211 (f : Fm) : Thr Tryz.prog 211 [enc f] (AE.of 95 (wantV (kindB f) (.tup []))) := Thr.ofThrows (Z.t211 f)
theorem x212 (f : Fm) (lo hi : Int) : Thr Tryz.prog 212 [enc f, .int .i64 lo, .int .i64 hi] (AE.of 95 (wantV (digitB f lo hi) (.tup []))) := Thr.ofThrows (Z.t212 f lo hi)
theorem x28 (f : Fm) : Thr Tryz.prog 28 [enc f] (.ret (.str (headF f))) := Thr.ofPure (Z.r28 f)
theorem drop_cons {α : Type} {l : List α} {i : Nat} (h : i < l.length) : l.drop i = l[i] :: l.drop (i + 1) := List.drop_eq_getElem_cons h
theorem x135 (E : Fm → Option Int) (nl : Bool) (l : List Fm) (hl : l.length ≤ 1000000000) (h : ∀ f ∈ l, Thr Tryz.prog 111 [enc f] (endX (E f))) : Thr Tryz.prog 135 [.sl nl 4 (encs l)] (endX (allX E l)) := by
 refine t135 _ _ fun S => ?_
 unfold s135
 simp
 unfold loop3
 intro R hR
 suffices key : ∀ (k i : Nat), i + k = l.length → allX E (l.drop i) = allX E l → R (.sl nl 4 (encs l)) (.int .i64 l.length) (.int .i64 i) S from key l.length 0 (by omega) (by simp)
 intro k
 induction k with
 | zero =>
  intro i hi hin
  refine hR _ _ _ _ ?_
  have : l.drop i = [] := List.drop_eq_nil_of_le (by omega)
  rw [this] at hin
  simp [show ¬ i < l.length by omega, ← hin, allX]
 | succ k ih =>
  intro i hi hin
  have hlt : i < l.length := by omega
  refine hR _ _ _ _ ?_
  rw [drop_cons hlt] at hin
  simp only [allX] at hin
  simp [hlt, op_iaE (S := S) (n := nl) (Int.natCast_nonneg i) (show l[(i : Int).toNat]? = some l[i] by simp [hlt])]
  refine callX (h l[i] (List.getElem_mem hlt)) (fun c hc => by rw [hc] at hin; exact hin.symm) fun hc => ?_
  rw [hc] at hin
  rw [op_add (by omega) (by omega)]
  simp
  exact ih (i + 1) (by omega) hin
def kd (k : List Fm) (i : Nat) : Fm := k.getD i default
def nameX (f : Fm) : Option Int := wantX (nameFB isNameB f)
def exactX (f : Fm) (m : Int) : Option Int := wantX (exactB f m)
def onceX (l : List (List UInt8)) : Option Int := bif decide l.Nodup then none else some 7
def rangeX (E : Fm → Option Int) (f : Fm) : Option Int := andX (exactX f 3) (andX (nameX (kd f.kids 0)) (allX E (f.kids.drop 1)))
def namesXX (f : Fm) (m : Int) : Option Int := andX (wantX (listB f m)) (andX (wantX (f.kids.all (nameFB isNameB))) (onceX (f.kids.map Fm.text)))
def typedXX (f : Fm) (m : Int) : Option Int := andX (wantX (listB f m)) (andX (wantX (f.kids.all (typedB isNameB))) (onceX (f.kids.map fun p => (fstF p).text)))
def boundX (E : Fm → Option Int) (k : List Fm) : Option Int := andX (wantX (decide ((k.length : Int) = 2))) (andX (exactX (kd k 0) 2) (andX (nameX (kd (kd k 0).kids 0)) (andX (E (kd (kd k 0).kids 1)) (E (kd k 1)))))
def armX (E : Fm → Option Int) (a : Fm) : Option Int := andX (exactX a 3) (andX (nameX (kd a.kids 0)) (andX (namesXX (kd a.kids 1) 0) (E (kd a.kids 2))))
def ofList : List Fm → List Fm
 | [] => []
 | f :: r => bif decide (headF f = hOf) then r else f :: r
def ofOk : List Fm → Bool
 | [] => true
 | f :: _ => bif decide (headF f = hOf) then listB f 2 && (f.kids.drop 1).all kindB else true
theorem exactB_two {f : Fm} (h : exactB f 2 = true) : ∃ x y, f.kids = [x, y] := by
 have := exactB_len (m := 2) h
 match hk : f.kids, this with
 | [x, y], _ => exact ⟨x, y, rfl⟩
theorem exactB_three {f : Fm} (h : exactB f 3 = true) : ∃ x y z, f.kids = [x, y, z] := by
 have := exactB_len (m := 3) h
 match hk : f.kids, this with
 | [x, y, z], _ => exact ⟨x, y, z, rfl⟩
theorem list1 {k : List Fm} (h : (k.length : Int) = 1) : ∃ x, k = [x] := by
 match k, h with
 | [x], _ => exact ⟨x, rfl⟩
 | [], h => simp at h
 | _ :: _ :: r, h => simp only [List.length_cons] at h; omega
theorem list2 {k : List Fm} (h : (k.length : Int) = 2) : ∃ x y, k = [x, y] := by
 match k, h with
 | [x, y], _ => exact ⟨x, y, rfl⟩
 | [], h => simp at h
 | [_], h => simp at h
 | _ :: _ :: _ :: r, h => simp only [List.length_cons] at h; omega
theorem list3 {k : List Fm} (h : (k.length : Int) = 3) : ∃ x y z, k = [x, y, z] := by
 match k, h with
 | [x, y, z], _ => exact ⟨x, y, z, rfl⟩
 | [], h => simp at h
 | [_], h => simp at h
 | [_, _], h => simp at h
 | _ :: _ :: _ :: _ :: r, h => simp only [List.length_cons] at h; omega
theorem listCons {k : List Fm} (h : 1 ≤ k.length) : ∃ x r, k = x :: r := by
 match k, h with
 | x :: r, _ => exact ⟨x, r, rfl⟩
@[simp] theorem kd_0 (x : Fm) (l : List Fm) : kd (x :: l) 0 = x := rfl
@[simp] theorem kd_1 (x y : Fm) (l : List Fm) : kd (x :: y :: l) 1 = y := rfl
@[simp] theorem kd_2 (x y z : Fm) (l : List Fm) : kd (x :: y :: z :: l) 2 = z := rfl
theorem x166 (E : Fm → Option Int) (f : Fm) (hl : f.kids.length ≤ 1000000000) (h : ∀ g ∈ f.kids, Thr Tryz.prog 111 [enc g] (endX (E g))) : Thr Tryz.prog 166 [enc f] (endX (rangeX E f)) := by
 refine t166 _ _ fun S => ?_
 unfold s166
 simp
 generalize hR : rangeX E f = R
 unfold rangeX exactX nameX at hR
 refine callW (x164 f 3) (fun hc => by simp [hc] at hR; exact hR.symm) fun hc => ?_
 obtain ⟨x, y, z, hk⟩ := exactB_three hc
 simp [hc, hk, slV] at hR ⊢
 refine callW (x165 x) (fun hc => by simp [hc] at hR; exact hR.symm) fun hc => ?_
 simp [hc] at hR ⊢
 refine callX (x135 E f.nl [y, z] (by simp) fun g hg => h g (by rw [hk]; simp at hg ⊢; exact .inr hg)) (fun c hc => by rw [hc] at hR; exact hR.symm) fun hc => ?_
 rw [hc] at hR
 exact ⟨by rw [← hR]; rfl, rfl⟩
theorem ofX_eq (nl : Bool) (l : List Fm) : ofX nl l = bif ofOk l then .ok (.sl nl 4 (encs (ofList l))) else .error 4 := by
 cases l with
 | nil => rfl
 | cons f r =>
  simp only [ofX, ofOk, ofList]
  cases decide (headF f = hOf) with
  | false => rfl
  | true => cases listB f 2 <;> cases (f.kids.drop 1).all kindB <;> rfl
theorem x170 (nl : Bool) (l : List Fm) (hl : ∀ f ∈ l, f.kids.length ≤ 1000000000) : Thr Tryz.prog 170 [.sl nl 4 (encs l)] (AE.of 95 (ofX nl l)) :=
 Thr.ofThrows fun S => mkThrows Z.hm Tryz.func170 Z.g170 Z.c170 (Nat.le_of_ble_eq_true rfl) (fun v e p => by
  rw [ofX_eq] at e
  cases ho : ofOk l with
  | false => rw [ho] at e; cases e
  | true => rw [ho] at e; cases e; simp only [V.refsB]; exact encs_refsB p _) (Z.w170 _ nl l hl (fun f _ S => Z.r28 f S) (fun f _ S => Z.t206 f 2 S) (fun _ _ g _ S => Z.t211 g S)) S
theorem keyS_names (f : Fm) (m : Int) (hf : Fine f) : Thr Tryz.prog 167 [enc f, .int .i64 m] (AE.of 95 (namesX isNameB f m)) := Thr.ofThrows (Z.t167 f m hf)
theorem keyS_typed (f : Fm) (m : Int) (hf : Fine f) : Thr Tryz.prog 169 [enc f, .int .i64 m] (AE.of 95 (typedX isNameB f m)) := Thr.ofThrows (Z.t169 f m hf)
def restX (E : Fm → Option Int) (h : List UInt8) (k : List Fm) : Option Int :=
 if h = [98, 105, 116, 115] then andX (wantX (decide ((k.length : Int) = 2))) (andX (wantX (digitB (kd k 0) 1 16)) (wantX (digitB (kd k 1) 0 1152921504606846976)))
 else if h = [109, 97, 112] then allX (fun p => andX (exactX p 2) (allX E p.kids)) k
 else if h = [101, 109, 112, 116, 121] then andX (wantX (decide ((k.length : Int) = 1))) (wantX (kindB (kd k 0)))
 else if h = [105, 109, 97, 112] then andX (wantX (decide ((k.length : Int) = 2))) (andX (E (kd k 0)) (wantX (kindB (kd k 1))))
 else if h = [102, 111, 114, 97, 108, 108] ∨ h = [101, 120, 105, 115, 116, 115] then andX (wantX (decide (2 ≤ (k.length : Int)))) (andX (typedXX (kd k 0) 1)
  (andX (allX (fun t => andX (wantX (decide (headF t = [116, 114, 105, 103, 103, 101, 114]))) (andX (wantX (listB t 2)) (allX E (t.kids.drop 1)))) ((k.take (k.length - 1)).drop 1)) (E (kd k (k.length - 1)))))
 else if h = [111, 108, 100] then andX (wantX (decide ((k.length : Int) = 1) || decide ((k.length : Int) = 2))) (andX (if (k.length : Int) = 2 then nameX (kd k 0) else none) (E (kd k (k.length - 1))))
 else if h = [102, 117, 101, 108] then andX (wantX (decide ((k.length : Int) = 3))) (andX (wantX (digitB (kd k 0) 0 9)) (andX (nameX (kd k 1)) (E (kd k 2))))
 else if h = [112, 114, 101, 102, 105, 120] then andX (wantX (decide (2 ≤ (k.length : Int)))) (andX (nameX (kd k 0)) (allX E (k.drop 1)))
 else some 4
def specialX (E : Fm → Option Int) (h : List UInt8) (k : List Fm) : Option Int :=
 if h = [108, 101, 116] then boundX E k
 else if h = [112, 105, 99, 107] then andX (wantX (decide ((k.length : Int) = 3))) (andX (rangeX E (kd k 0)) (allX E (k.drop 1)))
 else if h = [97, 108, 108] ∨ h = [115, 111, 109, 101] then andX (wantX (decide ((k.length : Int) = 2))) (andX (rangeX E (kd k 0)) (E (kd k 1)))
 else if h = [101, 118, 101, 114, 121] ∨ h = [97, 110, 121] then boundX E k
 else if h = [109, 97, 116, 99, 104] then andX (wantX (decide (2 ≤ (k.length : Int)))) (andX (E (kd k 0)) (allX (armX E) (k.drop 1)))
 else if h = [102, 110] then andX (wantX (decide ((k.length : Int) = 2))) (andX (typedXX (kd k 0) 0) (E (kd k 1)))
 else if h = [97, 112, 112] then andX (wantX (decide (1 ≤ (k.length : Int)))) (allX E k)
 else if h = [99, 97, 108, 108] ∨ h = [109, 97, 107, 101] then andX (wantX (decide (1 ≤ (k.length : Int)))) (andX (nameX (kd k 0)) (andX (wantX (ofOk (k.drop 1))) (allX E (ofList (k.drop 1)))))
 else if h = [105, 115] ∨ h = [103, 101, 116] then andX (wantX (decide ((k.length : Int) = 2))) (andX (nameX (kd k 0)) (E (kd k 1)))
 else restX E h k
theorem w133X {b : Bool} {R : Option Int} {S S₀ : St} {Kr : V → St → Prop} {X : Option Int} (hR : andX (wantX b) X = R) (hk : b = true → X = R → Kr (.tup []) S) (hS : S = S₀ := by rfl) : callA Tryz.prog 133 [.bool b] S Kr (kp fun e S' => e = endX R ∧ S' = S₀) :=
 callW (x133 b) (fun hc => by rw [hc] at hR; exact hR.symm) (fun hc => hk hc (by rw [hc] at hR; exact hR)) hS
theorem w165X {f : Fm} {R : Option Int} {S S₀ : St} {Kr : V → St → Prop} {X : Option Int} (hR : andX (nameX f) X = R) (hk : X = R → Kr (.str f.text) S) (hS : S = S₀ := by rfl) : callA Tryz.prog 165 [enc f] S Kr (kp fun e S' => e = endX R ∧ S' = S₀) :=
 callW (x165 f) (fun hc => by unfold nameX at hR; rw [hc] at hR; exact hR.symm) (fun hc => hk (by unfold nameX at hR; rw [hc] at hR; exact hR)) hS
theorem w164X {f : Fm} {m : Int} {R : Option Int} {S S₀ : St} {Kr : V → St → Prop} {X : Option Int} (hR : andX (exactX f m) X = R) (hk : exactB f m = true → X = R → Kr (.sl f.nl 4 (encs f.kids)) S) (hS : S = S₀ := by rfl) : callA Tryz.prog 164 [enc f, .int .i64 m] S Kr (kp fun e S' => e = endX R ∧ S' = S₀) :=
 callW (x164 f m) (fun hc => by unfold exactX at hR; rw [hc] at hR; exact hR.symm) (fun hc => hk hc (by unfold exactX at hR; rw [hc] at hR; exact hR)) hS
theorem wX {f : Nat} {args : List V} {r : Option Int} {R : Option Int} {S S₀ : St} {Kr : V → St → Prop} {X : Option Int} (h : Thr Tryz.prog f args (endX r)) (hR : andX r X = R) (hk : X = R → Kr (.tup []) S) (hS : S = S₀ := by rfl) : callA Tryz.prog f args S Kr (kp fun e S' => e = endX R ∧ S' = S₀) :=
 callX h (fun c hc => by rw [hc] at hR; exact hR.symm) (fun hc => hk (by rw [hc] at hR; exact hR)) hS
theorem andX_r (a : Option Int) : andX a none = a := by cases a <;> rfl
theorem bound_step (E : Fm → Option Int) (k : List Fm) (nl : Bool) (h : ∀ g, (∃ p ∈ k, g = p ∨ g ∈ p.kids) → Thr Tryz.prog 111 [enc g] (endX (E g))) {R : Option Int} (hR : boundX E k = R) (S : St) :
  callA Tryz.prog 133 [.bool (decide ((k.length : Int) = 2))] S (fun _ S2 => bnd (opV S2 (.ia 4 (.k (.sl nl 4 (encs k))) (.k (.int .i64 0)))) fun x6 =>
  bnd (opV S2 (.ld 4 true (.k x6.plain))) fun x7 =>
  callA Tryz.prog 164 [x7.plain, (.int .i64 2)] S2 (fun x8 S3 =>
  bnd (opV S3 (.ia 4 (.k x8.plain.plain) (.k (.int .i64 0)))) fun x9 =>
  bnd (opV S3 (.ld 4 true (.k x9.plain))) fun x10 =>
  callA Tryz.prog 165 [x10.plain] S3 (fun _ S4 =>
  bnd (opV S4 (.ia 4 (.k x8.plain.plain) (.k (.int .i64 1)))) fun x12 =>
  bnd (opV S4 (.ld 4 true (.k x12.plain))) fun x13 =>
  callA Tryz.prog 111 [x13.plain] S4 (fun _ S5 =>
  bnd (opV S5 (.ia 4 (.k (.sl nl 4 (encs k))) (.k (.int .i64 1)))) fun x15 =>
  bnd (opV S5 (.ld 4 true (.k x15.plain))) fun x16 =>
  callA Tryz.prog 111 [x16.plain] S5 (fun _ S6 =>
  (AE.ret (.tup []) = endX R ∧ S6 = S)) (kp fun e S' => e = endX R ∧ S' = S)) (kp fun e S' => e = endX R ∧ S' = S)) (kp fun e S' => e = endX R ∧ S' = S)) (kp fun e S' => e = endX R ∧ S' = S)) (kp fun e S' => e = endX R ∧ S' = S) := by
 unfold boundX at hR
 refine w133X hR fun hc hR => ?_
 obtain ⟨p, b, rfl⟩ := list2 (of_decide_eq_true hc)
 simp at hR ⊢
 refine w164X hR fun hc hR => ?_
 obtain ⟨x, y, hk⟩ := exactB_two hc
 simp [hk] at hR ⊢
 refine w165X hR fun hR => ?_
 refine wX (h y ⟨p, by simp, .inr (by rw [hk]; simp)⟩) hR fun hR => ?_
 refine wX (X := none) (h b ⟨b, by simp, .inl rfl⟩) (by rw [andX_r]; exact hR) fun hR => ?_
 exact ⟨by rw [← hR]; rfl, rfl⟩
end Go.Pl.L
end
section
open Go Go.Pl Go.Proofs Go.Pl.Z
namespace Go.Pl.L
set_option maxRecDepth 100000
theorem w212X {f : Fm} {lo hi : Int} {R : Option Int} {S S₀ : St} {Kr : V → St → Prop} {X : Option Int} (hR : andX (wantX (digitB f lo hi)) X = R) (hk : X = R → Kr (.tup []) S) (hS : S = S₀ := by rfl) : callA Tryz.prog 212 [enc f, .int .i64 lo, .int .i64 hi] S Kr (kp fun e S' => e = endX R ∧ S' = S₀) :=
 callW (x212 f lo hi) (fun hc => by rw [hc] at hR; exact hR.symm) (fun hc => hk (by rw [hc] at hR; exact hR)) hS
theorem w211X {f : Fm} {R : Option Int} {S S₀ : St} {Kr : V → St → Prop} {X : Option Int} (hR : andX (wantX (kindB f)) X = R) (hk : X = R → Kr (.tup []) S) (hS : S = S₀ := by rfl) : callA Tryz.prog 211 [enc f] S Kr (kp fun e S' => e = endX R ∧ S' = S₀) :=
 callW (x211 f) (fun hc => by rw [hc] at hR; exact hR.symm) (fun hc => hk (by rw [hc] at hR; exact hR)) hS
theorem w206X {f : Fm} {m : Int} {R : Option Int} {S S₀ : St} {Kr : V → St → Prop} {X : Option Int} (hR : andX (wantX (listB f m)) X = R) (hk : listB f m = true → X = R → Kr (.sl f.nl 4 (encs f.kids)) S) (hS : S = S₀ := by rfl) : callA Tryz.prog 206 [enc f, .int .i64 m] S Kr (kp fun e S' => e = endX R ∧ S' = S₀) :=
 callW (x206 f m) (fun hc => by rw [hc] at hR; exact hR.symm) (fun hc => hk hc (by rw [hc] at hR; exact hR)) hS
theorem endR {R : Option Int} {S : St} (h : none = R) : AE.ret (.tup []) = endX R ∧ S = S := ⟨by rw [← h]; rfl, rfl⟩
theorem w169X {f : Fm} {m : Int} (hf : Fine f) (h168 : ∀ l : List (List UInt8), l.length ≤ 1048576 → Thr Tryz.prog 168 [(keyS l).plain] (endX (onceX l))) {R : Option Int} {S S₀ : St} {Kr : V → St → Prop} {X : Option Int} (hR : andX (typedXX f m) X = R) (hk : X = R → Kr (.tup []) S) (hS : S = S₀ := by rfl) :
  callA Tryz.prog 169 [enc f, .int .i64 m] S (fun x52 S15 => callA Tryz.prog 168 [x52.plain] S15 Kr (kp fun e S' => e = endX R ∧ S' = S₀)) (kp fun e S' => e = endX R ∧ S' = S₀) := by
 unfold typedXX at hR
 refine callEx (keyS_typed f m hf) (fun c hc => ?_) (fun v hv => ?_) hS
 ·unfold typedX at hc
  cases h1 : listB f m with
  | false => rw [h1] at hc hR; simp at hc hR; rw [← hc, hR]
  | true =>
   rw [h1] at hc hR
   cases h2 : f.kids.all (typedB isNameB) with
   | false => rw [h2] at hc hR; simp at hc hR; rw [← hc, hR]
   | true => rw [h2] at hc; simp at hc
 ·unfold typedX at hv
  cases h1 : listB f m with
  | false => rw [h1] at hv; simp at hv
  | true =>
   rw [h1] at hv hR
   cases h2 : f.kids.all (typedB isNameB) with
   | false => rw [h2] at hv; simp at hv
   | true =>
    rw [h2] at hv hR
    simp at hv hR
    subst hv
    exact wX (h168 _ (by have := fs_kids f; simp; simp only [Fine] at hf; omega)) hR hk hS
theorem w167X {f : Fm} {m : Int} (hf : Fine f) (h168 : ∀ l : List (List UInt8), l.length ≤ 1048576 → Thr Tryz.prog 168 [(keyS l).plain] (endX (onceX l))) {R : Option Int} {S S₀ : St} {Kr : V → St → Prop} {X : Option Int} (hR : andX (namesXX f m) X = R) (hk : X = R → Kr (.tup []) S) (hS : S = S₀ := by rfl) :
  callA Tryz.prog 167 [enc f, .int .i64 m] S (fun x52 S15 => callA Tryz.prog 168 [x52.plain] S15 Kr (kp fun e S' => e = endX R ∧ S' = S₀)) (kp fun e S' => e = endX R ∧ S' = S₀) := by
 unfold namesXX at hR
 refine callEx (keyS_names f m hf) (fun c hc => ?_) (fun v hv => ?_) hS
 ·unfold namesX at hc
  cases h1 : listB f m with
  | false => rw [h1] at hc hR; simp at hc hR; rw [← hc, hR]
  | true =>
   rw [h1] at hc hR
   cases h2 : f.kids.all (nameFB isNameB) with
   | false => rw [h2] at hc hR; simp at hc hR; rw [← hc, hR]
   | true => rw [h2] at hc; simp at hc
 ·unfold namesX at hv
  cases h1 : listB f m with
  | false => rw [h1] at hv; simp at hv
  | true =>
   rw [h1] at hv hR
   cases h2 : f.kids.all (nameFB isNameB) with
   | false => rw [h2] at hv; simp at hv
   | true =>
    rw [h2] at hv hR
    simp at hv hR
    subst hv
    exact wX (h168 _ (by have := fs_kids f; simp; simp only [Fine] at hf; omega)) hR hk hS
set_option maxHeartbeats 4000000 in
theorem x171 (E : Fm → Option Int) (h : List UInt8) (nl : Bool) (k : List Fm) (hn : fsizes k ≤ 1048576) (hE : ∀ g, fsize g ≤ fsizes k → Thr Tryz.prog 111 [enc g] (endX (E g))) (h168 : ∀ l : List (List UInt8), l.length ≤ 1048576 → Thr Tryz.prog 168 [(keyS l).plain] (endX (onceX l))) :
  Thr Tryz.prog 171 [.str h, .sl nl 4 (encs k)] (endX (restX E h k)) := by
 have hlen : ∀ l : List Fm, fsizes l ≤ 1048576 → l.length ≤ 1000000000 := fun l hl => by have := fs_len l; omega
 have hmem : ∀ g ∈ k, Thr Tryz.prog 111 [enc g] (endX (E g)) := fun g hg => hE g (fs_mem hg)
 have hkid : ∀ p ∈ k, ∀ g ∈ p.kids, Thr Tryz.prog 111 [enc g] (endX (E g)) := fun p hp g hg => hE g (by have := fs_mem hp; have := fs_kid hg; omega)
 have hfine : ∀ p ∈ k, Fine p := fun p hp => by have := fs_mem hp; show fsize p ≤ 1048576; omega
 have hklen : ∀ p ∈ k, p.kids.length ≤ 1000000000 := fun p hp => (hfine p hp).kids
 refine t171 _ _ _ fun S => ?_
 unfold s171
 generalize hR : restX E h k = R
 unfold restX at hR
 try simp
 refine brD (fun q => ?_) (fun q => ?_)
 ·
  rw [if_pos q] at hR
  try simp
  refine w133X hR fun hc hR => ?_
  obtain ⟨x, y, rfl⟩ := list2 (of_decide_eq_true hc)
  simp at hR ⊢
  refine w212X hR fun hR => ?_
  refine w212X (X := none) (by rw [andX_r]; exact hR) fun hR => ?_
  exact endR hR
 rw [if_neg q] at hR
 try simp
 refine brD (fun q => ?_) (fun q => ?_)
 ·
  rw [if_pos q] at hR
  try simp
  unfold loop3
  intro W hW
  suffices key : ∀ (m i : Nat), i + m = k.length → allX (fun p => andX (exactX p 2) (allX E p.kids)) (k.drop i) = R → W (.sl nl 4 (encs k)) (.int .i64 k.length) (.int .i64 i) S from key k.length 0 (by omega) (by simpa using hR)
  intro m
  induction m with
  | zero =>
   intro i hi hin
   refine hW _ _ _ _ ?_
   have : k.drop i = [] := List.drop_eq_nil_of_le (by omega)
   rw [this] at hin
   simp [show ¬ i < k.length by omega]
   exact by rw [← hin]; rfl
  | succ m ih =>
   intro i hi hin
   have hlt : i < k.length := by omega
   have hl9 := hlen k hn
   refine hW _ _ _ _ ?_
   rw [drop_cons hlt] at hin
   simp only [allX] at hin
   simp [hlt, op_iaE (S := S) (n := nl) (Int.natCast_nonneg i) (show k[(i : Int).toNat]? = some k[i] by simp [hlt])]
   have hp := hkid k[i] (List.getElem_mem hlt)
   have hpl := hklen k[i] (List.getElem_mem hlt)
   generalize k[i] = p at hin hp hpl ⊢
   refine callW (x164 p 2) (fun hc => by unfold exactX at hin; rw [hc] at hin; exact hin.symm) fun hc => ?_
   unfold exactX at hin
   rw [hc] at hin
   simp only [wantX_t, andX_none] at hin
   simp [slV]
   refine callX (x135 E p.nl p.kids hpl hp) (fun c hc => by rw [hc] at hin; exact hin.symm) fun hc => ?_
   rw [hc] at hin
   rw [op_add (by omega) (by omega)]
   simp
   exact ih (i + 1) (by omega) hin
 rw [if_neg q] at hR
 try simp
 refine brD (fun q => ?_) (fun q => ?_)
 ·
  rw [if_pos q] at hR
  try simp
  refine w133X hR fun hc hR => ?_
  obtain ⟨x, rfl⟩ := list1 (of_decide_eq_true hc)
  simp at hR ⊢
  refine w211X (X := none) (by rw [andX_r]; exact hR) fun hR => ?_
  exact endR hR
 rw [if_neg q] at hR
 try simp
 refine brD (fun q => ?_) (fun q => ?_)
 ·
  rw [if_pos q] at hR
  try simp
  refine w133X hR fun hc hR => ?_
  obtain ⟨x, y, rfl⟩ := list2 (of_decide_eq_true hc)
  simp at hR ⊢
  refine wX (hmem x (by simp)) hR fun hR => ?_
  refine w211X (X := none) (by rw [andX_r]; exact hR) fun hR => ?_
  exact endR hR
 rw [if_neg q] at hR
 have hlast : ∀ {m : Int}, m ≤ (k.length : Int) → 1 ≤ m → ((k.length : Int) - 1).toNat < k.length ∧ k[((k.length : Int) - 1).toNat]? = some (kd k (k.length - 1)) := by
  intro m h1 h2
  have e : ((k.length : Int) - 1).toNat = k.length - 1 := by omega
  rw [e]
  refine ⟨by omega, ?_⟩
  unfold kd
  simp [List.getD_eq_getElem?_getD, show k.length - 1 < k.length by omega]
 have hl9 := hlen k hn
 have hkdm : ∀ i, i < k.length → kd k i ∈ k := fun i hi => by
  unfold kd
  simp [List.getD_eq_getElem?_getD, hi]
 by_cases q : h = [102, 111, 114, 97, 108, 108] ∨ h = [101, 120, 105, 115, 116, 115]
 ·rw [if_pos q] at hR
  rcases q with rfl | rfl
  all_goals
   simp
   refine w133X hR fun hc hR => ?_
   have hc := of_decide_eq_true hc
   obtain ⟨x, r, hk⟩ := listCons (k := k) (by omega)
   have hx : kd k 0 = x := by rw [hk]; rfl
   rw [hx] at hR
   have hg0 : opV S (.ia 4 (.k (.sl nl 4 (encs k))) (.k (.int .i64 0))) = some (.ro (enc x)) := by rw [hk]; exact op_ia0 _ _ _ _
   rw [hg0]
   simp
   refine w169X (hfine x (by rw [hk]; simp)) h168 hR fun hR => ?_
   rw [op_sub (by omega) (by omega)]
   simp
   obtain ⟨hlt1, hla⟩ := hlast hc (by omega)
   have hs : opV S (.slc 4 (.k (.sl nl 4 (encs k))) (some (.k (.int .i64 1))) (some (.k (.int .i64 ((k.length : Int) - 1)))) none) = some (.sl nl 4 (encs ((k.take (k.length - 1)).drop 1))) := by
    rw [op_slc (by omega) (by omega) (by simp; omega)]
    rw [show ((k.length : Int) - 1).toNat = k.length - 1 by omega, encs_take, show (1 : Int).toNat = 1 from rfl, encs_drop]
   rw [hs]
   have hts : ∀ t ∈ (k.take (k.length - 1)).drop 1, t ∈ k := fun t ht => List.mem_of_mem_take (List.mem_of_mem_drop ht)
   have htl : ((k.take (k.length - 1)).drop 1).length ≤ 1000000000 := by simp; omega
   clear hs
   generalize (k.take (k.length - 1)).drop 1 = ts at hR hts htl ⊢
   simp
   unfold loop4
   intro W hW
   suffices key : ∀ (m i : Nat), i + m = ts.length → andX (allX (fun t => andX (wantX (decide (headF t = [116, 114, 105, 103, 103, 101, 114]))) (andX (wantX (listB t 2)) (allX E (t.kids.drop 1)))) (ts.drop i)) (E (kd k (k.length - 1))) = R →
     W (.sl nl 4 (encs k)) (.sl nl 4 (encs ts)) (.int .i64 ts.length) (.int .i64 i) S from key ts.length 0 (by omega) (by simpa using hR)
   intro m
   induction m with
   | zero =>
    intro i hi hin
    refine hW _ _ _ _ _ ?_
    have : ts.drop i = [] := List.drop_eq_nil_of_le (by omega)
    rw [this] at hin
    simp only [allX, andX_none] at hin
    simp [show ¬ i < ts.length by omega]
    rw [op_sub (by omega) (by omega)]
    simp
    rw [op_iaE (by omega) hla]
    simp
    refine wX (X := none) (hmem _ (hkdm _ (by omega))) (by rw [andX_r]; exact hin) fun hR => endR hR
   | succ m ih =>
    intro i hi hin
    have hlt : i < ts.length := by omega
    refine hW _ _ _ _ _ ?_
    rw [drop_cons hlt] at hin
    simp only [allX] at hin
    simp [hlt, op_iaE (S := S) (n := nl) (Int.natCast_nonneg i) (show ts[(i : Int).toNat]? = some ts[i] by simp [hlt])]
    have ht := hts ts[i] (List.getElem_mem hlt)
    generalize ts[i] = t at hin ht ⊢
    refine Thr.call (x28 t) ?_
    simp
    have hin' : andX (wantX (decide (headF t = [116, 114, 105, 103, 103, 101, 114]))) (andX (wantX (listB t 2)) (andX (allX E (t.kids.drop 1)) (andX (allX (fun t => andX (wantX (decide (headF t = [116, 114, 105, 103, 103, 101, 114]))) (andX (wantX (listB t 2)) (allX E (t.kids.drop 1)))) (ts.drop (i + 1))) (E (kd k (k.length - 1)))))) = R := by
     rw [← hin]
     cases wantX (decide (headF t = [116, 114, 105, 103, 103, 101, 114])) with
     | some c => rfl
     | none => cases wantX (listB t 2) with
      | some c => rfl
      | none => cases allX E (t.kids.drop 1) <;> rfl
    refine w133X hin' fun _ hin => ?_
    refine w206X hin fun hl hin => ?_
    have hl2 := of_decide_eq_true ((Bool.and_eq_true _ _).mp hl).2
    have hsl : opV S (.slc 4 (.k (.sl t.nl 4 (encs t.kids))) (some (.k (.int .i64 1))) none none) = some (.sl t.nl 4 (encs (t.kids.drop 1))) := op_slcE (by decide) (by omega)
    simp only [plain_sl]
    rw [hsl]
    simp [-List.drop_one]
    refine wX (x135 E t.nl (t.kids.drop 1) (by have := hklen t ht; simp; omega) fun g hg => hkid t ht g (List.mem_of_mem_drop hg)) hin fun hin => ?_
    rw [op_add (by omega) (by omega)]
    simp
    exact ih (i + 1) (by omega) hin
 rw [if_neg q] at hR
 obtain ⟨q1, q2⟩ := not_or.1 q
 simp [q1, q2]
 refine brD (fun q => ?_) (fun q => ?_)
 ·
  rw [if_pos q] at hR
  refine gdFD (fun q3 => ?_) (fun q3 => ?_)
  ·simp [q3] at hR ⊢
   refine w133X (X := E (kd k (k.length - 1))) hR fun _ hR => ?_
   obtain ⟨x, rfl⟩ := list1 (k := k) (by omega)
   simp at hR ⊢
   rw [op_sub (by decide) (by decide)]
   simp
   exact wX (X := none) (hmem x (by simp)) (by rw [andX_r]; exact hR) fun hR => endR hR
  ·by_cases q4 : (k.length : Int) = 2
   ·simp [q3, q4] at hR ⊢
    refine w133X (b := true) hR fun _ hR => ?_
    obtain ⟨x, y, rfl⟩ := list2 q4
    simp at hR ⊢
    refine w165X hR fun hR => ?_
    rw [op_sub (by decide) (by decide)]
    simp
    exact wX (X := none) (hmem y (by simp)) (by rw [andX_r]; exact hR) fun hR => endR hR
   ·simp [q3, q4] at hR ⊢
    exact callW (x133 false) (fun _ => hR.symm) (fun h => by cases h)
 rw [if_neg q] at hR
 refine brD (fun q => ?_) (fun q => ?_)
 ·
  rw [if_pos q] at hR
  refine w133X hR fun hc hR => ?_
  obtain ⟨x, y, z, rfl⟩ := list3 (of_decide_eq_true hc)
  simp at hR ⊢
  refine w212X hR fun hR => ?_
  refine w165X hR fun hR => ?_
  exact wX (X := none) (hmem z (by simp)) (by rw [andX_r]; exact hR) fun hR => endR hR
 rw [if_neg q] at hR
 refine brD (fun q => ?_) (fun q => ?_)
 ·
  rw [if_pos q] at hR
  refine w133X hR fun hc hR => ?_
  have hc := of_decide_eq_true hc
  obtain ⟨x, r, rfl⟩ := listCons (k := k) (by omega)
  simp at hR ⊢
  refine w165X hR fun hR => ?_
  exact wX (X := none) (x135 E nl r (by simp at hl9; omega) fun g hg => hmem g (List.mem_cons_of_mem _ hg)) (by rw [andX_r]; exact hR) fun hR => endR hR
 rw [if_neg q] at hR
 exact callW (x133 false) (fun _ => hR.symm) (fun h => by cases h)
end Go.Pl.L
end
section
open Go Go.Pl Go.Proofs Go.Pl.Z
namespace Go.Pl.L
set_option maxRecDepth 100000
set_option maxHeartbeats 4000000 in
theorem x136 (E : Fm → Option Int) (h : List UInt8) (f : Fm) (nl : Bool) (k : List Fm) (hn : fsizes k ≤ 1048576) (hE : ∀ g, fsize g ≤ fsizes k → Thr Tryz.prog 111 [enc g] (endX (E g))) (h168 : ∀ l : List (List UInt8), l.length ≤ 1048576 → Thr Tryz.prog 168 [(keyS l).plain] (endX (onceX l))) :
  Thr Tryz.prog 136 [.str h, enc f, .sl nl 4 (encs k)] (endX (specialX E h k)) := by
 have hlen : ∀ l : List Fm, fsizes l ≤ 1048576 → l.length ≤ 1000000000 := fun l hl => by have := fs_len l; omega
 have hmem : ∀ g ∈ k, Thr Tryz.prog 111 [enc g] (endX (E g)) := fun g hg => hE g (fs_mem hg)
 have hkid : ∀ p ∈ k, ∀ g ∈ p.kids, Thr Tryz.prog 111 [enc g] (endX (E g)) := fun p hp g hg => hE g (by have := fs_mem hp; have := fs_kid hg; omega)
 have hfine : ∀ p ∈ k, Fine p := fun p hp => by have := fs_mem hp; show fsize p ≤ 1048576; omega
 have hfkid : ∀ p ∈ k, ∀ g ∈ p.kids, Fine g := fun p hp g hg => by have := fs_mem hp; have := fs_kid hg; show fsize g ≤ 1048576; omega
 have hklen : ∀ p ∈ k, p.kids.length ≤ 1000000000 := fun p hp => (hfine p hp).kids
 have hl9 := hlen k hn
 have hb : ∀ g, (∃ p ∈ k, g = p ∨ g ∈ p.kids) → Thr Tryz.prog 111 [enc g] (endX (E g)) := by
  rintro g ⟨p, hp, rfl | hg⟩
  ·exact hmem g hp
  ·exact hkid p hp g hg
 refine t136 _ _ _ _ fun S => ?_
 unfold s136
 generalize hR : specialX E h k = R
 unfold specialX at hR
 simp [-List.drop_one]
 refine brD (fun q => ?_) (fun q => ?_)
 ·rw [if_pos q] at hR
  simpa using bound_step E k nl hb hR S
 rw [if_neg q] at hR
 refine brD (fun q => ?_) (fun q => ?_)
 ·
  rw [if_pos q] at hR
  refine w133X hR fun hc hR => ?_
  obtain ⟨x, y, z, rfl⟩ := list3 (of_decide_eq_true hc)
  simp at hR ⊢
  refine wX (x166 E x (hklen x (by simp)) (hkid x (by simp))) hR fun hR => ?_
  exact wX (X := none) (x135 E nl [y, z] (by simp) fun g hg => hmem g (List.mem_cons_of_mem _ hg)) (by rw [andX_r]; exact hR) fun hR => endR hR
 rw [if_neg q] at hR
 by_cases q : h = [97, 108, 108] ∨ h = [115, 111, 109, 101]
 ·rw [if_pos q] at hR
  rcases q with rfl | rfl
  all_goals
   simp
   refine w133X hR fun hc hR => ?_
   obtain ⟨x, y, rfl⟩ := list2 (of_decide_eq_true hc)
   simp at hR ⊢
   refine wX (x166 E x (hklen x (by simp)) (hkid x (by simp))) hR fun hR => ?_
   exact wX (X := none) (hmem y (by simp)) (by rw [andX_r]; exact hR) fun hR => endR hR
 rw [if_neg q] at hR
 obtain ⟨q1, q2⟩ := not_or.1 q
 simp [q1, q2, -List.drop_one]
 clear q
 by_cases q : h = [101, 118, 101, 114, 121] ∨ h = [97, 110, 121]
 ·rw [if_pos q] at hR
  rcases q with rfl | rfl
  all_goals
   simp
   simpa using bound_step E k nl hb hR S
 rw [if_neg q] at hR
 obtain ⟨q1, q2⟩ := not_or.1 q
 simp [q1, q2, -List.drop_one]
 clear q
 refine brD (fun q => ?_) (fun q => ?_)
 ·
  rw [if_pos q] at hR
  refine w133X hR fun hc hR => ?_
  have hc := of_decide_eq_true hc
  obtain ⟨x, ts, rfl⟩ := listCons (k := k) (by omega)
  simp at hR ⊢
  refine wX (hmem x (by simp)) hR fun hR => ?_
  have htl : ts.length ≤ 1000000000 := by simp at hl9; omega
  have hts : ∀ t ∈ ts, t ∈ x :: ts := fun t ht => List.mem_cons_of_mem _ ht
  unfold loop3
  intro W hW
  suffices key : ∀ (m i : Nat), i + m = ts.length → allX (armX E) (ts.drop i) = R → W (.sl nl 4 (encs ts)) (.int .i64 ts.length) (.int .i64 i) S from key ts.length 0 (by omega) (by simpa using hR)
  intro m
  induction m with
  | zero =>
   intro i hi hin
   refine hW _ _ _ _ ?_
   have : ts.drop i = [] := List.drop_eq_nil_of_le (by omega)
   rw [this] at hin
   simp [show ¬ i < ts.length by omega]
   exact by rw [← hin]; rfl
  | succ m ih =>
   intro i hi hin
   have hlt : i < ts.length := by omega
   refine hW _ _ _ _ ?_
   rw [drop_cons hlt] at hin
   simp only [allX] at hin
   simp [hlt, op_iaE (S := S) (n := nl) (Int.natCast_nonneg i) (show ts[(i : Int).toNat]? = some ts[i] by simp [hlt])]
   have ht := hts ts[i] (List.getElem_mem hlt)
   generalize ts[i] = t at hin ht ⊢
   have hin' : andX (exactX t 3) (andX (nameX (kd t.kids 0)) (andX (namesXX (kd t.kids 1) 0) (andX (E (kd t.kids 2)) (allX (armX E) (ts.drop (i + 1)))))) = R := by
    rw [← hin]
    unfold armX
    cases exactX t 3 with
    | some c => rfl
    | none => cases nameX (kd t.kids 0) with
     | some c => rfl
     | none => cases namesXX (kd t.kids 1) 0 with
      | some c => rfl
      | none => cases E (kd t.kids 2) <;> rfl
   refine w164X hin' fun hc hin => ?_
   obtain ⟨a, b, c, hk⟩ := exactB_three hc
   simp [hk] at hin ⊢
   refine w165X hin fun hin => ?_
   refine w167X (hfkid t ht b (by rw [hk]; simp)) h168 hin fun hin => ?_
   refine wX (hkid t ht c (by rw [hk]; simp)) hin fun hin => ?_
   rw [op_add (by omega) (by omega)]
   simp
   exact ih (i + 1) (by omega) hin
 rw [if_neg q] at hR
 refine brD (fun q => ?_) (fun q => ?_)
 ·
  rw [if_pos q] at hR
  refine w133X hR fun hc hR => ?_
  obtain ⟨x, y, rfl⟩ := list2 (of_decide_eq_true hc)
  simp at hR ⊢
  refine w169X (hfine x (by simp)) h168 hR fun hR => ?_
  exact wX (X := none) (hmem y (by simp)) (by rw [andX_r]; exact hR) fun hR => endR hR
 rw [if_neg q] at hR
 refine brD (fun q => ?_) (fun q => ?_)
 ·
  rw [if_pos q] at hR
  refine w133X hR fun hc hR => ?_
  exact wX (X := none) (x135 E nl k hl9 hmem) (by rw [andX_r]; exact hR) fun hR => endR hR
 rw [if_neg q] at hR
 by_cases q : h = [99, 97, 108, 108] ∨ h = [109, 97, 107, 101]
 ·rw [if_pos q] at hR
  rcases q with rfl | rfl
  all_goals
   simp
   refine w133X hR fun hc hR => ?_
   have hc := of_decide_eq_true hc
   obtain ⟨x, r, rfl⟩ := listCons (k := k) (by omega)
   simp at hR ⊢
   refine w165X hR fun hR => ?_
   have hr : ∀ g ∈ r, Thr Tryz.prog 111 [enc g] (endX (E g)) := fun g hg => hmem g (List.mem_cons_of_mem _ hg)
   have h170 := x170 nl r fun g hg => hklen g (List.mem_cons_of_mem _ hg)
   rw [ofX_eq] at h170
   cases ho : ofOk r with
   | false =>
    rw [ho] at hR h170
    exact callEx h170 (fun c hc => by cases hc; exact hR.symm) (fun v hv => by cases hv)
   | true =>
    rw [ho] at hR h170
    refine callEx h170 (fun c hc => by cases hc) (fun v hv => ?_)
    cases hv
    simp at hR ⊢
    have hol : (ofList r).length ≤ r.length ∧ ∀ g ∈ ofList r, g ∈ r := by
     cases r with
     | nil => exact ⟨Nat.le_refl _, fun g hg => hg⟩
     | cons a r =>
      simp only [ofList]
      cases decide (headF a = hOf) with
      | true => exact ⟨by simp, fun g hg => List.mem_cons_of_mem _ hg⟩
      | false => exact ⟨Nat.le_refl _, fun g hg => hg⟩
    exact wX (X := none) (x135 E nl (ofList r) (by simp at hl9; omega) fun g hg => hr g (hol.2 g hg)) (by rw [andX_r]; exact hR) fun hR => endR hR
 rw [if_neg q] at hR
 obtain ⟨q1, q2⟩ := not_or.1 q
 simp [q1, q2, -List.drop_one]
 clear q
 by_cases q : h = [105, 115] ∨ h = [103, 101, 116]
 ·rw [if_pos q] at hR
  rcases q with rfl | rfl
  all_goals
   simp
   refine w133X hR fun hc hR => ?_
   obtain ⟨x, y, rfl⟩ := list2 (of_decide_eq_true hc)
   simp at hR ⊢
   refine w165X hR fun hR => ?_
   exact wX (X := none) (hmem y (by simp)) (by rw [andX_r]; exact hR) fun hR => endR hR
 rw [if_neg q] at hR
 obtain ⟨q1, q2⟩ := not_or.1 q
 simp [q1, q2]
 exact wX (X := none) (x171 E h nl k hn hE h168) (by rw [andX_r]; exact hR) fun hR => endR hR
end Go.Pl.L
end
section
open Go Go.Pl Go.Proofs Go.Pl.Z
namespace Go.Pl.L
set_option maxRecDepth 100000
def opsTwo : List UInt8 := [43, 32, 45, 32, 42, 32, 100, 105, 118, 32, 109, 111, 100, 32, 60, 32, 60, 61, 32, 61, 32, 61, 62, 32, 105, 102, 102, 32, 98, 97, 110, 100, 32, 98, 111, 114, 32, 98, 120, 111, 114, 32, 98, 97, 100, 100, 32, 97, 116, 32, 99, 97, 116, 32, 105, 110, 32, 106, 111, 105, 110, 32, 109, 101, 101, 116, 32, 108, 101, 115, 115, 32, 99, 111, 117, 110, 116, 32, 108, 111, 111, 107]
def opsAny : List UInt8 := [97, 110, 100, 32, 111, 114, 32, 115, 101, 113, 32, 115, 101, 116, 32, 98, 97, 103]
def opsOwn : List (List UInt8 × Int) := [([110, 101, 103], 1), ([110, 111, 116], 1), ([105, 102], 3), ([98, 110, 117, 109], 1), ([108, 101, 110], 1), ([99, 97, 114, 100], 1), ([107, 101, 121, 115], 1), ([99, 117, 116], 3), ([112, 117, 116], 3), ([102, 114, 101, 115, 104], 1)]
def alPuts (l : List (List UInt8 × Int)) (v : Int) (ws : List (List UInt8)) : List (List UInt8 × Int) := ws.foldl (fun l w => alPut l w v) l
def opsAL : List (List UInt8 × Int) := alPuts (alPuts opsOwn 2 (Lib.fields opsTwo)) (-1) (Lib.fields opsAny)
theorem alK_refs (p : Nat → Nat → Bool) : ∀ l, V.refsBs p (alK l)
 | [] => by simp only [alK, List.map_nil, V.refsBs]
 | a :: l => by simp only [alK, List.map_cons, V.refsBs, V.refsB, true_and]; exact alK_refs p l
theorem alV_refs (p : Nat → Nat → Bool) : ∀ l, V.refsBs p (alV l)
 | [] => by simp only [alV, List.map_nil, V.refsBs]
 | a :: l => by simp only [alV, List.map_cons, V.refsBs, V.refsB, true_and]; exact alV_refs p l
theorem mup_al {S : St} {l : List (List UInt8 × Int)} {k : List UInt8} {v : Int} {K : V → St → Prop} (hk : K .any (own S [.mapv (alK (alPut l k v)) (alV (alPut l k v))])) :
  effA (own S [.mapv (alK l) (alV l)]) (.mup true (.k (.mref S.b S.c)) (.k (.str k)) (.k (.int .i64 v))) K := eff_mup0 (al_put l k v) hk
theorem puts_loop {S : St} {K : V → St → Prop} {Kp : V → St → Prop} {v : Int} {s : List UInt8} (hlen : (Lib.fields s).length ≤ 1000000) (h107 : Thr Tryz.prog 107 [.str s] (.ret (.sl false 1 ((Lib.fields s).map .str)))) {l : List (List UInt8 × Int)}
  (hk : K (.mref S.b S.c) (own S [.mapv (alK (alPuts l v (Lib.fields s))) (alV (alPuts l v (Lib.fields s)))])) :
  callA Tryz.prog 107 [.str s] (own S [.mapv (alK l) (alV l)]) (fun x29 S17 => bnd (opV S17 (.len (.k x29.plain))) fun x30 =>
  loop4 (fun R31 w33 w34 w35 w36 S18 =>
    bnd (opV S18 (.bin .lss (.k w36.plain) (.k w35.plain))) fun x37 =>
    brV x37.plain
     (bnd (opV S18 (.ia 1 (.k w34.plain) (.k w36.plain))) fun x38 =>
     bnd (opV S18 (.ld 1 false (.k x38.plain))) fun x39 =>
     effA S18 (.mup true (.k w33.plain) (.k x39.plain) (.k (.int .i64 v))) fun x40 S19 =>
     bnd (opV S19 (.bin .add (.k w36.plain) (.k (.int .i64 1)))) fun x41 =>
     R31 w33 w34 w35 x41.plain S19)
     (K w33 S18))
   (.mref S.b S.c) x29 x30 ((.int .i64 0)) S17) Kp := by
 refine Thr.call h107 ?_
 generalize Lib.fields s = ws at hlen hk ⊢
 simp
 unfold loop4
 intro W hW
 suffices key : ∀ (m i : Nat) (l : List (List UInt8 × Int)), i + m = ws.length → K (.mref S.b S.c) (own S [.mapv (alK (alPuts l v (ws.drop i))) (alV (alPuts l v (ws.drop i)))]) → W (.mref S.b S.c) (.sl false 1 (ws.map .str)) (.int .i64 ws.length) (.int .i64 i) (own S [.mapv (alK l) (alV l)]) from key ws.length 0 l (by omega) (by simpa using hk)
 intro m
 induction m with
 | zero =>
  intro i l hi hk
  refine hW _ _ _ _ _ ?_
  have : ws.drop i = [] := List.drop_eq_nil_of_le (by omega)
  rw [this] at hk
  simp [show ¬ i < ws.length by omega]
  exact hk
 | succ m ih =>
  intro i l hi hk
  have hlt : i < ws.length := by omega
  refine hW _ _ _ _ _ ?_
  rw [drop_cons hlt] at hk
  simp [hlt, op_ia (S := own S [.mapv (alK l) (alV l)]) (n := false) (s := 1) (l := ws.map V.str) (x := .str ws[i]) (Int.natCast_nonneg i) (by simp [hlt])]
  refine mup_al ?_
  rw [op_add (by omega) (by omega)]
  simp
  exact ih (i + 1) _ (by omega) hk
theorem y107 (s : List UInt8) (hs : s.length < 4294967281) (ha : ∀ b ∈ s, b.toNat < 128) : Thr Tryz.prog 107 [.str s] (.ret (.sl false 1 ((Lib.fields s).map .str))) := Thr.ofPure (Z.p107 s hs ha)
theorem x134 (S : St) : ACalls Tryz.prog 134 [] S fun e S' => ∃ i j, e = .ret (.mref i j) ∧ S'.H i j = some (.mapv (alK opsAL) (alV opsAL)) ∧ Grew S S' := by
 refine u134 S _ fun hw => ?_
 unfold s134
 simp
 refine mup_al (S := S.enter) (l := []) ?_
 refine mup_al (S := S.enter) ?_
 refine mup_al (S := S.enter) ?_
 refine mup_al (S := S.enter) ?_
 refine mup_al (S := S.enter) ?_
 refine mup_al (S := S.enter) ?_
 refine mup_al (S := S.enter) ?_
 refine mup_al (S := S.enter) ?_
 refine mup_al (S := S.enter) ?_
 refine mup_al (S := S.enter) ?_
 refine puts_loop (S := S.enter) (s := opsTwo) (by decide +kernel) (y107 _ (by decide) (by decide)) ?_
 refine puts_loop (S := S.enter) (s := opsAny) (by decide +kernel) (y107 _ (by decide) (by decide)) ?_
 have hS : (own S.enter [.mapv (alK opsAL) (alV opsAL)]).H S.n 0 = some (.mapv (alK opsAL) (alV opsAL)) := own_H0 (S := S.enter)
 refine ⟨{ own S.enter [.mapv (alK opsAL) (alV opsAL)] with n := S.n + 1, b := S.b, c := S.c + 1 }, ?_, ⟨?_, rfl, ?_, ?_⟩, S.n, 0, rfl, hS, ⟨?_, rfl, ?_, ?_⟩⟩
 ·simp only [V.refsB]
  rw [ok_iff]
  simp only [St.enter]
  omega
 ·simp only [St.enter]; omega
 ·simp only [St.enter]; omega
 ·intro i k x hx
  refine ⟨hx, ?_⟩
  simp only at hx
  rw [own_H] at hx
  have up : ∀ i k, S.ok i k = true → ({ own S.enter [.mapv (alK opsAL) (alV opsAL)] with n := S.n + 1, b := S.b, c := S.c + 1 } : St).ok i k = true := fun i k h => by
   rw [ok_iff] at h ⊢
   simp only [St.enter]
   omega
  split at hx
  ·rename_i hc
   simp only [St.enter] at hc
   have : k = 0 := by simp at hc; omega
   obtain ⟨rfl, _⟩ := hc
   subst this
   simp [St.enter] at hx
   subst hx
   refine ⟨?_, ?_⟩
   ·rw [ok_iff]; simp only [St.enter]; omega
   ·simp only [V.refsB]; exact ⟨alK_refs _ _, alV_refs _ _⟩
  ·have h2 := hw i k x hx
   exact ⟨up i k h2.1, refsB_mono up x h2.2⟩
 ·simp only [St.enter]; omega
 ·simp only [St.enter]; omega
 ·intro i k x hx
  simp only
  have h2 := (ok_iff _ _ _).1 (hw i k x hx).1
  rw [own_H, if_neg (by simp only [St.enter]; omega)]
  exact hx
end Go.Pl.L
end
