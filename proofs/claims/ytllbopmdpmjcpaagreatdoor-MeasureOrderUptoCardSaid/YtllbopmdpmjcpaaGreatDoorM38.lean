import Derived.Test.YtllbopmdpmjcpaaGreatDoorM11
import Derived.Test.YtllbopmdpmjcpaaGreatDoorM14
import Derived.Test.YtllbopmdpmjcpaaGreatDoorM27
import Derived.Test.YtllbopmdpmjcpaaGreatDoorM29
import Derived.Test.YtllbopmdpmjcpaaGreatDoorM30
import Derived.Test.YtllbopmdpmjcpaaGreatDoorM31
import Derived.Test.YtllbopmdpmjcpaaGreatDoorM34
import Derived.Test.YtllbopmdpmjcpaaGreatDoorM37
set_option linter.unusedSimpArgs false
set_option linter.unusedVariables false
set_option linter.unusedSectionVars false
section
open Go Go.Pl Go.Proofs Go.Pl.Z
namespace Go.Pl.L
set_option maxRecDepth 100000
section
variable {f : Nat} {args : List V} {R : Option Int} {S : St} {T : St → Prop} {Kr : V → St → Prop}
theorem callX' {r : Option Int} (h : Thr Tryz.prog f args (endX r)) (hT : T S) (hp : ∀ c, r = some c → R = some c) (hk : r = none → Kr (.tup []) S) : callA Tryz.prog f args S Kr (kp fun e S' => e = endX R ∧ T S') := by
 cases r with
 | none => exact Thr.call h (hk rfl)
 | some c => exact Thr.pans (v := thrown 95 c) h ⟨by rw [hp c rfl]; rfl, hT⟩
theorem w133T {b : Bool} {X : Option Int} (hT : T S) (hR : andX (wantX b) X = R) (hk : b = true → X = R → Kr (.tup []) S) : callA Tryz.prog 133 [.bool b] S Kr (kp fun e S' => e = endX R ∧ T S') := by
 cases b with
 | true => exact Thr.call (x133 true) (hk rfl hR)
 | false => exact Thr.pans (v := thrown 95 4) (x133 false) ⟨by rw [← hR]; rfl, hT⟩
theorem endT (h : none = R) (hT : T S) : AE.ret (.tup []) = endX R ∧ T S := ⟨by rw [← h]; rfl, hT⟩
end
def freeB (t : List UInt8) : Bool := decide (t = [116, 114, 117, 101]) || (decide (t = [102, 97, 108, 115, 101]) || (decide (t = [110, 117, 108, 108]) || (decide (t = [116, 104, 105, 115]) || decide (t = [114, 101, 115, 117, 108, 116]))))
def exprX (Rv : List UInt8 → Bool) (E : Fm → Option Int) (f : Fm) : Option Int :=
 if f.kind = 0 then none
 else if f.kind = 1 then wantX (freeB f.text || !Rv f.text)
 else andX (wantX (decide (f.kind = 3) && decide (headF f ≠ []))) (match alGet opsAL (headF f) with
  | some m => andX (wantX (decide (m < 0) || decide ((f.kids.length : Int) = m + 1))) (allX E (f.kids.drop 1))
  | none => specialX E (headF f) (f.kids.drop 1))
theorem endX_refs (r : Option Int) (p : Nat → Nat → Bool) : (endX r).refsB p := by
 cases r with
 | none => simp only [endX, exU, AE.of, AE.refsB, V.refsB, V.refsBs]
 | some c => simp only [endX, exU, AE.of, thrown, AE.refsB, V.refsB, V.refsBs, and_self]
theorem v111 (a0 : V) (r : AE) (hr : ∀ p, r.refsB p) (h : ∀ S, s111 Tryz.prog a0 S fun e S' => e = r ∧ Grew S S') : Thr Tryz.prog 111 [a0] r :=
 Thr_of_lvcG (L := L111) hm Tryz.func111 g111 c111 (Nat.le_of_ble_eq_true rfl) hr fun S _ => by have := h S; rw [← e111] at this; exact this
theorem alGet_small {l : List (List UInt8 × Int)} {P : Int → Prop} (h : ∀ p ∈ l, P p.2) {k : List UInt8} {m : Int} (hm : alGet l k = some m) : P m := by
 induction l with
 | nil => cases hm
 | cons a l ih =>
  simp only [alGet] at hm
  split at hm
  ·cases hm; exact h a List.mem_cons_self
  ·exact ih (fun p hp => h p (List.mem_cons_of_mem _ hp)) hm
theorem alPut_all {P : Int → Prop} {l : List (List UInt8 × Int)} {k : List UInt8} {v : Int} (h : ∀ p ∈ l, P p.2) (hv : P v) : ∀ p ∈ alPut l k v, P p.2 := by
 induction l with
 | nil => intro p hp; simp [alPut] at hp; subst hp; exact hv
 | cons a l ih =>
  intro p hp
  simp only [alPut] at hp
  split at hp
  ·rcases List.mem_cons.1 hp with rfl | hp
   ·exact hv
   ·exact h p (List.mem_cons_of_mem _ hp)
  ·rcases List.mem_cons.1 hp with rfl | hp
   ·exact h _ List.mem_cons_self
   ·exact ih (fun p hp => h p (List.mem_cons_of_mem _ hp)) p hp
theorem alPuts_all {P : Int → Prop} {v : Int} (hv : P v) : ∀ (ws : List (List UInt8)) {l : List (List UInt8 × Int)}, (∀ p ∈ l, P p.2) → ∀ p ∈ alPuts l v ws, P p.2
 | [], _, h => h
 | w :: ws, l, h => alPuts_all hv ws (l := alPut l w v) (alPut_all h hv)
theorem opsOwn_small : ∀ p ∈ opsOwn, -1 ≤ p.2 ∧ p.2 ≤ 3 := by decide
theorem opsAL_small {k : List UInt8} {m : Int} (hm : alGet opsAL k = some m) : -1 ≤ m ∧ m ≤ 3 :=
 alGet_small (P := fun m => -1 ≤ m ∧ m ≤ 3) (alPuts_all (P := fun m => -1 ≤ m ∧ m ≤ 3) ⟨by decide, by decide⟩ _ (alPuts_all (P := fun m => -1 ≤ m ∧ m ≤ 3) ⟨by decide, by decide⟩ _ opsOwn_small)) hm
set_option maxHeartbeats 4000000 in
theorem x111 (Rv : List UInt8 → Bool) (E : Fm → Option Int) (f : Fm) (hf : Fine f) (hE : ∀ g, fsize g < fsize f → Thr Tryz.prog 111 [enc g] (endX (E g))) (h86 : Thr Tryz.prog 86 [.str f.text] (.ret (.bool (Rv f.text))))
  (h168 : ∀ l : List (List UInt8), l.length ≤ 1048576 → Thr Tryz.prog 168 [(keyS l).plain] (endX (onceX l))) : Thr Tryz.prog 111 [enc f] (endX (exprX Rv E f)) := by
 refine v111 _ _ (endX_refs _) fun S => ?_
 unfold s111
 generalize hR : exprX Rv E f = R
 unfold exprX at hR
 simp [-List.drop_one]
 refine brD (fun q => ?_) (fun q => ?_)
 ·rw [if_pos q] at hR
  exact endT hR (.refl S)
 rw [if_neg q] at hR
 refine brD (fun q => ?_) (fun q => ?_)
 ·
  rw [if_pos q] at hR
  have hw : ∀ b, wantX b = R → callA Tryz.prog 133 [.bool b] S (fun x51 S12 => AE.ret (.tup []) = endX R ∧ Grew S S12) (kp fun e S' => e = endX R ∧ Grew S S') := fun b hb =>
   w133T (X := none) (.refl S) (by rw [andX_r]; exact hb) fun _ hR => endT hR (.refl S)
  unfold freeB at hR
  by_cases q1 : f.text = [116, 114, 117, 101]
  ·simp [q1] at hR ⊢
   exact hw true hR
  by_cases q2 : f.text = [102, 97, 108, 115, 101]
  ·simp [q2] at hR ⊢
   exact hw true hR
  by_cases q3 : f.text = [110, 117, 108, 108]
  ·simp [q3] at hR ⊢
   exact hw true hR
  by_cases q4 : f.text = [116, 104, 105, 115]
  ·simp [q4] at hR ⊢
   exact hw true hR
  by_cases q5 : f.text = [114, 101, 115, 117, 108, 116]
  ·simp [q5] at hR ⊢
   exact hw true hR
  simp [q1, q2, q3, q4, q5] at hR ⊢
  refine Thr.call h86 ?_
  simp
  exact hw _ hR
 rw [if_neg q] at hR
 refine Thr.call (x28 f) ?_
 simp [-List.drop_one]
 have hsz : fsizes (f.kids.drop 1) + 5 ≤ fsize f := by
  obtain ⟨k, q, t, nl, l⟩ := f
  simp only [Fm.kids, fsize]
  cases l with
  | nil => simp [fsizes]
  | cons a r => simp only [List.drop_succ_cons, List.drop_zero, fsizes]; omega
 have hf' : fsize f ≤ 1048576 := hf
 have hwrong : ∀ (P : V → St → Prop) b, b = false → andX (wantX b) (match alGet opsAL (headF f) with
  | some m => andX (wantX (decide (m < 0) || decide ((f.kids.length : Int) = m + 1))) (allX E (f.kids.drop 1))
  | none => specialX E (headF f) (f.kids.drop 1)) = R → callA Tryz.prog 133 [.bool b] S P (kp fun e S' => e = endX R ∧ Grew S S') := fun P b hb hR => by
  subst hb
  exact Thr.pans (v := thrown 95 4) (x133 false) ⟨by rw [← hR]; rfl, .refl S⟩
 refine gdTD (fun q3 => ?_) (fun q3 => ?_)
 case refine_2 =>
  simp [q3] at hR ⊢
  exact hwrong _ false rfl hR
 by_cases q4 : headF f = []
 ·simp [q3, q4] at hR ⊢
  refine Thr.pans (v := thrown 95 4) (x133 false) ⟨by rw [← hR]; rfl, .refl S⟩
 simp [q3, q4, -List.drop_one] at hR ⊢
 refine Thr.call (x133 true) ?_
 refine ACalls.mono (x134 S) ?_
 rintro e S' ⟨i, j, rfl, hH, hG⟩
 have hkids : 1 ≤ f.kids.length := by
  obtain ⟨_, g, r, hk⟩ := headF_kids q4
  rw [hk]; simp
 have hsl : ∀ S, opV S (.slc 4 (.k (.sl f.nl 4 (encs f.kids))) (some (.k (.int .i64 1))) none none) = some (.sl f.nl 4 (encs (f.kids.drop 1))) := fun S => op_slcE (by decide) (by omega)
 have hlk : (f.kids.drop 1).length ≤ 1000000000 := by have := fs_len (f.kids.drop 1); omega
 have hEk : ∀ g ∈ f.kids.drop 1, Thr Tryz.prog 111 [enc g] (endX (E g)) := fun g hg => hE g (by have := fs_mem hg; omega)
 have hlk2 : f.kids.length ≤ 1048577 := by have := fs_len (f.kids.drop 1); rw [List.length_drop] at this; omega
 show bnd _ _
 simp only [plain_mref]
 rw [op_mlk_al hH]
 cases hg : alGet opsAL (headF f) with
 | none =>
  simp [hg, -List.drop_one] at hR ⊢
  rw [hsl]
  simp [-List.drop_one]
  exact callX' (x136 E (headF f) f f.nl (f.kids.drop 1) (by omega) (fun g hg => hE g (by omega)) h168) hG (fun c hc => by rw [hc] at hR; exact hR.symm) fun hc => endT (by rw [hc] at hR; exact hR) hG
 | some m =>
  have hm := opsAL_small hg
  simp [hg, -List.drop_one] at hR ⊢
  have fin : ∀ b, b = (decide (m < 0) || decide ((f.kids.length : Int) = m + 1)) → callA Tryz.prog 133 [.bool b] S' (fun x99 S21 => bnd (opV S21 (.slc 4 (.k (.sl f.nl 4 (encs f.kids))) (some (.k (.int .i64 1))) none none)) fun x102 =>
    callA Tryz.prog 135 [x102.plain] S21 (fun x51 S12 => AE.ret (.tup []) = endX R ∧ Grew S S12) (kp fun e S' => e = endX R ∧ Grew S S')) (kp fun e S' => e = endX R ∧ Grew S S') := fun b hb => by
   rw [← hb] at hR
   refine w133T hG hR fun _ hR => ?_
   rw [hsl]
   simp [-List.drop_one]
   exact callX' (x135 E f.nl (f.kids.drop 1) hlk hEk) hG (fun c hc => by rw [hc] at hR; exact hR.symm) fun hc => endT (by rw [hc] at hR; exact hR) hG
  refine gdFD (fun q5 => ?_) (fun q5 => ?_)
  ·simp [q5]
   exact fin true (by simp [q5])
  ·rw [op_add (by omega) (by omega)]
   simp [q5]
   exact fin _ (by simp [q5])
end Go.Pl.L
end
section
open Go Go.Pl Go.Proofs Go.Pl.Z
namespace Go.Pl.L
set_option maxRecDepth 100000
theorem refs_bool (b : Bool) (p : Nat → Nat → Bool) : (AE.ret (.bool b)).refsB p := by simp only [AE.refsB, V.refsB]
def seenB : List (List UInt8) → List Fm → Bool
 | _, [] => true
 | s, x :: r => decide (x.kind = 1) && (isNameB x.text && (!decide (x.text ∈ s) && seenB (s ++ [x.text]) r))
def thisW : List UInt8 := [116, 104, 105, 115]
def capsB (W : Fm → Bool) : List UInt8 → List Fm → Bool
 | _, [] => true
 | last, p :: r => (decide (p.kind = 3) && decide ((p.kids.length : Int) = 2)) && (decide ((kd p.kids 0).kind = 1) && (W (kd p.kids 1) && ((isNameB (kd p.kids 0).text || decide ((kd p.kids 0).text = thisW)) &&
  (!(Op.bytesLess (kd p.kids 0).text last || decide ((kd p.kids 0).text = last)) && capsB W (kd p.kids 0).text r))))
def fnB (X : Fm → Int) (W : Fm → Bool) : List Fm → Bool
 | a :: e :: ps => decide (a.kind = 3) && (decide (X e = 0) && (seenB [] a.kids && capsB W [] ps))
 | _ => false
set_option maxHeartbeats 4000000 in
theorem x57 (X : Fm → Int) (W : Fm → Bool) (nl : Bool) (k : List Fm) (hn : fsizes k ≤ 1048576) (h89 : ∀ e ∈ k, Thr Tryz.prog 89 [enc e] (.ret (.int .i64 (X e)))) (h56 : ∀ s, Thr Tryz.prog 56 [.str s] (.ret (.bool (isNameB s))))
  (h27 : ∀ p ∈ k, ∀ g ∈ p.kids, Thr Tryz.prog 27 [enc g] (.ret (.bool (W g)))) : Thr Tryz.prog 57 [.sl nl 4 (encs k)] (.ret (.bool (fnB X W k))) := by
 refine t57 _ _ (refs_bool _) fun S => ?_
 unfold s57
 have hl9 : k.length ≤ 1000000000 := by have := fs_len k; omega
 rcases k with _ | ⟨a, _ | ⟨e, ps⟩⟩
 ·simp [fnB]
 ·simp [fnB]
 ·
  simp
  have h2 : ¬ ((ps.length : Int) + 1 + 1 < 2) := by omega
  simp [h2]
  refine gdF (fun q => ?_) (fun q => ?_)
  ·simp at q; simp [q, fnB]
  simp at q
  simp [q]
  refine Thr.call (h89 e (by simp)) ?_
  simp
  refine br (fun q2 => ?_) (fun q2 => ?_)
  ·simp at q2; simp [fnB, q2]
  simp at q2
  have hal : a.kids.length ≤ 1000000000 := by have := fs_kids a; simp only [fsizes] at hn; omega
  have hps : ps.length ≤ 1000000000 := by simp at hl9; omega
  have hw : ∀ p ∈ ps, ∀ g ∈ p.kids, Thr Tryz.prog 27 [enc g] (.ret (.bool (W g))) := fun p hp => h27 p (by simp [hp])
  have hfn : fnB X W (a :: e :: ps) = (seenB [] a.kids && capsB W [] ps) := by simp [fnB, q, q2]
  rw [hfn]
  generalize hB : (seenB [] a.kids && capsB W [] ps) = B
  unfold loop5
  intro V1 hV1
  suffices key : ∀ (m i : Nat) (s : List (List UInt8)), i + m = a.kids.length → B = (seenB s (a.kids.drop i) && capsB W [] ps) →
    V1 (.sl nl 4 (enc a :: enc e :: encs ps)) (.mref S.b S.c) (.sl a.nl 4 (encs a.kids)) (.int .i64 a.kids.length) (.int .i64 i) (own S [.mapv (stK s) (stV s)]) from key a.kids.length 0 [] (by omega) (by simp [hB])
  intro m
  induction m with
  | zero =>
   intro i s hi hin
   refine hV1 _ _ _ _ _ _ ?_
   have : a.kids.drop i = [] := List.drop_eq_nil_of_le (by omega)
   rw [this] at hin
   simp only [seenB, Bool.true_and] at hin
   simp [show ¬ i < a.kids.length by omega]
   clear hV1 hB hfn
   have hO : Own S (own S [.mapv (stK s) (stV s)]) := .own _ _
   generalize own S [.mapv (stK s) (stV s)] = S1 at hO ⊢
   clear hi this hal h89
   unfold loop4
   intro V2 hV2
   suffices key : ∀ (m i : Nat) (last : List UInt8), i + m = ps.length → B = capsB W last (ps.drop i) → V2 (.str last) (.sl nl 4 (encs ps)) (.int .i64 ps.length) (.int .i64 i) S1 from key ps.length 0 [] (by omega) (by simpa using hin)
   intro m
   induction m with
   | zero =>
    intro i last hi hin
    refine hV2 _ _ _ _ _ ?_
    have : ps.drop i = [] := List.drop_eq_nil_of_le (by omega)
    rw [this] at hin
    simp only [capsB] at hin
    simp [show ¬ i < ps.length by omega, hin, hO]
   | succ m ih =>
    intro i last hi hin
    have hlt : i < ps.length := by omega
    refine hV2 _ _ _ _ _ ?_
    rw [drop_cons hlt] at hin
    simp only [capsB] at hin
    simp [hlt, op_iaE (S := S1) (n := nl) (Int.natCast_nonneg i) (show ps[(i : Int).toNat]? = some ps[i] by simp [hlt])]
    have hwp := hw ps[i] (List.getElem_mem hlt)
    generalize ps[i] = p at hin hwp ⊢
    refine gdF (fun q3 => ?_) (fun q3 => ?_)
    ·simp at q3
     have : B = false := by rw [hin]; simp [q3]
     simp [q3, this, hO]
    simp at q3
    simp [q3]
    by_cases q4 : (p.kids.length : Int) = 2
    case neg =>
     have : B = false := by rw [hin]; simp [q4]
     simp [q4, this, hO]
    obtain ⟨x, y, hk⟩ := list2 q4
    simp [hk] at hin ⊢
    refine gdF (fun q5 => ?_) (fun q5 => ?_)
    ·simp at q5
     have : B = false := by rw [hin]; simp [q5]
     simp [q5, this, hO]
    simp at q5
    simp [q5]
    refine Thr.call (hwp y (by rw [hk]; simp)) ?_
    cases hy : W y with
    | false =>
     have : B = false := by rw [hin]; simp [hy]
     simp [this, hO]
    | true =>
     simp
     refine Thr.call (h56 x.text) ?_
     have fin : ∀ b, b = (isNameB x.text || decide (x.text = thisW)) → b = true → B = (!(Op.bytesLess x.text last || decide (x.text = last)) && capsB W x.text (ps.drop (i + 1))) := fun b hb hbt => by
      rw [hin]
      rw [← hb, hbt]
      simp [q3, q5, hy]
     have ht : B = false ∨ (isNameB x.text || decide (x.text = thisW)) = true := by
      cases h : (isNameB x.text || decide (x.text = thisW)) with
      | true => exact .inr rfl
      | false => exact .inl (by rw [hin, h]; simp)
     cases hnm : isNameB x.text with
     | false =>
      by_cases q6 : x.text = thisW
      ·have hf := fin _ rfl (by simp [q6])
       have q6' : x.text = [116, 104, 105, 115] := q6
       simp [q6'] at hf ⊢
       refine br (fun q7 => ?_) (fun q7 => ?_)
       ·have : B = false := by
         rw [hf]
         simp at q7 ⊢
         intro h1 h2
         rcases q7 with h | h
         ·rw [h] at h1; cases h1
         ·exact absurd h h2
        simp [this, hO]
       ·rw [op_add (by omega) (by omega)]
        simp
        refine ih (i + 1) _ (by omega) ?_
        rw [hf]
        simp at q7
        simp [q7]
      ·have : B = false := ht.resolve_right (by simp [hnm, q6])
       have q6' : ¬ x.text = [116, 104, 105, 115] := q6
       simp [q6', this, hO]
     | true =>
      have hf := fin _ rfl (by simp [hnm])
      simp
      refine br (fun q7 => ?_) (fun q7 => ?_)
      ·have : B = false := by rw [hf, q7]; simp
       simp [this, hO]
      ·rw [op_add (by omega) (by omega)]
       simp
       refine ih (i + 1) _ (by omega) ?_
       rw [hf, q7]
       simp
  | succ m ih =>
   intro i s hi hin
   have hlt : i < a.kids.length := by omega
   refine hV1 _ _ _ _ _ _ ?_
   rw [drop_cons hlt] at hin
   simp only [seenB] at hin
   simp [hlt, op_iaE (S := own S [.mapv (stK s) (stV s)]) (n := a.nl) (Int.natCast_nonneg i) (show a.kids[(i : Int).toNat]? = some a.kids[i] by simp [hlt])]
   generalize a.kids[i] = x at hin ⊢
   refine gdF (fun q3 => ?_) (fun q3 => ?_)
   ·simp at q3
    have : B = false := by rw [hin]; simp [q3]
    simp [q3, this]
   simp at q3
   simp [q3]
   refine Thr.call (h56 x.text) ?_
   cases hnm : isNameB x.text with
   | false =>
    have : B = false := by rw [hin]; simp [hnm]
    simp [this]
   | true =>
    simp
    rw [op_mlk_st own_H0]
    by_cases hs : x.text ∈ s
    ·have : B = false := by rw [hin]; simp [hs]
     simp [hs, this]
    ·simp [hs]
     refine eff_mup0 (st_put s x.text hs) ?_
     rw [op_add (by omega) (by omega)]
     simp
     refine ih (i + 1) (s ++ [x.text]) (by omega) ?_
     rw [hin]
     simp [q3, hnm, hs]
end Go.Pl.L
end
section
open Go Go.Pl Go.Proofs
namespace Go.Pl.L
set_option linter.all false
def L168 : LF := ⟨14,[],.seq (.reg [Lo 2 (.mv (.t 0)),Lo 3 (.call 208 [.t 2]),Lo 4 (.call 207 [.t 3]),Lo 0 (.asg (.t 4))]) (.seq (.reg [Lo 5 (.mv (.t 0)),Lo 6 (.call 210 [.t 5]),Lo 7 (.call 209 [.t 6]),Lo 8 (.len (.t 7)),Lo 9 (.mv (.t 0)),Lo 10 (.len (.t 9)),Lo 11 (.bin .neq (.t 8) (.t 10))]) (.cond (.t 11) (.reg [Lo 12 (.mk [.int .i64 0] [(0,1,(.k (.int .i64 7)))]),Lo 13 (.mki 95 (.t 12)),.op ⟨none,.pan (.t 13),none⟩]) .skip))⟩
theorem c168 : compFm Tryz.prog Tryz.f168 [1000000007] = some L168.er := by kernel_rfl
theorem g168 : isGo Tryz.prog 168 = true := by kernel_rfl
def s168 (P : Program) (a0 : V) (S : St) (K : AE → St → Prop) : Prop :=
 callA P 208 [a0.plain.plain.plain] S (fun x1 S1 =>
 callA P 207 [x1.plain] S1 (fun x2 S2 =>
 callA P 210 [x2.plain.plain] S2 (fun x3 S3 =>
 callA P 209 [x3.plain] S3 (fun x4 S4 =>
 bnd (opV S4 (.len (.k x4.plain))) fun x5 =>
 bnd (opV S4 (.len (.k x2.plain.plain))) fun x6 =>
 bnd (opV S4 (.bin .neq (.k x5.plain) (.k x6.plain))) fun x7 =>
 brV x7.plain
 (bnd (opV S4 (.mk [(.int .i64 0)] [(0, 1, (.k (.int .i64 7)))])) fun x8 =>
 bnd (opV S4 (.mki 95 (.k x8.plain))) fun x9 =>
 panA x9.plain S4 (kp K))
 (K (.ret (.tup [])) S4)) (kp K)) (kp K)) (kp K)) (kp K)
theorem e168 : (fun (P : Program) (a0 : V) (S : St) (K : AE → St → Prop) => lvc P L168.c (retL L168.rs K) (frame0 [a0]) S) = s168 := by kernel_rfl
theorem t168 (a0 : V) (r : AE) (h : ∀ S, s168 Tryz.prog a0 S fun e S' => e = r ∧ S' = S) : Thr Tryz.prog 168 [a0] r :=
 Thr_of_lvc (L := L168) hm Tryz.func168 g168 c168 (Nat.le_of_ble_eq_true rfl) fun S => by have := h S; rw [← e168] at this; exact this
theorem u168 (a0 : V) (S : St) (Q : AE → St → Prop) (h : WFS S → s168 Tryz.prog a0 S.enter (ovr S Q)) : ACalls Tryz.prog 168 [a0] S Q :=
 ACalls_of_lvc (L := L168) hm Tryz.func168 g168 c168 (Nat.le_of_ble_eq_true rfl) fun hw => by have := h hw; rw [← e168] at this; exact this
def L208 : LF := ⟨4,[.tmp 2],.seq (.reg [Lo 1 (.boxr (.t 0)),Lo 2 (.asg (.k .nilfn))]) (.seq (.reg [Lo 3 (.fun_ 225 [.t 1]),Lo 2 (.asg (.t 3))]) .ret)⟩
theorem c208 : compFm Tryz.prog Tryz.f208 [1000000007] = some L208.er := by kernel_rfl
theorem g208 : isGo Tryz.prog 208 = true := by kernel_rfl
def s208 (P : Program) (a0 : V) (S : St) (K : AE → St → Prop) : Prop :=
 effA S (.boxr (.k a0.plain.plain)) fun x1 S1 =>
 K (.ret ((.fn 225 [x1.plain]))) S1
theorem e208 : (fun (P : Program) (a0 : V) (S : St) (K : AE → St → Prop) => lvc P L208.c (retL L208.rs K) (frame0 [a0]) S) = s208 := by kernel_rfl
theorem t208 (a0 : V) (r : AE) (h : ∀ S, s208 Tryz.prog a0 S fun e S' => e = r ∧ S' = S) : Thr Tryz.prog 208 [a0] r :=
 Thr_of_lvc (L := L208) hm Tryz.func208 g208 c208 (Nat.le_of_ble_eq_true rfl) fun S => by have := h S; rw [← e208] at this; exact this
def L209 : LF := ⟨61,[.tmp 2],.seq (.reg [Lo 2 (.asg (.k (.sl true 4 [])))]) (.seq (.seq (.reg [Lo 6 (.mv (.t 0)),Lo 7 (.len (.t 6)),Lo 8 (.bin .lss (.t 7) (.k (.int .i64 2)))]) (.cond (.t 8) (.seq (.reg [Lo 9 (.asg (.t 0)),Lo 2 (.asg (.t 9))]) .ret) .skip)) (.seqj [0] (.seq (.reg [Lo 3 (.asg (.k (.int .i64 1)))]) (.block 0 (.loop [0,3] (.seq (.seq (.reg [Lo 10 (.mv (.t 3)),Lo 11 (.mv (.t 0)),Lo 12 (.len (.t 11)),Lo 13 (.bin .lss (.t 10) (.t 12))]) (.cond (.t 13) .skip (.exit 0))) (.seq (.block 1 (.seq (.draw [Lo 16 (.mv (.t 0)),Lo 17 (.mv (.t 3)),Lo 18 (.ia 1 (.t 16) (.t 17)),Lo 19 (.ld 1 false (.t 18)),Lo 20 (.mv (.t 0)),Lo 21 (.mv (.t 3)),Lo 22 (.bin .sub (.t 21) (.k (.int .i64 1))),Lo 23 (.ia 1 (.t 20) (.t 22)),Lo 24 (.ld 1 false (.t 23))] [Lo 25 (.bin .eql (.t 19) (.t 24))]) (.cond (.t 25) (.seq (.reg [Lo 26 (.mv (.t 0)),Lo 27 (.mv (.t 3)),Lo 28 (.slc 1 (.t 26) (some (.t 27)) none none),Lo 4 (.asg (.t 28))]) (.seqj [0,3] (.seq (.reg [Lo 5 (.asg (.k (.int .i64 1)))]) (.block 2 (.loop [0,3,4,5] (.seq (.seq (.reg [Lo 29 (.mv (.t 5)),Lo 30 (.mv (.t 4)),Lo 31 (.len (.t 30)),Lo 32 (.bin .lss (.t 29) (.t 31))]) (.cond (.t 32) .skip (.exit 2))) (.seqj [0,3,4,5] (.block 3 (.seq (.draw [Lo 35 (.mv (.t 4)),Lo 36 (.mv (.t 5)),Lo 37 (.ia 1 (.t 35) (.t 36)),Lo 38 (.ld 1 false (.t 37)),Lo 39 (.mv (.t 4)),Lo 40 (.mv (.t 5)),Lo 41 (.bin .sub (.t 40) (.k (.int .i64 1))),Lo 42 (.ia 1 (.t 39) (.t 41)),Lo 43 (.ld 1 false (.t 42))] [Lo 44 (.bin .neq (.t 38) (.t 43))]) (.cond (.t 44) (.seq (.reg [Lo 45 (.mv (.t 0)),Lo 46 (.mv (.t 3)),Lo 47 (.mv (.t 4)),Lo 48 (.mv (.t 5)),Lo 49 (.ia 1 (.t 47) (.t 48)),Lo 50 (.ld 1 false (.t 49)),Lo 51 (.ia 1 (.t 45) (.t 46)),.op ⟨none,.st 1 (.t 51) (.t 50),none⟩]) (.reg [Lo 52 (.mv (.t 3)),Lo 53 (.bin .add (.t 52) (.k (.int .i64 1))),Lo 3 (.asg (.t 53))])) .skip))) (.reg [Lo 33 (.mv (.t 5)),Lo 34 (.bin .add (.t 33) (.k (.int .i64 1))),Lo 5 (.asg (.t 34))])))))) (.seq (.reg [Lo 54 (.mv (.t 0)),Lo 55 (.mv (.t 3)),Lo 56 (.slc 1 (.t 54) (some (.t 55)) none none),.op ⟨none,.clr 1 (.str []) (.t 56),none⟩]) (.seq (.reg [Lo 57 (.mv (.t 0)),Lo 58 (.mv (.t 3)),Lo 59 (.slc 1 (.t 57) none (some (.t 58)) none),Lo 2 (.asg (.t 59))]) .ret)))) .skip))) (.reg [Lo 14 (.mv (.t 3)),Lo 15 (.bin .add (.t 14) (.k (.int .i64 1))),Lo 3 (.asg (.t 15))])))))) (.seq (.reg [Lo 60 (.asg (.t 0)),Lo 2 (.asg (.t 60))]) .ret)))⟩
theorem c209 : compFm Tryz.prog Tryz.f209 [1000000007] = some L209.er := by kernel_rfl
theorem g209 : isGo Tryz.prog 209 = true := by kernel_rfl
def s209 (P : Program) (a0 : V) (S : St) (K : AE → St → Prop) : Prop :=
 bnd (opV S (.len (.k a0.plain.plain.plain))) fun x1 =>
 bnd (opV S (.bin .lss (.k x1.plain) (.k (.int .i64 2)))) fun x2 =>
 brV x2.plain
 (K (.ret a0.plain) S)
 (gjn (fun j3 : V → St → Prop =>
 loop2 (fun R5 w7 w8 S2 =>
 bnd (opV S2 (.len (.k w7.plain.plain))) fun x9 =>
 bnd (opV S2 (.bin .lss (.k w8.plain.plain) (.k x9.plain))) fun x10 =>
 brV x10.plain
 (bnd (opV S2 (.ia 1 (.k w7.plain.plain) (.k w8.plain.plain))) fun x11 =>
 bnd (opV S2 (.ld 1 false (.k x11.plain))) fun x12 =>
 bnd (opV S2 (.bin .sub (.k w8.plain.plain) (.k (.int .i64 1)))) fun x13 =>
 bnd (opV S2 (.ia 1 (.k w7.plain.plain) (.k x13.plain))) fun x14 =>
 bnd (opV S2 (.ld 1 false (.k x14.plain))) fun x15 =>
 bnd (opV S2 (.bin .eql (.k x12.plain) (.k x15.plain))) fun x16 =>
 brV x16.plain
 (bnd (opV S2 (.slc 1 (.k w7.plain.plain) (some (.k w8.plain.plain)) none none)) fun x17 =>
 gjn (fun j18 : V → V → St → Prop =>
 loop4 (fun R24 w26 w27 w28 w29 S5 =>
 bnd (opV S5 (.len (.k w28.plain.plain))) fun x30 =>
 bnd (opV S5 (.bin .lss (.k w29.plain.plain) (.k x30.plain))) fun x31 =>
 brV x31.plain
 (gjn (fun j32 : V → V → V → V → St → Prop =>
 bnd (opV S5 (.ia 1 (.k w28.plain.plain) (.k w29.plain.plain))) fun x38 =>
 bnd (opV S5 (.ld 1 false (.k x38.plain))) fun x39 =>
 bnd (opV S5 (.bin .sub (.k w29.plain.plain) (.k (.int .i64 1)))) fun x40 =>
 bnd (opV S5 (.ia 1 (.k w28.plain.plain) (.k x40.plain))) fun x41 =>
 bnd (opV S5 (.ld 1 false (.k x41.plain))) fun x42 =>
 bnd (opV S5 (.bin .neq (.k x39.plain) (.k x42.plain))) fun x43 =>
 brV x43.plain
 (bnd (opV S5 (.ia 1 (.k w28.plain.plain) (.k w29.plain.plain))) fun x44 =>
 bnd (opV S5 (.ld 1 false (.k x44.plain))) fun x45 =>
 bnd (opV S5 (.ia 1 (.k w26.plain.plain) (.k w27.plain.plain))) fun x46 =>
 effA S5 (.st 1 (.k x46.plain) (.k x45.plain)) fun x47 S7 =>
 bnd (opV S7 (.bin .add (.k w27.plain.plain) (.k (.int .i64 1)))) fun x48 =>
 j32 w26 x48 w28 w29 S7)
 (j32 w26 w27 w28 w29 S5))
 (fun z33 z34 z35 z36 S6 =>
 bnd (opV S6 (.bin .add (.k z36.plain.plain) (.k (.int .i64 1)))) fun x37 =>
 R24 z33 z34 z35 x37 S6))
 (j18 w26 w27 S5))
 w7 w8 x17 ((.int .i64 1)) S2)
 (fun z19 z20 S3 =>
 bnd (opV S3 (.slc 1 (.k z19.plain.plain) (some (.k z20.plain.plain)) none none)) fun x21 =>
 effA S3 (.clr 1 (.str []) (.k x21.plain)) fun x22 S4 =>
 bnd (opV S4 (.slc 1 (.k z19.plain.plain) none (some (.k z20.plain.plain)) none)) fun x23 =>
 K (.ret x23) S4))
 (bnd (opV S2 (.bin .add (.k w8.plain.plain) (.k (.int .i64 1)))) fun x49 =>
 R5 w7 x49 S2))
 (j3 w7 S2))
 a0.plain ((.int .i64 1)) S)
 (fun z4 S1 =>
 K (.ret z4) S1))
theorem e209 : (fun (P : Program) (a0 : V) (S : St) (K : AE → St → Prop) => lvc P L209.c (retL L209.rs K) (frame0 [a0]) S) = s209 := by kernel_rfl
theorem t209 (a0 : V) (r : AE) (hr : ∀ p, r.refsB p) (h : ∀ S, s209 Tryz.prog a0 S fun e S' => e = r ∧ Own S S') : Thr Tryz.prog 209 [a0] r :=
 Thr_of_lvcB (L := L209) hm Tryz.func209 g209 c209 (Nat.le_of_ble_eq_true rfl) hr fun S => by have := h S; rw [← e209] at this; exact this
theorem u209 (a0 : V) (S : St) (Q : AE → St → Prop) (h : WFS S → s209 Tryz.prog a0 S.enter (ovr S Q)) : ACalls Tryz.prog 209 [a0] S Q :=
 ACalls_of_lvc (L := L209) hm Tryz.func209 g209 c209 (Nat.le_of_ble_eq_true rfl) fun hw => by have := h hw; rw [← e209] at this; exact this
end Go.Pl.L
end
section
open Go Go.Pl Go.Proofs Go.Pl.Z
namespace Go.Pl
def strs (l : List (List UInt8)) : List V := l.map .str
@[simp] theorem strs_length (l : List (List UInt8)) : (strs l).length = l.length := by simp [strs]
theorem strs_get (l : List (List UInt8)) (i : Nat) : (strs l)[i]? = (l[i]?).map .str := by simp [strs]
theorem strs_refsB (p : Nat → Nat → Bool) (l : List (List UInt8)) : V.refsBs p (strs l) := (V.refsBs_iff p _).2 fun x hx => by
 simp only [strs, List.mem_map] at hx
 obtain ⟨s, -, rfl⟩ := hx
 trivial
def St.rwt (S : St) (i k : Nat) (l : List (List UInt8)) : St := S.set i k (.rows 1 (strs l))
section
variable {S : St} {i k : Nat} {l l' : List (List UInt8)}
@[simp] theorem rwt_H : (S.rwt i k l).H i k = some (.rows 1 (strs l)) := by simp [St.rwt, St.set, upd2_eq S.hO]
@[simp] theorem rwt_rwt : (S.rwt i k l).rwt i k l' = S.rwt i k l' := by
 simp only [St.rwt, St.set, St.mk.injEq, and_true, true_and]
 funext a b
 simp only [upd2_eq S.hO]
 split <;> rfl
theorem rwt_self (h : S.H i k = some (.rows 1 (strs l))) : S.rwt i k l = S := by
 cases S with
 | mk H n b c O hO =>
  simp only [St.rwt, St.set, St.mk.injEq, and_true]
  funext a b
  simp only [upd2_eq hO]
  split
  ·rename_i e; rw [e.1, e.2]; exact h.symm
  ·rfl
@[simp] theorem rwt_b : (S.rwt i k l).b = S.b := rfl
theorem op_ld_tat {j : Int} {P R : List (List UInt8)} {f : List UInt8} (hl : l = P ++ f :: R) (hj : j = (P.length : Int)) : opV (S.rwt i k l) (.ld 1 false (.k (.eref i k 1 j))) = some (.str f) := by
 have hO : (S.rwt i k l).O = Ops.std := S.hO
 have h1 : l[j.toNat]? = some f := by rw [hl]; exact L.get_mid _ _ _ _ (by omega)
 have h0 : 0 ≤ j := by omega
 have hlt : j < l.length := by have := (List.getElem?_eq_some_iff.1 h1).1; omega
 have e := (List.getElem?_eq_some_iff.1 (show (strs l)[j.toNat]? = some (.str f) by rw [strs_get, h1]; rfl)).2
 simp [opV, M.val, X.ev, hO, Ops.std, h0, hlt, e, V.isGr, V.isAgg]
theorem eff_st_tat {j : Int} {P R : List (List UInt8)} {x f : List UInt8} {K : V → St → Prop} (hl : l = P ++ x :: R) (hj : j = (P.length : Int)) (h : K .any (S.rwt i k (P ++ f :: R))) : effA (S.rwt i k l) (.st 1 (.k (.eref i k 1 j)) (.k (.str f))) K := by
 subst hl hj
 have hO : (S.rwt i k (P ++ x :: R)).O = Ops.std := S.hO
 have hl : (P.length : Int) < (strs (P ++ x :: R)).length := by simp; omega
 have h0 : (0 : Int) ≤ P.length := by omega
 have e : (strs (P ++ x :: R)).set ((P.length : Int).toNat) (.str f) = strs (P ++ f :: R) := by simp [strs]
 have e2 : (S.rwt i k (P ++ x :: R)).set i k (.rows 1 (strs (P ++ f :: R))) = S.rwt i k (P ++ f :: R) := rwt_rwt
 have c1 : (V.str f).data = true := rfl
 have c2 : (V.str f).cells.length = 1 := rfl
 simp only [effA, M.eff, X.ev, rwt_H, hO, Ops.std, c1, c2, and_self, if_true, h0, hl, e, e2]
 exact h
theorem op_slc_tL {S : St} {ln lo : Int} (h0 : 0 ≤ lo) (h1 : lo ≤ ln) : opV S (.slc 1 (.k (.bs i k 1 0 ln)) (some (.k (.int .i64 lo))) none none) = some (.bs i k 1 lo (ln - lo)) := by
 simp [opV, M.val, X.ev, optInt, V.int?, S.hO, Ops.std, h0, h1]
theorem op_slc_tH {S : St} {ln hi : Int} (h0 : 0 ≤ hi) (h1 : hi ≤ ln) : opV S (.slc 1 (.k (.bs i k 1 0 ln)) none (some (.k (.int .i64 hi))) none) = some (.bs i k 1 0 hi) := by
 simp [opV, M.val, X.ev, optInt, V.int?, S.hO, Ops.std, h0, h1]
theorem eff_clr_t {P R : List (List UInt8)} {off ln : Int} {K : V → St → Prop} (hl : l = P ++ R) (h0 : off = (P.length : Int)) (h1 : ln = (R.length : Int)) (h : K .any (S.rwt i k (P ++ List.replicate R.length []))) :
  effA (S.rwt i k l) (.clr 1 (.str []) (.k (.bs i k 1 off ln))) K := by
 subst hl h0 h1
 have e2 : clrL (strs (P ++ R)) P.length R.length (.str []) = strs (P ++ List.replicate R.length []) := by
  have hd : (strs (P ++ R)).drop (P.length + R.length) = [] := by apply List.drop_eq_nil_of_le; simp
  have ht : (strs (P ++ R)).take P.length = strs P := by simp [strs]
  unfold clrL
  rw [hd, ht, List.append_nil]
  simp [strs]
 have e3 : (S.rwt i k (P ++ R)).set i k (.rows 1 (strs (P ++ List.replicate R.length []))) = S.rwt i k (P ++ List.replicate R.length []) := rwt_rwt
 have c1 : (V.str []).data = true := rfl
 have c2 : (V.str []).cells.length = 1 := rfl
 have c3 : (0 : Int) ≤ (P.length : Int) ∧ (0 : Int) ≤ (R.length : Int) ∧ (P.length : Int) + (R.length : Int) ≤ ((strs (P ++ R)).length : Int) := ⟨by omega, by omega, by simp⟩
 simp only [effA, M.eff, X.ev, clrE, rwt_H, c1, c2, c3, and_self, if_true, Int.toNat_natCast, e2, e3]
 exact h
theorem enter_rwt (h : S.H i k = some (.rows 1 (strs l))) : S.enter = S.enter.rwt i k l := (rwt_self (S := S.enter) h).symm
theorem ovr_rwtB {Q : AE → St → Prop} (hw : WFS S) (h : S.H i k = some (.rows 1 (strs l))) {sz : Nat} {off ln : Int} (hq : Q (.ret (.bs i k sz off ln)) (S.rwt i k l')) : ovr S Q (.ret (.bs i k sz off ln)) (S.enter.rwt i k l') := by
 refine ⟨S.rwt i k l', ?_, ⟨Nat.le_refl _, rfl, Nat.le_refl _, fun a b x hx => ?_⟩, hq⟩
 ·exact (hw _ _ _ h).1
 have hok : (S.rwt i k l').ok = S.ok := rfl
 rw [hok]
 refine ⟨hx, ?_⟩
 simp only [St.rwt, St.set, upd2_eq S.hO] at hx
 split at hx
 ·rename_i e
  obtain ⟨rfl, rfl⟩ := e
  cases hx
  refine ⟨(hw _ _ _ h).1, ?_⟩
  simp only [V.refsB]
  exact strs_refsB _ _
 ·exact hw _ _ _ hx
end
end Go.Pl
namespace Go.Pl.Z
def compT (u : List UInt8) : List (List UInt8) → List (List UInt8)
 | [] => []
 | v :: r => if v = u then compT v r else v :: compT v r
def compS : List (List UInt8) → List (List UInt8)
 | [] => []
 | x :: r => x :: compT x r
end Go.Pl.Z
namespace Go.Pl.L
set_option maxRecDepth 10000
theorem x209 (l : List (List UInt8)) (N : Nat) (hN : N = l.length) (hbig : N ≤ 16777216) (S : St) (bi bk : Nat) (hH : S.H bi bk = some (.rows 1 (strs l))) :
  ACalls Tryz.prog 209 [.bs bi bk 1 0 N] S fun e S' => ∃ (Q R : List (List UInt8)), e = .ret (.bs bi bk 1 0 Q.length) ∧ S' = S.rwt bi bk (Q ++ R) ∧ Q = compS l := by
 refine u209 _ S _ fun hw => ?_
 rw [enter_rwt hH]
 have hK := fun (Q R : List (List UInt8)) (h : Q = compS l) => ovr_rwtB (l' := Q ++ R) (sz := 1) (off := 0) (ln := Q.length) (Q := fun e S' => ∃ (Q R : List (List UInt8)), e = .ret (.bs bi bk 1 0 Q.length) ∧ S' = S.rwt bi bk (Q ++ R) ∧ Q = compS l) hw hH ⟨Q, R, rfl, rfl, h⟩
 revert hK
 generalize ovr S _ = K
 generalize hS : S.enter = S₀
 intro hK
 clear hH hw hS
 unfold s209
 simp [-gjn_eq]
 refine brD (fun h => ?_) (fun h => ?_)
 ·have : l = compS l := by
   rcases l with _ | ⟨x, _ | ⟨y, l⟩⟩
   ·rfl
   ·rfl
   ·simp at hN; omega
  have := hK l [] this
  rw [hN]; simpa using this
 refine gjn_by (fun J => l = compS l → J (.bs bi bk 1 0 N) (S₀.rwt bi bk l)) (fun h => by have := hK l [] h; rw [hN]; simpa using this) ?_
 intro J hJ
 unfold loop2
 intro W hW
 suffices key : ∀ (t k : Nat) (P R : List (List UInt8)) (u : List UInt8), l = P ++ u :: R → k = P.length + 1 → R.length ≤ t → compS l = P ++ u :: compT u R → W (.bs bi bk 1 0 N) (.int .i64 k) (S₀.rwt bi bk l) by
  rcases l with _ | ⟨x, l⟩
  ·simp at hN; omega
  ·exact key l.length 1 [] l x rfl rfl (Nat.le_refl _) rfl
 intro t
 induction t with
 | zero =>
  intro k P R u h1 h2 h3 h4
  obtain rfl := List.length_eq_zero_iff.1 (Nat.le_zero.1 h3)
  refine hW _ _ _ ?_
  have hl : N = P.length + 1 := by rw [hN, h1]; simp
  have : ¬ (k : Int) < N := by omega
  simp [this]
  exact hJ (by rw [h4, h1]; rfl)
 | succ t ih =>
  intro k P R u h1 h2 h3 h4
  refine hW _ _ _ ?_
  rcases R with _ | ⟨v, R⟩
  ·have hl : N = P.length + 1 := by rw [hN, h1]; simp
   have : ¬ (k : Int) < N := by omega
   simp [this]
   exact hJ (by rw [h4, h1]; rfl)
  have hl : N = P.length + (R.length + 2) := by rw [hN, h1]; simp
  have : (k : Int) < N := by omega
  simp [-gjn_eq, this]
  rw [op_ia_bs (by omega) (by omega)]; simp only [bnd_some', pl_eref, plain_int, plain_str]
  rw [op_ld_tat (P := P ++ [u]) (f := v) (R := R) (by rw [h1]; simp) (by simp; omega)]; simp only [bnd_some', plain_int, plain_str]
  rw [op_sub (by omega) (by omega)]; simp only [bnd_some', plain_int]
  rw [op_ia_bs (by omega) (by omega)]; simp only [bnd_some', pl_eref, plain_int, plain_str]
  rw [op_ld_tat (P := P) (f := u) (R := v :: R) h1 (by omega)]; simp only [bnd_some', plain_int, plain_str]
  simp only [op_seql, bnd_some', plain_bool]
  refine brD (fun hc => ?_) (fun hc => ?_)
  ·rw [op_slc_tL (by omega) (by omega)]; simp only [bnd_some', pl_bs]
   refine gjn_by (fun J => ∀ (Q R : List (List UInt8)), (Q ++ R).length = N → Q = compS l → J (.bs bi bk 1 0 N) (.int .i64 Q.length) (S₀.rwt bi bk (Q ++ R))) ?_ ?_
   ·intro Q R g1 g2
    rw [List.length_append] at g1
    simp only [pl_bs, plain_int]
    rw [op_slc_tL (by omega) (by omega)]; simp only [bnd_some', pl_bs]
    refine eff_clr_t (P := Q) (R := R) rfl rfl (by omega) ?_
    rw [op_slc_tH (by omega) (by omega)]; simp only [bnd_some', pl_bs]
    exact hK Q _ g2
   ·intro J hJ
    unfold loop4
    intro W2 hW2
    suffices key2 : ∀ (t j c : Nat) (Q X R2 : List (List UInt8)) (w : List UInt8), 1 ≤ j → R2.length ≤ t → c = Q.length → Q.length + X.length + 1 = k + j → (Q ++ (X ++ w :: R2)).length = N → compS l = Q ++ compT w R2 →
      W2 (.bs bi bk 1 0 N) (.int .i64 c) (.bs bi bk 1 k (N - k)) (.int .i64 j) (S₀.rwt bi bk (Q ++ (X ++ w :: R2))) by
     have := key2 R.length 1 k (P ++ [u]) [] R v (Nat.le_refl _) (Nat.le_refl _) (by simp; omega) (by simp; omega) (by rw [hN, h1]; simp) (by rw [h4]; simp [compT, hc])
     rw [h1]; simpa using this
    intro t2
    have fin2 : ∀ (j c : Nat) (Q X : List (List UInt8)) (w : List UInt8), c = Q.length → Q.length + X.length + 1 = k + j → (Q ++ (X ++ [w])).length = N → compS l = Q →
      W2 (.bs bi bk 1 0 N) (.int .i64 c) (.bs bi bk 1 k (N - k)) (.int .i64 j) (S₀.rwt bi bk (Q ++ (X ++ [w]))) := by
     intro j c Q X w g1 g2 g3 g4
     refine hW2 _ _ _ _ _ ?_
     have g5 := g3
     simp at g5
     have : ¬ (j : Int) < (N : Int) - k := by omega
     simp [-gjn_eq, this]
     subst g1
     exact hJ Q (X ++ [w]) g3 g4.symm
    induction t2 with
    | zero =>
     intro j c Q X R2 w gj g0 g1 g2 g3 g4
     obtain rfl := List.length_eq_zero_iff.1 (Nat.le_zero.1 g0)
     exact fin2 j c Q X w g1 g2 g3 (by simpa [compT] using g4)
    | succ t2 ih2 =>
     intro j c Q X R2 w gj g0 g1 g2 g3 g4
     rcases R2 with _ | ⟨z, R3⟩
     ·exact fin2 j c Q X w g1 g2 g3 (by simpa [compT] using g4)
     refine hW2 _ _ _ _ _ ?_
     have g6 := g3
     simp at g6 g0
     have : (j : Int) < (N : Int) - k := by omega
     simp [-gjn_eq, this]
     refine gjn_by (fun J => ∀ (c : Nat) (Q X : List (List UInt8)), c = Q.length → Q.length + X.length = k + j → (Q ++ (X ++ z :: R3)).length = N → compS l = Q ++ compT z R3 → J (.bs bi bk 1 0 N) (.int .i64 c) (.bs bi bk 1 k (N - k)) (.int .i64 j) (S₀.rwt bi bk (Q ++ (X ++ z :: R3)))) ?_ ?_
     ·intro c Q X f1 f2 f3 f4
      simp only [plain_int]
      rw [op_add (by omega) (by omega)]; simp only [bnd_some', plain_int]
      have := ih2 (j + 1) c Q X R3 z (by omega) (by omega) f1 (by omega) f3 f4
      simpa using this
     ·intro J2 hJ2
      rw [op_ia_bsO (by omega) (by omega)]; simp only [bnd_some', pl_eref, plain_int, plain_str]
      rw [op_ld_tat (P := Q ++ (X ++ [w])) (f := z) (R := R3) (by simp) (by simp; omega)]; simp only [bnd_some', plain_int, plain_str]
      rw [op_sub (by omega) (by omega)]; simp only [bnd_some', plain_int]
      rw [op_ia_bsO (by omega) (by omega)]; simp only [bnd_some', pl_eref, plain_int, plain_str]
      rw [op_ld_tat (P := Q ++ X) (f := w) (R := z :: R3) (by simp) (by simp; omega)]; simp only [bnd_some', plain_int, plain_str]
      simp only [op_sneq, bnd_some', plain_bool]
      refine br (fun hne => ?_) (fun heq => ?_)
      ·simp at hne
       rw [op_ia_bs (by omega) (by omega)]; simp only [bnd_some', pl_eref, plain_int, plain_str]
       obtain ⟨x, X1, hX⟩ : ∃ x X1, X ++ [w] = x :: X1 := by cases X with
        | nil => exact ⟨w, [], rfl⟩
        | cons x X => exact ⟨x, X ++ [w], rfl⟩
       have hX1 : X.length = X1.length := by have := congrArg List.length hX; simp at this; exact this
       have e1 : Q ++ (X ++ w :: z :: R3) = Q ++ (x :: (X1 ++ z :: R3)) := by
        have : X ++ w :: z :: R3 = (X ++ [w]) ++ z :: R3 := by simp
        rw [this, hX]; rfl
       rw [e1]
       refine eff_st_tat (P := Q) (x := x) (R := X1 ++ z :: R3) rfl (by omega) ?_
       rw [op_add (by omega) (by omega)]; simp only [bnd_some', plain_int]
       have := hJ2 (c + 1) (Q ++ [z]) X1 (by simp; omega) (by simp; omega) (by simp; omega) (by rw [g4]; simp [compT, hne])
       simpa using this
      ·simp at heq
       have := hJ2 c Q (X ++ [w]) g1 (by simp; omega) (by simp; omega) (by rw [g4]; simp [compT, heq])
       simpa using this
  ·rw [op_add (by omega) (by omega)]; simp only [bnd_some', plain_int]
   have := ih (k + 1) (P ++ [u]) R v (by rw [h1]; simp) (by simp; omega) (by simp at h3; omega) (by rw [h4]; simp [compT, hc])
   simpa using this
end Go.Pl.L
end
section
open Go Go.Pl Go.Proofs Go.Shelf Go.RowKit
namespace Go.Pl.Z
set_option maxRecDepth 100000
def sortS (l : List (List UInt8)) : List (List UInt8) := l.mergeSort fun x y => decide (x ≤ y)
theorem p207 (nl : Bool) (l : List (List UInt8)) (hl : l.length ≤ 16777216) (S : St) : Pl.Pure Tryz.prog 207 [.fn 225 [.ro (.sl nl 1 (l.map .str))]] S (.sl l.isEmpty 1 ((sortS l).map .str)) := by
 have hgo : isGo Tryz.prog 207 = true := by kernel_rfl
 have inv : ∀ (g : Gh) (S : St) (w : World) (vals : Array Value), SimW g S w → Reps g [.fn 225 [.ro (.sl nl 1 (l.map .str))]] vals → ∃ b o v, vals = #[.func (.func 225) #[] #[.pointer (some ⟨b, o, none⟩)]] ∧ b < w.heap.size ∧ w.cell? ⟨b, o, none⟩ = some v ∧ Rep g (.sl nl 1 (l.map .str)) v := by
  intro g S w vals hs hr
  obtain ⟨v, rfl, hv⟩ := reps1 hr
  cases hv with
  | fn _ _ vs hfl hfn =>
   obtain ⟨u, rfl, hu⟩ := reps1 (g := g) (x := .ro (.sl nl 1 (l.map .str))) ⟨hfl, hfn⟩
   cases hu with
   | ro _ b o c hM hOne hRR =>
    have hm := hs.mem _ _ _ (hM 0 _ rfl)
    have := World.block_lt_of_cell? _ _ hm
    exact ⟨b, o, c 0, rfl, this, by simpa using hm, hRR 0 _ rfl⟩
 cases l with
 | nil =>
  rw [show (sortS []).map V.str = [] by simp [sortS]]
  show Pl.Pure Tryz.prog 207 _ S (.sl true 1 [])
  refine Pure_shelf hgo rfl (fun g S w vals hs' ht hr => ?_) S
  obtain ⟨b, o, v, rfl, hb, hc, hv⟩ := inv g S w vals hs' hr
  obtain ⟨p, c, rfl⟩ : ∃ p c, v = .slice p 0 c := by
   cases hv with
   | slNil => exact ⟨_, _, rfl⟩
   | slE => exact ⟨_, _, rfl⟩
   | sl => exact ⟨_, _, rfl⟩
  refine (Tryz.sorted_nil b o p c w hb hc).mono ?_
  rintro e w' ⟨rfl, hb⟩
  exact ⟨_, rfl, .slNil _, hb⟩
 | cons x l =>
  generalize hz : x :: l = zs at *
  have hne : zs ≠ [] := by rw [← hz]; simp
  have he : zs.isEmpty = false := by rw [← hz]; rfl
  rw [he]
  refine Pure_shelfRow hgo rfl (fun g S w vals hs' ht hr => ?_) S
  obtain ⟨b, o, v, rfl, hb, hc, hv⟩ := inv g S w vals hs' hr
  have hzl : (zs.map V.str).length = zs.length := by simp
  generalize hxs : zs.map V.str = xs at hv
  cases hv with
  | slNil => exact (hne (List.map_eq_nil_iff.1 hxs)).elim
  | slE => exact (hne (List.map_eq_nil_iff.1 hxs)).elim
  | sl _ _ bb oo cap c hcap hsz h h1 hr' =>
   subst hxs
   have hcell : ∀ j, j < zs.length → w.cell? ⟨bb, oo + j, none⟩ = some (encStr (zs[j]?.getD [])) := fun j hj => by
    have g1 : (zs.map V.str)[j]? = some (.str zs[j]) := by simp [hj]
    have g2 := hs'.mem _ _ _ (h j _ 0 _ g1 rfl)
    have g3 := rep_str (hr' j _ 0 _ g1 rfl)
    simp only [Nat.mul_one, Nat.add_zero] at g2
    rw [g2, g3]; simp [hj]
   have hbb : bb < w.heap.size := by
    have : 0 < zs.length := List.length_pos_iff.2 hne
    have := World.block_lt_of_cell? _ _ (hcell 0 this)
    exact this
   rw [hzl] at hc
   refine (Tryz.sorted b o bb oo cap zs hl w hb hbb hc hcell).mono ?_
   rintro e w' ⟨v, rfl, hown, hnil, hbel⟩
   rcases hown.2 with ⟨rfl, -⟩ | ⟨gb, cap', cur, rfl, hge, hcur, hcap', -, hsize, htake⟩
   ·exact (hne (hnil.1 rfl)).elim
   have hsl : ((sortS zs).map V.str).length = zs.length := by simp [sortS]
   refine ⟨_, gb, cur, _, rfl, hbel, hge, hcur, ?_⟩
   rw [show (Value.slice (some ⟨gb, 0, none⟩) zs.length cap') = Value.slice (some ⟨gb, 0, none⟩) ((sortS zs).map V.str).length cap' by rw [hsl]]
   have hat : ∀ (i : Nat) (x : V), ((sortS zs).map V.str)[i]? = some x → ∃ s, (sortS zs)[i]? = some s ∧ x = .str s := fun i x hx => by
    simp only [List.getElem?_map, Option.map_eq_some_iff] at hx
    obtain ⟨s, h1, h2⟩ := hx
    exact ⟨s, h1, h2.symm⟩
   have hj0 : ∀ {s : List UInt8} {j : Nat} {y : V}, (V.str s).cells[j]? = some y → j = 0 ∧ y = .str s := fun {s j y} hy => by
    have : j = 0 := by
     have := (List.getElem?_eq_some_iff.1 hy).1
     simp [V.cells] at this; exact this
    subst this
    simp only [V.cells, List.getElem?_cons_zero, Option.some.injEq] at hy
    exact ⟨rfl, hy.symm⟩
   refine .sl 1 _ gb 0 cap' (fun i _ => encStr ((sortS zs).getD i [])) (by rw [hsl]; exact hcap') (fun i x hx => ?_) (fun i x j y hx hy => ?_) (fun i x j y hx hy => rfl) (fun i x j y hx hy => ?_)
   all_goals obtain ⟨s, hs, rfl⟩ := hat i x hx
   ·rfl
   ·obtain ⟨rfl, rfl⟩ := hj0 hy
    have : ((sortS zs).map encStr)[i]? = some (encStr s) := by simp [hs]
    rw [show (sortS zs).map encStr = (zs.mergeSort fun x y => decide (x ≤ y)).map encStr from rfl, ← htake, List.getElem?_take] at this
    split at this
    ·simp [Gh.addM, hs]
     have := this
     simpa using this
    ·cases this
   ·obtain ⟨rfl, rfl⟩ := hj0 hy
    simp only [List.getD_eq_getElem?_getD, hs, Option.getD_some]
    exact .str s
theorem p207n (nl : Bool) (sz : Nat) (S : St) : Pl.Pure Tryz.prog 207 [.fn 225 [.ro (.sl nl sz [])]] S (.sl true 1 []) := by
 have hgo : isGo Tryz.prog 207 = true := by kernel_rfl
 refine Pure_shelf hgo rfl (fun g S w vals hs ht hr => ?_) S
 obtain ⟨v, rfl, hv⟩ := reps1 hr
 cases hv with
 | fn _ _ vs hfl hfn =>
  obtain ⟨u, rfl, hu⟩ := reps1 (g := g) (x := .ro (.sl nl sz [])) ⟨hfl, hfn⟩
  cases hu with
  | ro _ b o c hM hOne hRR =>
   have hm := hs.mem _ _ _ (hM 0 _ rfl)
   have hb := World.block_lt_of_cell? _ _ hm
   obtain ⟨p, cc, hp⟩ : ∃ p cc, c 0 = .slice p 0 cc := by
    have hv := hRR 0 _ rfl
    generalize c 0 = v at hv
    cases hv with
    | slNil => exact ⟨_, _, rfl⟩
    | slE => exact ⟨_, _, rfl⟩
    | sl => exact ⟨_, _, rfl⟩
   rw [hp] at hm
   refine (Tryz.sorted_nil b o p cc w hb (by simpa using hm)).mono ?_
   rintro e w' ⟨rfl, hb⟩
   exact ⟨_, rfl, .slNil _, hb⟩
end Go.Pl.Z
end
