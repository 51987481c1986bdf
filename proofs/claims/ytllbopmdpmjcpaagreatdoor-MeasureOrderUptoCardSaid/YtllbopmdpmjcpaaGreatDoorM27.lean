import Derived.Test.YtllbopmdpmjcpaaGreatDoorM11
import Derived.Test.YtllbopmdpmjcpaaGreatDoorM17
import Derived.Test.YtllbopmdpmjcpaaGreatDoorM18
import Derived.Test.YtllbopmdpmjcpaaGreatDoorM20
import Derived.Test.YtllbopmdpmjcpaaGreatDoorM26
import Derived.RangeFuncBox
import Derived.RangeFuncLeaves
import Derived.RangeFuncGives
import Derived.RangeFuncWrites
import Derived.Maps.AppendAt
import Derived.Shelf.Abstract
import Derived.WalkKit
import Derived.OwnWalkIn
import Derived.TacticsInMore
import Derived.LoopNIn
import Derived.LoopIn
import Derived.Sort.EncStr
import Derived.Test.YtllbopmdpmjcpaaGreatDoorProg
import Derived.Sort.OwnSorted
import Derived.Shelf.SlIter.Sorted
import Derived.Shelf.SortM.Plain
import Derived.Shelf.SortM.SortNone
import Derived.Ground.SlgmProg
import Derived.Shelf.SlGeneric
set_option linter.unusedSimpArgs false
set_option linter.unusedVariables false
set_option linter.unusedSectionVars false
section
open Go Go.Pl Go.Proofs
namespace Go.Pl.Z
set_option maxRecDepth 100000
def badV (c : Int) : V := .iface 95 (.agg [.int .i64 c])
def WalksR (P : Program) (F : FR) (caps : List V) (x : Option V) (S : St) (Q : St → Prop) : Prop :=
 WFS S → vc P F.N S.n F.c (dEnd S Q) (upd (upd (frame0 caps) F.ta (recV x)) F.tb (recV x)) S.enter
def WalksD (P : Program) (F : FD) (args : List V) (S : St) (Q : AE → St → Prop) : Prop :=
 WFS S → vcs P F.N S.n (retPost F.rs S Q) (fun σ S1 => vc P F.N S1.n F.cp (defPost P F.fd (F.xs.map (·.ev σ)) F.rs S Q) (fun t => (upd σ F.k (.fn F.fd (F.xs.map (·.ev σ))) t).plain) S1.enter) F.cs (frame0 args) S.enter
theorem wd132n (P : Program) (i : Nat) (S : St) (Q : St → Prop) (hq : Q S) : WalksR P F132 [.ref i 1 0] none S Q := by
 intro hw
 obtain ⟨H, n, b, c, O, hO⟩ := S
 have hend : ∃ S', Over ⟨H, n, b, c, O, hO⟩ ⟨H, n + 1, n, 0, O, hO⟩ S' ∧ Q S' := ⟨_, Over.of rfl rfl rfl hw (fun _ _ _ => rfl), hq⟩
 generalize Q = Q' at hend ⊢
 clear hq
 (try cbv;repeat (simp only [w_same hO];try cbv))
 exact hend
theorem wd132s (P : Program) (i : Nat) (e0 e : Int) (S : St) (Q : St → Prop) (hS : S.H i 1 = some (.int .i64 e0)) (hq : Q (S.set i 1 (.int .i64 e))) : WalksR P F132 [.ref i 1 0] (some (badV e)) S Q := by
 intro hw
 obtain ⟨H, n, b, c, O, hO⟩ := S
 have hne := WFS.ne hw i 1 _ hS
 have hok := (hw i 1 _ hS).1
 simp only at hS
 have e0' : O.same i n = false := w_same_f hO hne
 have e2 : O.same n i = false := w_same_f hO (fun e => hne e.symm)
 have hend : ∀ (H' : Nat → Nat → Option V) (c' : Nat), (∀ i' k', i' ≠ n → H' i' k' = upd2 O H i 1 (.int .i64 e) i' k') → ∃ S', Over ⟨H, n, b, c, O, hO⟩ ⟨H', n + 1, n, c', O, hO⟩ S' ∧ Q S' :=
  fun H' c' hH => ⟨St.set ⟨H, n, b, c, O, hO⟩ i 1 (.int .i64 e), Over.of rfl rfl rfl (WFS.set hw hok (show (V.int .i64 e).refsB _ from trivial)) hH, hq⟩
 generalize Q = Q' at hend ⊢
 clear hq
 simp only [badV]
 (try cbv;repeat (simp only [w_same hO,hS,e0',e2];try cbv))
 refine hend _ _ (fun i' k' hne' => ?_)
 exact upd2_congr hO ((upd2_ne hO hne').trans (upd2_ne hO hne'))
def Looks (P : Program) (f : Nat) (args : List V) (S : St) (r : Option Int) : Prop :=
 ∀ S', S.le S' → ACalls P f args S' fun e S'' => S'' = S' ∧ match r with
  | none => e = .ret (.tup [])
  | some c => e = .pan (badV c)
set_option maxHeartbeats 1000000 in
theorem wd109 (P : Program) (f : Fm) (fl : Nat) (caps : List V) (r : Option Int) (vb : Bool) (S : St) (hcaps : V.refsBs S.ok caps) (h26 : ∀ S, Pl.Pure P 26 [enc f] S (.bool vb)) (hl : Looks P fl caps S r)
  (hn : ∀ i S Q, Q S → ADefers P 132 [.ref i 1 0] none S Q)
  (hs : ∀ i (e0 e : Int) (S : St) Q, S.H i 1 = some (.int .i64 e0) → Q (S.set i 1 (.int .i64 e)) → ADefers P 132 [.ref i 1 0] (some (badV e)) S Q) :
  WalksD P F109 [enc f, .fn fl caps] S fun e S' => S' = S ∧ e = .ret (.int .i64 (if vb then r.getD 0 else 1)) := by
 intro hw
 obtain ⟨H, n, b, c, O, hO⟩ := S
 have hend : ∀ (H' : Nat → Nat → Option V) (n' b' c' : Nat) (e : Int), (∀ i' k', i' < n → H' i' k' = H i' k') → e = (if vb then r.getD 0 else 1) →
   ∃ S', (V.int .i64 e).refsB S'.ok ∧ Over ⟨H, n, b, c, O, hO⟩ ⟨H', n', b', c', O, hO⟩ S' ∧ S' = ⟨H, n, b, c, O, hO⟩ ∧ AE.ret (.int .i64 e) = .ret (.int .i64 (if vb then r.getD 0 else 1)) := by
  intro H' n' b' c' e hH he
  refine ⟨_, trivial, ⟨Nat.le_refl _, rfl, Nat.le_refl _, fun i k x hx => ?_⟩, rfl, by rw [he]⟩
  have h1 := hw i k x hx
  have := (ok_iff _ _ _).1 h1.1
  exact ⟨by show H' i k = some x; rw [hH i k this.1]; exact hx, h1⟩
 generalize hQ : (fun e S' => S' = (⟨H, n, b, c, O, hO⟩ : St) ∧ e = AE.ret (.int .i64 (if vb then r.getD 0 else 1))) = Q
 have hendQ : ∀ (H' : Nat → Nat → Option V) (n' b' c' : Nat) (e : Int), (∀ i' k', i' < n → H' i' k' = H i' k') → e = (if vb then r.getD 0 else 1) →
   ∃ S', (V.int .i64 e).refsB S'.ok ∧ Over ⟨H, n, b, c, O, hO⟩ ⟨H', n', b', c', O, hO⟩ S' ∧ Q (.ret (.int .i64 e)) S' := by subst hQ; exact hend
 clear hend hQ
 obtain ⟨k, m, t, nl, l⟩ := f
 simp only [enc] at h26 ⊢
 generalize encs l = xs at h26 ⊢
 have hsn : O.same n (n + 1) = false := w_same_f hO (by omega)
 have hns : O.same (n + 1) n = false := w_same_f hO (by omega)
 (try cbv;repeat (simp only [w_same hO];try cbv))
 refine Pure.go (h26 _) ?_
 cases vb
 ·(try cbv;repeat (simp only [w_same hO];try cbv))
  obtain ⟨S', h1, h2, h3⟩ := hendQ (upd2 O (upd2 O (upd2 O H n 0 (.agg [.int .i64 k, .int .i64 m, .str t, .sl nl 4 xs])) n 1 (.int .i64 0)) n 1 (.int .i64 1)) (n + 1) n 2 1
   (fun i' k' h => by rw [upd2_ne hO (Nat.ne_of_lt h), upd2_ne hO (Nat.ne_of_lt h), upd2_ne hO (Nat.ne_of_lt h)]) rfl
  refine ⟨.int .i64 1, S', ?_, h1, h2, h3⟩
  (try cbv;repeat (simp only [w_same hO];try cbv))
 ·(try cbv;repeat (simp only [w_same hO];try cbv))
  refine ACalls.mono (hl _ ⟨fun i' k' x hx => ?_, fun i' k' h => ?_⟩) ?_
  ·have := WFS.ne hw i' k' x hx
   simp only
   rw [upd2_ne hO this, upd2_ne hO this]; exact hx
  ·rw [ok_iff] at h ⊢
   simp only at h ⊢
   omega
  rintro e S'' ⟨rfl, he⟩
  cases r with
  | none =>
   subst he
   (try cbv;repeat (simp only [w_same hO];try cbv))
   refine hn n _ _ ?_
   obtain ⟨S', h1, h2, h3⟩ := hendQ (upd2 O (upd2 O (upd2 O H n 0 (.agg [.int .i64 k, .int .i64 m, .str t, .sl nl 4 xs])) n 1 (.int .i64 0)) n 1 (.int .i64 0)) (n + 2) (n + 1) 0 0
    (fun i' k' h => by rw [upd2_ne hO (Nat.ne_of_lt h), upd2_ne hO (Nat.ne_of_lt h), upd2_ne hO (Nat.ne_of_lt h)]) rfl
   refine ⟨.int .i64 0, S', ?_, rfl, h1, h2, h3⟩
   (try cbv;repeat (simp only [w_same hO];try cbv))
  | some cc =>
   subst he
   (try cbv;repeat (simp only [w_same hO];try cbv))
   refine hs n 0 cc _ _ (by simp only [upd2_eq hO, and_self, if_true]) ?_
   obtain ⟨S', h1, h2, h3⟩ := hendQ (upd2 O (upd2 O (upd2 O H n 0 (.agg [.int .i64 k, .int .i64 m, .str t, .sl nl 4 xs])) n 1 (.int .i64 0)) n 1 (.int .i64 cc)) (n + 2) (n + 1) 0 cc
    (fun i' k' h => by rw [upd2_ne hO (Nat.ne_of_lt h), upd2_ne hO (Nat.ne_of_lt h), upd2_ne hO (Nat.ne_of_lt h)]) rfl
   refine ⟨.int .i64 cc, S', ?_, rfl, h1, h2, h3⟩
   (try cbv;repeat (simp only [w_same hO];try cbv))
end Go.Pl.Z
end
section
open Go Go.Pl Go.Proofs
namespace Go.Pl.Z
set_option maxRecDepth 100000
theorem t110v (P : Program) (fn : Func) (hm : P.follows .mixedOrders = true) (hf : P.funcs[110]? = some fn) (hgo : isGo P 110 = true) (hc : compFn P fn = some F110) (f : Fm) (r : Option Int) (i : Nat) (S : St) (hS : S.H i 0 = some (enc f))
  (h111 : ∀ S, Throws 95 P 111 [enc f] S (exU r)) : Throws 95 P 110 [.ref i 0 0] S (exU r) := by
 refine Throws_of_vc hm hf hgo hc (Nat.le_of_ble_eq_true rfl) (fun v e => by cases r <;> simp only [exU, Except.ok.injEq, reduceCtorEq] at e; subst e; simp only [V.refsB, V.refsBs]) fun S' hle hw => ?_
 have hS' := hle.1 _ _ _ hS
 clear hS hle
 obtain ⟨H, n, b, c, O, hO⟩ := S'
 have hne := WFS.ne hw i 0 _ hS'
 simp only at hS'
 have e0 : O.same i n = false := w_same_f hO hne
 cases f
 simp only [enc] at h111 hS'
 generalize encs _ = xs at h111 hS'
 simp only [St.enter]
 cases r with
 | none =>
  (try cbv;repeat (simp only [w_same hO,e0,hS'];try cbv))
  refine Throws.go (h111 _) ?_
  (try cbv;repeat (simp only [w_same hO];try cbv))
  (intro i k x hx;have hne:=WFS.ne hw i k x hx;first|exact hx|(simp (disch:=assumption) only [w_upd2_ne hO];exact hx))
 | some cc =>
  (try cbv;repeat (simp only [w_same hO,e0,hS'];try cbv))
  refine Throws.go (h111 _) ?_
  (try cbv;repeat (simp only [w_same hO];try cbv))
  (intro i k x hx;have hne:=WFS.ne hw i k x hx;first|exact hx|(simp (disch:=assumption) only [w_upd2_ne hO];exact hx))
theorem looks_of {P : Program} {f : Nat} {args : List V} {S : St} {r : Option Int} (h : Throws 95 P f args S (exU r)) : Looks P f args S r := fun S' hl => (h.run S' hl).mono fun e S'' ⟨h1, h2⟩ => by
 cases r with
 | none => exact ⟨h2, h1⟩
 | some c => exact ⟨h2, h1⟩
theorem d132n (i : Nat) (S : St) (Q : St → Prop) (hq : Q S) : ADefers Tryz.prog 132 [.ref i 1 0] none S Q :=
 ADefers_of_R hm Tryz.func132 g132 c132 (Nat.le_of_ble_eq_true rfl) (fun _ h => by cases h) (wd132n _ i S Q hq)
theorem d132s (i : Nat) (e0 e : Int) (S : St) (Q : St → Prop) (hS : S.H i 1 = some (.int .i64 e0)) (hq : Q (S.set i 1 (.int .i64 e))) : ADefers Tryz.prog 132 [.ref i 1 0] (some (badV e)) S Q :=
 ADefers_of_R hm Tryz.func132 g132 c132 (Nat.le_of_ble_eq_true rfl) (fun _ h => by cases h; rfl) (wd132s _ i e0 e S Q hS hq)
theorem a109 (f : Fm) (hf : Fine f) (fl : Nat) (caps : List V) (r : Option Int) (S : St) (hcaps : V.refsBs S.ok caps) (hl : Looks Tryz.prog fl caps S r) :
  ACalls Tryz.prog 109 [enc f, .fn fl caps] S fun e S' => S' = S ∧ e = .ret (.int .i64 (if validB f then r.getD 0 else 1)) :=
 ACalls_of_D hm Tryz.func109 g109 c109 (Nat.le_of_ble_eq_true rfl) (wd109 _ f fl caps r (validB f) S hcaps (p26 f hf) hl d132n d132s)
theorem w89 (P : Program) (f : Fm) (e : Int) (h109 : ∀ (S : St) (i : Nat), S.ok i 0 = true → S.H i 0 = some (enc f) → ACalls P 109 [enc f, .fn 110 [.ref i 0 0]] S fun e' S' => S' = S ∧ e' = .ret (.int .i64 e)) :
  Walks P F89 [enc f] (.int .i64 e) := by
 intro H n b c O hO hw
 cases f
 simp only [enc] at h109 ⊢
 generalize encs _ = xs at h109 ⊢
 (try cbv;repeat (simp only [w_same hO];try cbv))
 refine ACalls.mono (h109 _ n ?_ ?_) ?_
 ·rw [ok_iff]
  simp only
  omega
 ·simp only [upd2_eq hO, and_self, if_true]
 rintro e' S' ⟨rfl, rfl⟩
 (try cbv;repeat (simp only [w_same hO];try cbv))
 (intro i k x hx;have hne:=WFS.ne hw i k x hx;first|exact hx|(simp (disch:=assumption) only [w_upd2_ne hO];exact hx))
theorem p89 (f : Fm) (hf : Fine f) (r : Option Int) (h111 : ∀ S, Throws 95 Tryz.prog 111 [enc f] S (exU r)) (S : St) : Pl.Pure Tryz.prog 89 [enc f] S (.int .i64 (if validB f then r.getD 0 else 1)) :=
 mkPure hm Tryz.func89 g89 c89 (Nat.le_of_ble_eq_true rfl) (qI _ _) (w89 _ f _ (fun S i hok hS => a109 f hf 110 [.ref i 0 0] r S (by simp only [V.refsBs, V.refsB, and_true]; exact hok)
  (looks_of (t110v _ _ hm Tryz.func110 g110 c110 f r i S hS h111)))) S
theorem t133 (b : Bool) (S : St) : Throws 95 Tryz.prog 133 [.bool b] S (wantV b (.tup [])) :=
 mkThrows hm Tryz.func133 g133 c133 (Nat.le_of_ble_eq_true rfl) (fun v e p => by cases b <;> simp only [wantV, if_true, if_false, Bool.false_eq_true, Except.ok.injEq, reduceCtorEq] at e; subst e; simp only [V.refsB, V.refsBs]) (w133 _ b) S
theorem wantV_refs {b : Bool} {u : V} (hu : ∀ p, u.refsB p) : ∀ v, wantV b u = .ok v → ∀ p, v.refsB p := fun v e p => by
 cases b <;> simp only [wantV, if_true, if_false, Bool.false_eq_true, Except.ok.injEq, reduceCtorEq] at e
 subst e; exact hu p
theorem slV_refs (f : Fm) (p : Nat → Nat → Bool) : (slV f).refsB p := by simp only [slV, V.refsB]; exact encs_refsB p _
theorem q0 (p : Nat → Nat → Bool) : (V.tup []).refsB p := by simp only [V.refsB, V.refsBs]
theorem qS (s : List UInt8) (p : Nat → Nat → Bool) : (V.str s).refsB p := by simp only [V.refsB]
theorem t164 (f : Fm) (m : Int) (S : St) : Throws 95 Tryz.prog 164 [enc f, .int .i64 m] S (wantV (exactB f m) (slV f)) := mkThrows hm Tryz.func164 g164 c164 (Nat.le_of_ble_eq_true rfl) (wantV_refs (slV_refs f)) (w164 _ f m t133) S
theorem t206 (f : Fm) (m : Int) (S : St) : Throws 95 Tryz.prog 206 [enc f, .int .i64 m] S (wantV (listB f m) (slV f)) := mkThrows hm Tryz.func206 g206 c206 (Nat.le_of_ble_eq_true rfl) (wantV_refs (slV_refs f)) (w206 _ f m t133) S
theorem t165 (f : Fm) (S : St) : Throws 95 Tryz.prog 165 [enc f] S (wantV (nameFB isNameB f) (.str f.text)) := mkThrows hm Tryz.func165 g165 c165 (Nat.le_of_ble_eq_true rfl) (wantV_refs (qS _)) (w165 _ isNameB f t133 (p56 f.text)) S
theorem t211 (f : Fm) (S : St) : Throws 95 Tryz.prog 211 [enc f] S (wantV (kindB f) (.tup [])) := mkThrows hm Tryz.func211 g211 c211 (Nat.le_of_ble_eq_true rfl) (wantV_refs q0) (w211 _ f t133) S
theorem t212 (f : Fm) (lo hi : Int) (S : St) : Throws 95 Tryz.prog 212 [enc f, .int .i64 lo, .int .i64 hi] S (wantV (digitB f lo hi) (.tup [])) := mkThrows hm Tryz.func212 g212 c212 (Nat.le_of_ble_eq_true rfl) (wantV_refs q0) (w212 _ f lo hi t133) S
theorem bif_ok {a b : Bool} {u v : V} (e : (bif a then bif b then (Except.ok u : Except Int V) else .error 4 else .error 4) = .ok v) : v = u := by
 cases a <;> cases b <;> simp at e
 exact e.symm
theorem t167 (f : Fm) (m : Int) (hf : Fine f) (S : St) : Throws 95 Tryz.prog 167 [enc f, .int .i64 m] S (namesX isNameB f m) :=
 mkThrows hm Tryz.func167 g167 c167 (Nat.le_of_ble_eq_true rfl) (fun v e p => by
  obtain rfl := bif_ok e
  exact keyS_refs _ p) (w167 _ isNameB f m hf.kids (t206 f m) (fun g _ S => t165 g S)) S
theorem t169 (f : Fm) (m : Int) (hf : Fine f) (S : St) : Throws 95 Tryz.prog 169 [enc f, .int .i64 m] S (typedX isNameB f m) :=
 mkThrows hm Tryz.func169 g169 c169 (Nat.le_of_ble_eq_true rfl) (fun v e p => by
  obtain rfl := bif_ok e
  exact keyS_refs _ p) (w169 _ isNameB f m hf.kids (t206 f m) (fun g _ S => t164 g 2 S) (fun _ _ g _ S => t165 g S) (fun _ _ g _ S => t211 g S)) S
end Go.Pl.Z
end
section
open Go Go.Pl Go.Proofs
namespace Go.Pl.Z
set_option maxRecDepth 100000
theorem any_not_all {W : Fm → Bool} (l : List Fm) : (!l.any fun g => !W g) = l.all W := by
 induction l with
 | nil => rfl
 | cons a r ih =>
  simp only [List.any_cons, List.all_cons, ← ih]
  cases W a <;> simp
theorem p52 (nl : Bool) (l : List Fm) (hl : l.length ≤ 1000000000) (hf : ∀ f ∈ l, Fine f) (S : St) : Pl.Pure Tryz.prog 52 [.sl nl 4 (encs l)] S (.bool (ascB l)) :=
 mkPure hm Tryz.func52 g52 c52 (Nat.le_of_ble_eq_true rfl) (qB _) (w52 _ nl l hl (fun f h g S => p43 f g (hf f h) S)) S
theorem p84 (f : Fm) (v : Bool) (h : ∀ S, Pl.Pure Tryz.prog 27 [enc f] S (.bool v)) (S : St) : Pl.Pure Tryz.prog 84 [enc f] S (.bool (!v)) :=
 mkPure hm Tryz.func84 g84 c84 (Nat.le_of_ble_eq_true rfl) (qB _) (w84 _ f v h) S
theorem p51 (W : Fm → Bool) (nl : Bool) (l : List Fm) (hl : l.length ≤ 1000000000) (h : ∀ f ∈ l, ∀ S, Pl.Pure Tryz.prog 27 [enc f] S (.bool (W f))) (S : St) : Pl.Pure Tryz.prog 51 [.sl nl 4 (encs l)] S (.bool (l.all W)) := by
 rw [← any_not_all]
 exact mkPure hm Tryz.func51 g51 c51 (Nat.le_of_ble_eq_true rfl) (qB _) (w51 _ nl _ _ (fun S => p19 nl l 84 [] (fun g => !W g) hl S (by simp only [V.refsBs]) (fun f hf => p84 f (W f) (h f hf) S))) S
theorem p53 (W : Fm → Bool) (nl : Bool) (l : List Fm) (hl : l.length ≤ 1000000000) (hf : ∀ p ∈ l, Fine p) (h : ∀ p ∈ l, ∀ g ∈ p.kids, ∀ S, Pl.Pure Tryz.prog 27 [enc g] S (.bool (W g))) (S : St) : Pl.Pure Tryz.prog 53 [.sl nl 4 (encs l)] S (.bool (pairsB W l)) := by
 refine mkPure hm Tryz.func53 g53 c53 (Nat.le_of_ble_eq_true rfl) (qB _) (w53 _ W nl l hl h (fun hall S => ?_)) S
 have hfine : ∀ g ∈ l.map fstF, Fine g := fun g hg => by
  obtain ⟨p, hp, rfl⟩ := List.mem_map.1 hg
  have h1 := List.all_eq_true.1 hall p hp
  unfold pairB at h1
  have h2 := of_decide_eq_true ((Bool.and_eq_true _ _).mp ((Bool.and_eq_true _ _).mp h1).2).1
  obtain ⟨y, g, r, hk⟩ := two_kids (show 1 < p.kids.length by omega)
  have h4 : fstF p = y := by unfold fstF; rw [hk]; rfl
  rw [h4]
  exact (hf p hp).kid (by rw [hk]; simp)
 have hlen : (l.map fstF).length ≤ 1000000000 := by simpa using hl
 generalize l.map fstF = ks at hfine hlen ⊢
 cases ks with
 | nil => exact p52 true [] hlen hfine S
 | cons a r => exact p52 false (a :: r) hlen hfine S
theorem p54 (p : Fm) (hk : 1 < p.kids.length) (S : St) : Pl.Pure Tryz.prog 54 [enc p] S (.bool (bagBad p)) := mkPure hm Tryz.func54 g54 c54 (Nat.le_of_ble_eq_true rfl) (qB _) (w54 _ p hk) S
theorem p27 {G : (Fm → Bool) → List Fm → Bool} (hG : ∀ W W' r, (∀ g, fsize g < fsizes r + 5 → W g = W' g) → G W r = G W' r)
  (h57 : ∀ (nl : Bool) (r : List Fm), fsizes r ≤ 1048576 → (∀ g, fsize g < fsizes r + 5 → Fine g → ∀ S, Pl.Pure Tryz.prog 27 [enc g] S (.bool (isV G g))) → ∀ S, Pl.Pure Tryz.prog 57 [.sl nl 4 (encs r)] S (.bool (G (isV G) r))) :
  ∀ (n : Nat) (f : Fm), fsize f ≤ n → Fine f → ∀ S, Pl.Pure Tryz.prog 27 [enc f] S (.bool (isV G f))
 | 0, f, h, _, _ => by have := fs_pos f; omega
 | n + 1, f, h, hf, S => by
  have ih : ∀ g, fsize g < fsize f → Fine g → ∀ S, Pl.Pure Tryz.prog 27 [enc g] S (.bool (isV G g)) := fun g hg hfg S => p27 hG h57 n g (by omega) hfg S
  rw [isV_eq hG]
  have kid : ∀ g ∈ f.kids, ∀ S, Pl.Pure Tryz.prog 27 [enc g] S (.bool (isV G g)) := fun g hg S => ih g (by have := fs_kid hg; omega) (hf.kid hg) S
  have hdrop : fsizes (f.kids.drop 1) + 5 ≤ fsize f := by
   obtain ⟨k, q, t, nl, l⟩ := f
   simp only [Fm.kids, fsize]
   cases l with
   | nil => simp [fsizes]
   | cons a r => simp only [List.drop_succ_cons, List.drop_zero, fsizes]; omega
  refine mkPure hm Tryz.func27 g27 c27 (Nat.le_of_ble_eq_true rfl) (qB _) (w27 _ (isV G) (G (isV G)) f hf.kids (r28 f) kid
   (fun l hs hl S => p51 (isV G) f.nl l hl (fun g hg S => kid g (hs g hg) S) S) (fun l hs hl S => p52 f.nl l hl (fun g hg => hf.kid (hs g hg)) S)
   (fun l hs hl S => p53 (isV G) f.nl l hl (fun g hg => hf.kid (hs g hg)) (fun p hp g hg S => ih g (by have := fs_kid (hs p hp); have := fs_kid hg; omega) ((hf.kid (hs p hp)).kid hg) S) S)
   (fun l hs hl hp S => p19 f.nl l 54 [] bagBad hl S (by simp only [V.refsBs]) (fun p hpm => p54 p (pairsB_len hp p hpm) S))
   (fun l d ds i S hs hl hp hok hS => p19 f.nl l 55 [.ref i 1 0] _ hl S (by simp only [V.refsBs, V.refsB, and_true]; exact hok) (fun p hpm => ?_))
   p56 (fun S => h57 f.nl _ (by simp only [Fine] at hf; omega) (fun g hg hfg S => ih g (by omega) hfg S) S)) S
  have h2 := pairsB_len hp p hpm
  refine p55v _ _ hm Tryz.func55 g55 c55 p d f.nl ds h2 i S hS (p20 (sndF p) d ?_)
  obtain ⟨y, g, r, hk⟩ := two_kids h2
  have h4 : sndF p = g := by unfold sndF; rw [hk]; rfl
  rw [h4]
  exact (hf.kid (hs p hpm)).kid (by rw [hk]; simp)
end Go.Pl.Z
namespace Go.Pl.Z
def isOk (G : (Fm → Bool) → List Fm → Bool) (f : Fm) : Bool := validB f && isV G f
theorem p14 {G : (Fm → Bool) → List Fm → Bool} (f : Fm) (hf : Fine f) (h27 : ∀ S, Pl.Pure Tryz.prog 27 [enc f] S (.bool (isV G f))) (S : St) : Pl.Pure Tryz.prog 14 [enc f] S (.bool (isOk G f)) :=
 mkPure hm Tryz.func14 g14 c14 (Nat.le_of_ble_eq_true rfl) (qB _) (w14 _ f (validB f) (isV G f) (p26 f hf) (fun _ => h27)) S
end Go.Pl.Z
end
section
namespace Go.Proofs
open Go.RowKit Go.Shelf Go.Sort
attribute [local go_sem] Oper.semAt_some
def Tryz.upto {α : Type} (f : Nat → α) (k : Nat) : List α := (List.range k).map f
theorem Tryz.upto_succ {α : Type} (f : Nat → α) (k : Nat) : Tryz.upto f (k + 1) = Tryz.upto f k ++ [f k] := by simp [Tryz.upto, List.range_succ]
theorem Tryz.upto_length {α : Type} (f : Nat → α) (k : Nat) : (Tryz.upto f k).length = k := by simp [Tryz.upto]
theorem Tryz.upto_all (zs : List (List UInt8)) : Tryz.upto (fun j => zs[j]?.getD []) zs.length = zs := by
 apply List.ext_getElem
 ·simp [Tryz.upto]
 ·intro i h1 h2
  simp [Tryz.upto, h2]
set_option maxRecDepth 100000 in
set_option maxHeartbeats 2000000 in
theorem Tryz.values1_in (F : Fence) (n : Nat) (h7 : F.fn 225) (hro : F.round = none) (hn : 1 ≤ n) (l Bs ob n₀ b off len cap : Nat) (zs : List (List UInt8)) (hreach : len * 16 ≤ 140737488351232) (hb : b < n₀) (J Jx : List (List UInt8) → World → Prop)
  (hY : ∀ pre x W, J pre W → pre.length < len → YieldAt F (n - 1) Tryz.prog l #[encStr x] W fun e W' =>
   (e = .returned (.bool true) ∧ J (pre ++ [x]) W' ∧ Below n₀ W W') ∨ (e = .returned (.bool false) ∧ Jx (pre ++ [x]) W'))
  (W : World) (hBs : W.cell? ⟨Bs, ob, none⟩ = some (.slice (some ⟨b, off, none⟩) len cap)) (hc : ∀ j, j < len → W.cell? ⟨b, off + j, none⟩ = some (encStr (zs[j]?.getD []))) (h0 : J [] W) :
  CallsIn F n Tryz.prog 225 #[.func (.yield l) #[] #[], .pointer (some ⟨Bs, ob, none⟩)] W fun e W' => (∃ v, e = .returned v) ∧
   ((∃ ys, ys = Tryz.upto (fun j => zs[j]?.getD []) len ∧ J ys W') ∨ (∃ pre, Jx pre W')) := by
 refine callsIn_of_wp Tryz.func225 rfl h7 ?_ hro
 simp only [Tryz.ntmps225, List.size_toArray, List.length_cons, List.length_nil, Nat.reduceAdd, Nat.reduceSub, Array.replicate_succ, Array.replicate_zero, List.push_toArray, List.append_toArray, List.nil_append, List.cons_append]
 gi_wp2
 gi_loopw [7] (fun i wr => ∃ k : Nat, k ≤ len ∧ i = .int .i64 k ∧ J (Tryz.upto (fun j => zs[j]?.getD []) k) wr ∧ Below n₀ W wr)
  (fun i _ => len - (intOf i).toNat)
 case atStart => exact ⟨0, Nat.zero_le _, rfl, h0, Below.refl _ _⟩
 case round =>
  obtain ⟨k, hk, rfl, hJs, hnx⟩ := hrel
  have hcx : k < len → wr.cell? ⟨b, off + k, none⟩ = some (encStr (zs[k]?.getD [])) := fun h => (hnx.cell (p := ⟨b, off + k, none⟩) hb).trans (hc k h)
  by_cases hlt : k < len
  ·obtain ⟨fn, tmps, assign, body, hy, hR⟩ := hY _ (zs[k]?.getD []) wr hJs (by rw [Tryz.upto_length]; exact hlt)
   have hcx' := hcx hlt
   gi_wp2
   refine hR.mono ?_
   rintro e W3 (⟨rfl, hJ3, hk3⟩ | ⟨rfl, hJx3⟩)
   ·gi_wp2
    go_roundw
    case rel => exact ⟨k + 1, by omega, by simp, by rw [Tryz.upto_succ]; exact hJ3, hnx.trans hk3⟩
    case measure => simp [intOf]; omega
   ·gi_wp2
    refine bodyPost_ret (results_none rfl _ _ _) rfl ?_
    exact ⟨⟨_, rfl⟩, .inr ⟨_, hJx3⟩⟩
  ·obtain rfl : k = len := by omega
   gi_wp2
   go_end0
   exact ⟨⟨_, rfl⟩, .inl ⟨_, rfl, hJs⟩⟩
set_option maxRecDepth 100000 in
set_option maxHeartbeats 1000000 in
theorem Tryz.values1_nil_in (F : Fence) (n : Nat) (h7 : F.fn 225) (hro : F.round = none) (l Bs ob : Nat) (p : Option Addr) (c : Nat) (J : List (List UInt8) → World → Prop) (W : World) (hBs : W.cell? ⟨Bs, ob, none⟩ = some (.slice p 0 c)) (h0 : J [] W) :
  CallsIn F n Tryz.prog 225 #[.func (.yield l) #[] #[], .pointer (some ⟨Bs, ob, none⟩)] W fun e W' => (∃ v, e = .returned v) ∧ J [] W' := by
 refine callsIn_of_wp Tryz.func225 rfl h7 ?_ hro
 simp only [Tryz.ntmps225, List.size_toArray, List.length_cons, List.length_nil, Nat.reduceAdd, Nat.reduceSub, Array.replicate_succ, Array.replicate_zero, List.push_toArray, List.append_toArray, List.nil_append, List.cons_append]
 gi_wp2
 gi_loopw [7] (fun i wr => i = .int .i64 0 ∧ J [] wr) (fun _ _ => 0)
 case atStart => exact ⟨rfl, h0⟩
 case round =>
  obtain ⟨rfl, hJs⟩ := hrel
  gi_wp2
  go_end0
  exact ⟨⟨_, rfl⟩, hJs⟩
theorem Tryz.values_stops (F : Fence) (n : Nat) (h7 : F.fn 225) (hro : F.round = none) (hn : 1 ≤ n) (Bs ob n₀ b off cap : Nat) (zs : List (List UInt8)) (hreach : zs.length * 16 ≤ 140737488351232) (w : World) (hBs : Bs < w.heap.size) (hn₀ : n₀ ≤ w.heap.size) (hb : b < n₀)
  (hc : w.cell? ⟨Bs, ob, none⟩ = some (.slice (some ⟨b, off, none⟩) zs.length cap)) (hI : ∀ j, j < zs.length → w.cell? ⟨b, off + j, none⟩ = some (encStr (zs[j]?.getD []))) :
  SeqStopsK F n Tryz.prog 225 #[.pointer (some ⟨Bs, ob, none⟩)] (fun x : List UInt8 => #[encStr x]) (Below n₀) (fun ys => ys = zs) (fun _ => True) zs.length w := fun l J Jx W hW _ _ hY h0 => by
 refine (Tryz.values1_in F n h7 hro hn l Bs ob n₀ b off zs.length cap zs hreach hb J Jx hY W ((hW.cell (p := ⟨Bs, ob, none⟩) hBs).trans hc) (fun j hj => (hW.cell (p := ⟨b, off + j, none⟩) (by have := hW.size; simp; omega)).trans (hI j hj)) h0).mono ?_
 rintro e W' ⟨he, ⟨ys, rfl, hj⟩ | ⟨pre, hj⟩⟩
 ·exact ⟨he, .inl ⟨_, Tryz.upto_all zs, hj⟩⟩
 ·exact ⟨he, .inr ⟨_, trivial, hj⟩⟩
theorem Tryz.values_stops_nil (F : Fence) (n : Nat) (h7 : F.fn 225) (hro : F.round = none) (Bs ob n₀ : Nat) (p : Option Addr) (c : Nat) (w : World) (hBs : Bs < w.heap.size) (hc : w.cell? ⟨Bs, ob, none⟩ = some (.slice p 0 c)) :
  SeqStopsK F n Tryz.prog 225 #[.pointer (some ⟨Bs, ob, none⟩)] (fun x : List UInt8 => #[encStr x]) (Below n₀) (fun ys => ys = []) (fun _ => True) 0 w := fun l J Jx W hW _ _ hY h0 =>
 (Tryz.values1_nil_in F n h7 hro l Bs ob p c J W ((hW.cell (p := ⟨Bs, ob, none⟩) hBs).trans hc) h0).mono fun e W' ⟨he, hj⟩ => ⟨he, .inl ⟨_, rfl, hj⟩⟩
theorem Tryz.info9 : (Tryz.prog.info? 9).map (fun i => (i.zero, i.size, i.bytes)) = some (some (.string ⟨#[]⟩), 1, 16) := by kernel_rfl
set_option maxRecDepth 100000 in
set_option maxHeartbeats 2000000 in
theorem Tryz.appendSeq_in (F : Fence) (n : Nat) (h3 : F.fn 233) (hro : F.round = none) (hn : 3 ≤ n) (g : Nat) (lb : Array Value) (hFg : F.fn g) (eg : ∀ args w, (callFunc g args).run Tryz.prog w = .ok (.enter g args) w)
  (S Sp : List (List UInt8) → Prop) (N : Nat) (hN : N ≤ maxLen) (hNb : N * 16 ≤ 140737488355328) (w : World) (hseq : SeqStopsK F (n - 1) Tryz.prog g lb (fun x : List UInt8 => #[encStr x]) (Below w.heap.size) S Sp N w) :
  CallsIn F n Tryz.prog 233 #[.slice none 0 0, .func (.func g) #[] lb] w fun e W' => ∃ v ss, e = .returned v ∧ S ss ∧ W'.ownsRow w.heap.size 9 1 v ss.length (ss.map encStr) ∧ (v = .slice none 0 0 ↔ ss = []) ∧ Below w.heap.size w W' := by
 have h1 : 1 ≤ n := by omega
 obtain ⟨i0, hi, hz0, hz1, hz2⟩ := info_parts Tryz.info9
 refine callsIn_of_wp_marks Tryz.func233 rfl h3 ?_ hro
 simp only [Tryz.ntmps233, List.size_toArray, List.length_cons, List.length_nil, Nat.reduceAdd, Nat.reduceSub, Array.replicate_succ, Array.replicate_zero, List.push_toArray, List.append_toArray, List.nil_append, List.cons_append]
 gi_wp2
 have bO := Boxed.new w 75 (.slice none 0 0)
 have hB0 : Below w.heap.size w (w.alloc (.cells #[.slice none 0 0] 75)) := (Below.refl _ w).alloc (Nat.le_refl _) _
 refine wpIn_rangeFunc_ownG hro h1 (gf := g) (lb := lb) rfl hFg eg
  hseq belowK_t (belowK_b (by simp)) hB0 (fun _ => rfl)
  (fun pre W => (∃ v, Boxed W w.heap.size 75 v ∧ W.ownsRow w.heap.size 9 1 v pre.length (pre.map encStr) ∧ (v = .slice none 0 0 ↔ pre = [])) ∧ Below w.heap.size w W)
  (fun _ _ _ => False)
  (OwnFrom.and (Own.from (holdsRow_own w.heap.size w.heap.size 75 9 1 (fun pre => pre.length) (fun pre => pre.map encStr) (fun pre v => v = .slice none 0 0 ↔ pre = [])) _) (ownFrom_below (Nat.le_refl _) (by simp)))
  (fun _ _ _ _ _ hs _ _ => hs)
  ⟨⟨_, bO, World.ownsRow_nil _ _ _ _, by simp⟩, hB0⟩
  (fun x => { tmps := #[.slice none 0 0, .func (.func g) #[] lb, .pointer (some ⟨w.heap.size, 0, none⟩), undef, .slice none 0 0, encStr x, .func (.func g) #[] lb, encStr x, undef, undef, undef, undef, undef], defers := [] }) ?assign ?body ?done ?stop
 case assign =>
  intro l x W K hK
  gi_wp2
  exact hK
 case body =>
  rintro l pre x W ⟨⟨v, hv, hrow, hnil⟩, hB⟩ hlt
  have hc := hv.cell
  gi_wp2_with (gi_at_builtin; refine wpListIn_append_own _ rfl _ _ 75 rfl w.heap.size 9 i0 (.string ⟨#[]⟩) 1 16 Tryz.underlying75 hi hz0 hz1 hz2 rfl (by decide) _ _ _ rfl (hrow.alloc _) ⟨W.heap.size, 0, none⟩ 1 1 [encStr x] rfl rfl (cell_one_new _ _ _) (by simp [Value.oneCell', encStr]) (by omega) (by omega) (by have := hB.size; simp; omega) ?_; intro v' w1 hown' hgrow _; obtain ⟨g', cap', rfl⟩ := ownsRow_succ hown'; obtain ⟨hv1, hv2, hr2, hk2, hb2⟩ := hv.appended (by decide) hrow hB.size (Nat.le_refl _) hown' hgrow; have hc1 := hv1.cell; have hf1 := hv1.frozen)
  exact ⟨hk2.from _, hb2, ⟨_, hv2, by simpa using hr2, by simp⟩, hB.trans hb2⟩
 case done =>
  rintro D ys W hD hS ⟨⟨v, hv, hrow, hnil⟩, hB⟩ hK
  have hc := hv.cell
  gi_wp2
  refine ⟨by simp, .inl ⟨_, _, rfl, run_takeDeferred hK, ?_⟩⟩
  exact ⟨_, results_tmp rfl _ _ _, v, ys, rfl, hS, ownsRow_putObj hrow _ hK rfl, hnil, hB.trans (belowK_b (w := w) (Nat.le_refl _) W D _ _ (by simp at hD; omega) hK rfl rfl)⟩
 case stop =>
  rintro D c pre W _ _ h _
  exact h.elim
end Go.Proofs
end
section
namespace Go.Proofs
open Go.RowKit Go.Shelf Go.Sort
set_option maxRecDepth 100000
def Tryz.lSort_ren : Go.Shelf.Ren := ⟨fun | 6 => 224 | 8 => 235 | 9 => 234 | 19 => 248 | 20 => 249 | 21 => 239 | 22 => 240 | 23 => 241 | 24 => 242 | 25 => 243 | 26 => 244 | 27 => 245 | 28 => 246 | 29 => 247 | 36 => 252 | 31 => 253 | 32 => 254 | 37 => 255 | 38 => 256 | 39 => 102 | 41 => 258 | n => n, fun | 27 => 75 | 29 => 9 | 3 => 3 | 32 => 164 | 26 => 75 | 0 => 0 | 44 => 124 | 46 => 194 | 4 => 4 | 36 => 187 | 35 => 186 | 41 => 97 | 5 => 5 | 9 => 9 | 53 => 195 | 57 => 54 | 63 => 200 | 64 => 103 | n => n, fun | n => n⟩
theorem Tryz.lSort : Go.Proofs.SlLaysM.n6 Tryz.prog Tryz.lSort_ren := {
 mixed := by kernel_rfl,
 f6 := ⟨Tryz.f224.name, by decide, Tryz.func224.trans (congrArg some (by kernel_rfl))⟩,
 f8 := Tryz.func235.trans (congrArg some (by kernel_rfl)),
 f9 := ⟨Tryz.f234.name, by decide, Tryz.func234.trans (congrArg some (by kernel_rfl))⟩,
 f19 := Tryz.func248.trans (congrArg some (by kernel_rfl)),
 f20 := Tryz.func249.trans (congrArg some (by kernel_rfl)),
 f21 := ⟨Tryz.f239.name, by decide, Tryz.func239.trans (congrArg some (by kernel_rfl))⟩,
 f22 := ⟨Tryz.f240.name, by decide, Tryz.func240.trans (congrArg some (by kernel_rfl))⟩,
 f23 := ⟨Tryz.f241.name, by decide, Tryz.func241.trans (congrArg some (by kernel_rfl))⟩,
 f24 := ⟨Tryz.f242.name, by decide, Tryz.func242.trans (congrArg some (by kernel_rfl))⟩,
 f25 := ⟨Tryz.f243.name, by decide, Tryz.func243.trans (congrArg some (by kernel_rfl))⟩,
 f26 := ⟨Tryz.f244.name, by decide, Tryz.func244.trans (congrArg some (by kernel_rfl))⟩,
 f27 := ⟨Tryz.f245.name, by decide, Tryz.func245.trans (congrArg some (by kernel_rfl))⟩,
 f28 := ⟨Tryz.f246.name, by decide, Tryz.func246.trans (congrArg some (by kernel_rfl))⟩,
 f29 := ⟨Tryz.f247.name, by decide, Tryz.func247.trans (congrArg some (by kernel_rfl))⟩,
 f31 := Tryz.func253.trans (congrArg some (by kernel_rfl)),
 f32 := Tryz.func254.trans (congrArg some (by kernel_rfl)),
 f36 := ⟨Tryz.f252.name, by decide, Tryz.func252.trans (congrArg some (by kernel_rfl))⟩,
 f37 := ⟨Tryz.f255.name, by decide, Tryz.func255.trans (congrArg some (by kernel_rfl))⟩,
 f38 := ⟨Tryz.f256.name, by decide, Tryz.func256.trans (congrArg some (by kernel_rfl))⟩,
 f39 := ⟨Tryz.f102.name, by decide, Tryz.func102.trans (congrArg some (by kernel_rfl))⟩,
 f41 := ⟨Tryz.f258.name, by decide, Tryz.func258.trans (congrArg some (by kernel_rfl))⟩,
 t0 := Tryz.underlying0,
 a0 := Tryz.isAgg0,
 z0 := Tryz.sizeOf0,
 v0 := Tryz.zeroValue0,
 t3 := Tryz.underlying3,
 a3 := Tryz.isAgg3,
 z3 := Tryz.sizeOf3,
 v3 := Tryz.zeroValue3,
 t4 := Tryz.underlying4,
 a4 := Tryz.isAgg4,
 z4 := Tryz.sizeOf4,
 v4 := Tryz.zeroValue4,
 t5 := Tryz.underlying5,
 a5 := Tryz.isAgg5,
 z5 := Tryz.sizeOf5,
 v5 := Tryz.zeroValue5,
 t9 := Tryz.underlying9,
 a9 := Tryz.isAgg9,
 z9 := Tryz.sizeOf9,
 v9 := Tryz.zeroValue9,
 t26 := Tryz.underlying75,
 a26 := Tryz.isAgg75,
 z26 := Tryz.sizeOf75,
 v26 := Tryz.zeroValue75,
 t27 := Tryz.underlying75,
 a27 := Tryz.isAgg75,
 z27 := Tryz.sizeOf75,
 v27 := Tryz.zeroValue75,
 t29 := Tryz.underlying9,
 a29 := Tryz.isAgg9,
 z29 := Tryz.sizeOf9,
 v29 := Tryz.zeroValue9,
 t32 := Tryz.underlying164,
 a32 := Tryz.isAgg164,
 z32 := Tryz.sizeOf164,
 v32 := Tryz.zeroValue164,
 t35 := Tryz.underlying186,
 a35 := Tryz.isAgg186,
 z35 := Tryz.sizeOf186,
 v35 := Tryz.zeroValue186,
 t36 := Tryz.underlying187,
 a36 := Tryz.isAgg187,
 z36 := Tryz.sizeOf187,
 v36 := Tryz.zeroValue187,
 t41 := Tryz.underlying97,
 a41 := Tryz.isAgg97,
 z41 := Tryz.sizeOf97,
 v41 := Tryz.zeroValue97,
 t44 := Tryz.underlying124,
 a44 := Tryz.isAgg124,
 z44 := Tryz.sizeOf124,
 v44 := Tryz.zeroValue124,
 t46 := Tryz.underlying194,
 a46 := Tryz.isAgg194,
 z46 := Tryz.sizeOf194,
 v46 := Tryz.zeroValue194,
 t53 := Tryz.underlying195,
 a53 := Tryz.isAgg195,
 z53 := Tryz.sizeOf195,
 v53 := Tryz.zeroValue195,
 t57 := Tryz.underlying54,
 a57 := Tryz.isAgg54,
 z57 := Tryz.sizeOf54,
 v57 := Tryz.zeroValue54,
 t63 := Tryz.underlying200,
 a63 := Tryz.isAgg200,
 z63 := Tryz.sizeOf200,
 v63 := Tryz.zeroValue200,
 t64 := Tryz.underlying103,
 a64 := Tryz.isAgg103,
 z64 := Tryz.sizeOf103,
 v64 := Tryz.zeroValue103 }
attribute [local go_sem] Oper.semAt_some
set_option maxHeartbeats 1000000 in
theorem Tryz.collect_in (F : Fence) (n : Nat) (h2 : F.fn 223) (h3 : F.fn 233) (hro : F.round = none) (hn : 4 ≤ n) (g : Nat) (lb : Array Value) (hFg : F.fn g) (eg : ∀ args w, (callFunc g args).run Tryz.prog w = .ok (.enter g args) w)
  (S Sp : List (List UInt8) → Prop) (N : Nat) (hN : N ≤ maxLen) (hNb : N * 16 ≤ 140737488355328) (w : World) (hseq : SeqStopsK F (n - 1 - 1) Tryz.prog g lb (fun x : List UInt8 => #[encStr x]) (Below w.heap.size) S Sp N w) :
  CallsIn F n Tryz.prog 223 #[.func (.func g) #[] lb] w fun e W' => ∃ v ss, e = .returned v ∧ S ss ∧ W'.ownsRow w.heap.size 9 1 v ss.length (ss.map encStr) ∧ (v = .slice none 0 0 ↔ ss = []) ∧ Below w.heap.size w W' := by
 have h1 : 1 ≤ n := by omega
 have cA := Tryz.appendSeq_in F (n - 1) h3 hro (by omega) g lb hFg eg S Sp N hN hNb w hseq
 refine callsIn_of_wp Tryz.func223 rfl h2 ?_ hro
 simp only [Tryz.ntmps223, List.size_toArray, List.length_cons, List.length_nil, Nat.reduceAdd, Nat.reduceSub, Array.replicate_succ, Array.replicate_zero, List.push_toArray, List.append_toArray, List.nil_append, List.cons_append]
 gi_wp2_with (gi_at_call 233; refine cA.mono ?_; rintro e w' ⟨v, ss, rfl, hS, hrow, hnil, hb⟩)
 go_ret
 exact ⟨v, ss, rfl, hS, hrow, hnil, hb⟩
set_option maxHeartbeats 1000000 in
theorem Tryz.sorted_in (F : Fence) (n : Nat) (h0 : F.fn 207) (h2 : F.fn 223) (h3 : F.fn 233) (h4 : F.fn 224) (hro : F.round = none) (hn : 5 ≤ n) (g : Nat) (lb : Array Value) (hFg : F.fn g) (eg : ∀ args w, (callFunc g args).run Tryz.prog w = .ok (.enter g args) w)
  (hs1 : ∀ (blk off cap : Nat) (ss : List (List UInt8)) (W : World), Holds encStr W blk off ss.toArray → blk < W.heap.size → ss.length < 4611686018427387904 →
   CallsIn F (n - 1) Tryz.prog 224 #[.slice (some ⟨blk, off, none⟩) ss.length cap] W fun e w' => e = .returned (.tuple #[]) ∧ ∃ k os, w' = grow (putRow encStr (Sort.ahead W k) blk off (ss.mergeSort fun x y => decide (x ≤ y)).toArray) os)
  (hs2 : ∀ (p : Option Addr) (cap : Nat) (W : World), CallsIn F (n - 1) Tryz.prog 224 #[.slice p 0 cap] W fun e w' => e = .returned (.tuple #[]) ∧ w' = W)
  (S Sp : List (List UInt8) → Prop) (hSN : ∀ ss, S ss → ss.length < 4611686018427387904) (N : Nat) (hN : N ≤ maxLen) (hNb : N * 16 ≤ 140737488355328) (w : World) (hseq : SeqStopsK F (n - 1 - 1 - 1) Tryz.prog g lb (fun x : List UInt8 => #[encStr x]) (Below w.heap.size) S Sp N w) :
  CallsIn F n Tryz.prog 207 #[.func (.func g) #[] lb] w fun e W' => ∃ v ss, e = .returned v ∧ S ss ∧ W'.ownsRow w.heap.size 9 1 v ss.length ((ss.mergeSort fun x y => decide (x ≤ y)).map encStr) ∧ (v = .slice none 0 0 ↔ ss = []) ∧ Below w.heap.size w W' := by
 have h1 : 1 ≤ n := by omega
 have cC := Tryz.collect_in F (n - 1) h2 h3 hro (by omega) g lb hFg eg S Sp N hN hNb w hseq
 refine callsIn_of_wp Tryz.func207 rfl h0 ?_ hro
 simp only [Tryz.ntmps207, List.size_toArray, List.length_cons, List.length_nil, Nat.reduceAdd, Nat.reduceSub, Array.replicate_succ, Array.replicate_zero, List.push_toArray, List.append_toArray, List.nil_append, List.cons_append]
 gi_wp2_with (gi_at_call 223; refine cC.mono ?_; rintro e W ⟨v, ss, rfl, hS, hrow, hnil, hb⟩)
 rcases hrow.2 with ⟨rfl, hz⟩ | ⟨gb, cap, cur, rfl, hbase, hgb, r1, r2, r3, r4⟩
 ·have hss : ss = [] := List.eq_nil_of_length_eq_zero hz
  subst hss
  gi_wp2_with (gi_at_call 224; refine (hs2 none 0 W).mono ?_; rintro e w' ⟨rfl, rfl⟩)
  go_ret
  exact ⟨.slice none 0 0, [], rfl, hS, by simpa using hrow, by simp, hb⟩
 ·have hH : Holds encStr W gb 0 ss.toArray := holds_of_block hgb (by simpa using r4)
  have hgl : gb < W.heap.size := (Array.getElem?_eq_some_iff.1 hgb).1
  have hsz : ss.length < 4611686018427387904 := hSN ss hS
  have cS := hs1 gb 0 cap ss W hH hgl hsz
  gi_wp2_with (gi_at_call 224; refine cS.mono ?_; rintro e w' ⟨rfl, nn, os, rfl⟩)
  go_ret
  exact ⟨_, ss, rfl, hS, ownsRow_sorted (by simp) hbase hgb r1 r2 r3, hnil, hb.grown (grownBy_sorted _) hb.size (fun j hj => by cases hj; exact hbase)⟩
theorem Tryz.sort_str (m : Nat) : (∀ (blk off cap : Nat) (ss : List (List UInt8)) (W : World), Holds encStr W blk off ss.toArray → blk < W.heap.size → ss.length < 4611686018427387904 →
   CallsIn Fence.wide m Tryz.prog 224 #[.slice (some ⟨blk, off, none⟩) ss.length cap] W fun e w' => e = .returned (.tuple #[]) ∧ ∃ k os, w' = grow (putRow encStr (Sort.ahead W k) blk off (ss.mergeSort fun x y => decide (x ≤ y)).toArray) os) ∧
  (∀ (p : Option Addr) (cap : Nat) (W : World), CallsIn Fence.wide m Tryz.prog 224 #[.slice p 0 cap] W fun e w' => e = .returned (.tuple #[]) ∧ w' = W) :=
 ⟨fun blk off cap ss W hH hblk hsz => callsIn_wide.2 (AnyM.slices_Sort_string Tryz.lSort blk off cap ss W hH hblk hsz), fun p cap W => callsIn_wide.2 (AnyM.slices_Sort_string_none Tryz.lSort p cap W)⟩
theorem Tryz.sorted (Bs ob b off cap : Nat) (zs : List (List UInt8)) (hz : zs.length ≤ 16777216) (w : World) (hBs : Bs < w.heap.size) (hb : b < w.heap.size)
  (hc : w.cell? ⟨Bs, ob, none⟩ = some (.slice (some ⟨b, off, none⟩) zs.length cap)) (hI : ∀ j, j < zs.length → w.cell? ⟨b, off + j, none⟩ = some (encStr (zs[j]?.getD []))) :
  Calls Tryz.prog 207 #[.func (.func 225) #[] #[.pointer (some ⟨Bs, ob, none⟩)]] w fun e W' => ∃ v, e = .returned v ∧ W'.ownsRow w.heap.size 9 1 v zs.length ((zs.mergeSort fun x y => decide (x ≤ y)).map encStr) ∧ (v = .slice none 0 0 ↔ zs = []) ∧ Below w.heap.size w W' := by
 refine (callsIn_wide (n := 6)).1 ?_
 refine (Tryz.sorted_in Fence.wide 6 trivial trivial trivial trivial rfl (by omega) 225 _ trivial (enters_of Tryz.func225 (by kernel_rfl) rfl) (Tryz.sort_str _).1 (Tryz.sort_str _).2 _ _ (by rintro ss rfl; omega) zs.length (by unfold maxLen; omega) (by omega) w
  (Tryz.values_stops Fence.wide _ trivial rfl (by omega) Bs ob w.heap.size b off cap zs (by omega) w hBs (Nat.le_refl _) hb hc hI)).mono ?_
 rintro e W' ⟨v, ss, rfl, rfl, h1, h2, h3⟩
 exact ⟨v, rfl, h1, h2, h3⟩
theorem Tryz.sorted_nil (Bs ob : Nat) (p : Option Addr) (c : Nat) (w : World) (hBs : Bs < w.heap.size) (hc : w.cell? ⟨Bs, ob, none⟩ = some (.slice p 0 c)) :
  Calls Tryz.prog 207 #[.func (.func 225) #[] #[.pointer (some ⟨Bs, ob, none⟩)]] w fun e W' => e = .returned (.slice none 0 0) ∧ Below w.heap.size w W' := by
 refine (callsIn_wide (n := 6)).1 ?_
 refine (Tryz.sorted_in Fence.wide 6 trivial trivial trivial trivial rfl (by omega) 225 _ trivial (enters_of Tryz.func225 (by kernel_rfl) rfl) (Tryz.sort_str _).1 (Tryz.sort_str _).2 _ _ (by rintro ss rfl; simp) 0 (by unfold maxLen; omega) (by omega) w
  (Tryz.values_stops_nil Fence.wide _ trivial rfl Bs ob w.heap.size p c w hBs hc)).mono ?_
 rintro e W' ⟨v, ss, rfl, rfl, h1, h2, h3⟩
 exact ⟨by rw [h2.2 rfl], h3⟩
end Go.Proofs
end
section
open Go Go.Pl
namespace Go.Pl.Z
theorem insideB_iff (bs as' : List Fm) : insideB bs as' = true ↔ bs.length < as'.length ∧ ∀ v ∈ bs, ∃ w ∈ as', Same v w := by
 unfold insideB
 rw [Bool.and_eq_true, decide_eq_true_iff, Bool.not_eq_true', List.any_eq_false]
 constructor
 ·rintro ⟨h1, h2⟩
  refine ⟨by omega, fun v hv => ?_⟩
  have := h2 v hv
  rw [Bool.not_eq_true, Bool.not_eq_false', List.any_eq_true] at this
  obtain ⟨w, hw, e⟩ := this
  exact ⟨w, hw, (eqF_iff v w).1 e⟩
 ·rintro ⟨h1, h2⟩
  refine ⟨by omega, fun v hv => ?_⟩
  rw [Bool.not_eq_true, Bool.not_eq_false', List.any_eq_true]
  obtain ⟨w, hw, e⟩ := h2 v hv
  exact ⟨w, hw, (eqF_iff v w).2 e⟩
theorem insideB_irrefl (l : List Fm) : insideB l l = false := by
 rw [← Bool.not_eq_true, insideB_iff]
 rintro ⟨h, _⟩; omega
theorem insideB_trans {a b c : List Fm} (h1 : insideB b a = true) (h2 : insideB c b = true) : insideB c a = true := by
 rw [insideB_iff] at *
 refine ⟨by omega, fun v hv => ?_⟩
 obtain ⟨w, hw, e⟩ := h2.2 v hv
 obtain ⟨x, hx, e'⟩ := h1.2 w hw
 exact ⟨x, hx, Same.trans v w x e e'⟩
theorem sames_mem : ∀ {l m : List Fm}, Sames l m → ∀ f ∈ l, ∃ g ∈ m, Same f g
 | [], _, _, f, hf => by cases hf
 | a :: r, [], h, _, _ => absurd h (sames_cn a r)
 | a :: r, b :: s, h, f, hf => by
  obtain ⟨h1, h2⟩ := (sames_cons ..).1 h
  rcases List.mem_cons.1 hf with rfl | hf
  ·exact ⟨b, List.mem_cons_self, h1⟩
  ·obtain ⟨g, hg, e⟩ := sames_mem h2 f hf
   exact ⟨g, List.mem_cons_of_mem _ hg, e⟩
theorem insideB_same {a a' b b' : List Fm} (ha : Sames a a') (hb : Sames b b') (h : insideB b a = true) : insideB b' a' = true := by
 rw [insideB_iff] at *
 have la := Sames.length _ _ ha
 have lb := Sames.length _ _ hb
 refine ⟨by omega, fun v hv => ?_⟩
 obtain ⟨w, hw, e⟩ := sames_mem (Sames.symm _ _ hb) v hv
 obtain ⟨x, hx, e'⟩ := h.2 w hw
 obtain ⟨y, hy, e2⟩ := sames_mem ha x hx
 exact ⟨y, hy, Same.trans v x y (Same.trans v w x e e') e2⟩
end Go.Pl.Z
end
section
open Go Go.Pl Go.Proofs
namespace Go.Pl.Z
set_option maxRecDepth 100000
theorem rB (b : Bool) (p : Nat → Nat → Bool) : (V.bool b).refsB p := by simp only [V.refsB]
theorem rS (s : List UInt8) (p : Nat → Nat → Bool) : (V.str s).refsB p := by simp only [V.refsB]
theorem p21 (n : Int) (S : St) : Pl.Pure Tryz.prog 21 [.int .i64 n] S (enc (num n)) := mkPure hm Tryz.func21 g21 c21 (Nat.le_of_ble_eq_true rfl) (fun p => enc_refsB p _) (w21 _ n) S
theorem kidsF_refs (f : Fm) (p : Nat → Nat → Bool) : (kidsF f).refsB p := by
 unfold kidsF
 split
 ·simp only [V.refsB]; exact encs_refsB p _
 ·trivial
theorem p58 (f : Fm) (S : St) : Pl.Pure Tryz.prog 58 [enc f] S (kidsF f) := mkPure hm Tryz.func58 g58 c58 (Nat.le_of_ble_eq_true rfl) (kidsF_refs f) (w58 _ f) S
theorem p28 (f : Fm) (S : St) : Pl.Pure Tryz.prog 28 [enc f] S (.str (headF f)) := mkPure hm Tryz.func28 g28 c28 (Nat.le_of_ble_eq_true rfl) (rS _) (w28 _ f (p58 f)) S
theorem p83n (m : Int) (h0 : 0 ≤ m) (h1 : m ≤ 5) (S : St) : Pl.Pure Tryz.prog 83 [enc (num m)] S (.bool true) := mkPure hm Tryz.func83 g83 c83 (Nat.le_of_ble_eq_true rfl) (rB _) (w83n _ m h0 h1) S
theorem p27n (m : Int) (S : St) : Pl.Pure Tryz.prog 27 [enc (num m)] S (.bool true) := mkPure hm Tryz.func27 g27 c27 (Nat.le_of_ble_eq_true rfl) (rB _) (w27n _ m) S
theorem p50n (m : Int) (h0 : 0 ≤ m) (h1 : m ≤ 5) (S : St) (i : Nat) (hS : S.H i 1 = some (.int .i64 20000)) : ACalls Tryz.prog 50 [enc (num m), .ref i 1 0, .int .i64 100] S fun e S' => e = .ret (.bool true) ∧ S' = S.set i 1 (.int .i64 19999) :=
 ACalls_of_vc hm Tryz.func50 g50 c50 (Nat.le_of_ble_eq_true rfl) (w50n _ m S i hS (p83n m h0 h1))
theorem p26n (m : Int) (h0 : 0 ≤ m) (h1 : m ≤ 5) (S : St) : Pl.Pure Tryz.prog 26 [enc (num m)] S (.bool true) := mkPure hm Tryz.func26 g26 c26 (Nat.le_of_ble_eq_true rfl) (rB _) (w26n _ m (p50n m h0 h1)) S
theorem p14n (m : Int) (h0 : 0 ≤ m) (h1 : m ≤ 5) (S : St) : Pl.Pure Tryz.prog 14 [enc (num m)] S (.bool true) := mkPure hm Tryz.func14 g14 c14 (Nat.le_of_ble_eq_true rfl) (rB _) (w14n _ m (p26n m h0 h1) (p27n m)) S
theorem p15n (S : St) : Pl.Pure Tryz.prog 15 [enc (num 2), enc (num 1)] S (.bool true) := mkPure hm Tryz.func15 g15 c15 (Nat.le_of_ble_eq_true rfl) (rB _) (w15n _ p28) S
theorem p6n (S : St) : Pl.Pure Tryz.prog 6 [enc (num 2), enc (num 1)] S (.tup [.bool true, .int .i64 0]) := mkPure hm Tryz.func6 g6 c6 (Nat.le_of_ble_eq_true rfl) (fun p => by simp only [V.refsB, V.refsBs, and_self]) (w6n _ p14n p15n) S
theorem p10 (S : St) : Pl.Pure Tryz.prog 10 [] S (.bool true) := mkPure hm Tryz.func10 g10 c10 (Nat.le_of_ble_eq_true rfl) (rB _) (w10 _ p21 p6n) S
end Go.Pl.Z
end
