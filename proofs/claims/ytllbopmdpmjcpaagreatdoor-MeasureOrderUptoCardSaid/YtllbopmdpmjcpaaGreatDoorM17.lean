import Derived.Test.YtllbopmdpmjcpaaGreatDoorM10
import Derived.Test.YtllbopmdpmjcpaaGreatDoorM11
import Derived.Test.YtllbopmdpmjcpaaGreatDoorM12
import Derived.Test.YtllbopmdpmjcpaaGreatDoorM13
import Derived.Test.YtllbopmdpmjcpaaGreatDoorM14
import Derived.Test.YtllbopmdpmjcpaaGreatDoorM15
import Derived.Test.YtllbopmdpmjcpaaGreatDoorM16
import Derived.Shelf.Lay
import Derived.Ground.GgwProg
import Derived.Ground.NamesProg
set_option linter.unusedSimpArgs false
set_option linter.unusedVariables false
set_option linter.unusedSectionVars false
section
open Go Go.Pl Go.Proofs
namespace Go.Pl.Z
set_option maxRecDepth 100000
end Go.Pl.Z
end
section
open Go Go.Pl Go.Proofs
namespace Go.Pl.Z
set_option maxRecDepth 100000
theorem w83n (P : Program) (m : Int) (h0 : 0 ≤ m) (h1 : m ≤ 5) : Walks P F83 [enc (num m)] (.bool true) := by
 intro H n b c O hO hw
 have e1 : O.ile (-1152921504606846976) m = true := w_ile_t hO (by omega)
 have e2 : O.ile m 1152921504606846976 = true := w_ile_t hO (by omega)
 have e3 : O.len [] = 0 := by rw [w_len hO]; rfl
 (try cbv;repeat (simp (disch:=first|assumption|omega|decide) only [w_same hO,w_ieq_t hO,w_seq_t hO,e1,e2,e3];try cbv))
 (intro i k x hx;have hne:=WFS.ne hw i k x hx;first|exact hx|(simp (disch:=assumption) only [w_upd2_ne hO];exact hx))
theorem w27n (P : Program) (m : Int) : Walks P F27 [enc (num m)] (.bool true) := by
 intro H n b c O hO hw
 (try cbv;repeat (simp (disch:=first|assumption|omega|decide) only [w_same hO,w_ieq_t hO];try cbv))
 (intro i k x hx;have hne:=WFS.ne hw i k x hx;first|exact hx|(simp (disch:=assumption) only [w_upd2_ne hO];exact hx))
theorem w15n (P : Program) (h28 : ∀ f : Fm, ∀ S, Pl.Pure P 28 [enc f] S (.str (headF f))) : Walks P F15 [enc (num 2), enc (num 1)] (.bool true) := by
 intro H n b c O hO hw
 have k1 := h28 (num 1)
 have k2 := h28 (num 2)
 (try cbv;repeat (simp (disch:=first|assumption|omega|decide) only [w_same hO];try cbv))
 refine ⟨_, k2 _, ?_⟩
 (try cbv;repeat (simp (disch:=first|assumption|omega|decide) only [w_same hO];try cbv))
 refine ⟨_, k1 _, ?_⟩
 (try cbv;repeat (simp (disch:=first|assumption|omega|decide) only [w_same hO,w_ieq_t hO,w_ilt_t hO,w_ile_t hO];try cbv))
 (intro i k x hx;have hne:=WFS.ne hw i k x hx;first|exact hx|(simp (disch:=assumption) only [w_upd2_ne hO];exact hx))
def WalksE (P : Program) (F : F) (args : List V) (S : St) (Q : AE → St → Prop) : Prop :=
 WFS S → vc P F.N S.n F.c (retPost F.rs S Q) (frame0 args) S.enter
theorem w50n (P : Program) (m : Int) (S : St) (i : Nat) (hS : S.H i 1 = some (.int .i64 20000)) (h83 : ∀ S, Pl.Pure P 83 [enc (num m)] S (.bool true)) :
  WalksE P F50 [enc (num m), .ref i 1 0, .int .i64 100] S fun e S' => e = .ret (.bool true) ∧ S' = S.set i 1 (.int .i64 19999) := by
 obtain ⟨H, n, b, c, O, hO⟩ := S
 intro hw
 have hne := WFS.ne hw i 1 _ hS
 have hok := (hw i 1 _ hS).1
 simp only at hS
 have e0 : O.same i n = false := w_same_f hO hne
 have e2 : O.same n i = false := w_same_f hO (fun e => hne e.symm)
 have e1 : O.iop .sub .i64 20000 .i64 1 = some (.int .i64 19999) := by subst hO; rfl
 have e3 : O.len [] = 0 := by rw [w_len hO]; rfl
 generalize hQ : (fun e S' => e = AE.ret (V.bool true) ∧ S' = St.set ⟨H, n, b, c, O, hO⟩ i 1 (.int .i64 19999)) = Q
 (try cbv;repeat (simp (disch:=first|assumption|omega|decide) only [w_same hO,hS,e0,e2,e1,w_ilt_f hO,w_ieq_f hO];try cbv))
 refine Pure.go (h83 _) ?_
 (try cbv;repeat (simp (disch:=first|assumption|omega|decide) only [w_same hO,e3,w_ilt_f hO];try cbv))
 refine AW_rounds 2 ?_
 (try cbv;repeat (simp (disch:=first|assumption|omega|decide) only [w_same hO,e3,w_ilt_f hO];try cbv))
 refine ⟨_, St.set ⟨H, n, b, c, O, hO⟩ i 1 (.int .i64 19999), rfl, trivial, Over.of rfl rfl rfl (WFS.set hw hok (show (V.int .i64 19999).refsB _ from trivial)) ?_, by rw [← hQ]; exact ⟨rfl, rfl⟩⟩
 intro i' k' hne'
 exact upd2_congr hO (upd2_ne hO hne')
theorem w26n (P : Program) (m : Int) (h50 : ∀ S i, S.H i 1 = some (.int .i64 20000) → ACalls P 50 [enc (num m), .ref i 1 0, .int .i64 100] S fun e S' => e = .ret (.bool true) ∧ S' = S.set i 1 (.int .i64 19999)) :
  Walks P F26 [enc (num m)] (.bool true) := by
 intro H n b c O hO hw
 (try cbv;repeat (simp (disch:=first|assumption|omega|decide) only [w_same hO];try cbv))
 refine ACalls.mono (h50 _ n ?_) ?_
 ·show upd2 O _ n 1 _ n 1 = _
  rw [upd2_eq hO, if_pos ⟨rfl, rfl⟩]
 rintro e S' ⟨rfl, rfl⟩
 (try cbv;repeat (simp (disch:=first|assumption|omega|decide) only [w_same hO];try cbv))
 (intro i k x hx;have hne:=WFS.ne hw i k x hx;first|exact hx|(simp (disch:=assumption) only [w_upd2_ne hO];exact hx))
theorem w14n (P : Program) (m : Int) (h26 : ∀ S, Pl.Pure P 26 [enc (num m)] S (.bool true)) (h27 : ∀ S, Pl.Pure P 27 [enc (num m)] S (.bool true)) : Walks P F14 [enc (num m)] (.bool true) := by
 intro H n b c O hO hw
 (try cbv;repeat (simp (disch:=first|assumption|omega|decide) only [w_same hO];try cbv))
 refine Pure.go (h26 _) ?_
 (try cbv;repeat (simp (disch:=first|assumption|omega|decide) only [w_same hO];try cbv))
 refine Pure.go (h27 _) ?_
 (try cbv;repeat (simp (disch:=first|assumption|omega|decide) only [w_same hO];try cbv))
 (intro i k x hx;have hne:=WFS.ne hw i k x hx;first|exact hx|(simp (disch:=assumption) only [w_upd2_ne hO];exact hx))
theorem w6n (P : Program) (h14 : ∀ m : Int, 0 ≤ m → m ≤ 5 → ∀ S, Pl.Pure P 14 [enc (num m)] S (.bool true)) (h15 : ∀ S, Pl.Pure P 15 [enc (num 2), enc (num 1)] S (.bool true)) :
  Walks P F6 [enc (num 2), enc (num 1)] (.tup [.bool true, .int .i64 0]) := by
 intro H n b c O hO hw
 have k2 := h14 2 (by decide) (by decide)
 have k1 := h14 1 (by decide) (by decide)
 clear h14
 (try cbv;repeat (simp (disch:=first|assumption|omega|decide) only [w_same hO];try cbv))
 refine Pure.go (k2 _) ?_
 (try cbv;repeat (simp (disch:=first|assumption|omega|decide) only [w_same hO];try cbv))
 refine Pure.go (k1 _) ?_
 (try cbv;repeat (simp (disch:=first|assumption|omega|decide) only [w_same hO];try cbv))
 refine Pure.go (h15 _) ?_
 (try cbv;repeat (simp (disch:=first|assumption|omega|decide) only [w_same hO];try cbv))
 (intro i k x hx;have hne:=WFS.ne hw i k x hx;first|exact hx|(simp (disch:=assumption) only [w_upd2_ne hO];exact hx))
theorem w10 (P : Program) (h21 : ∀ n S, Pl.Pure P 21 [.int .i64 n] S (enc (num n))) (h6 : ∀ S, Pl.Pure P 6 [enc (num 2), enc (num 1)] S (.tup [.bool true, .int .i64 0])) : Walks P F10 [] (.bool true) := by
 intro H n b c O hO hw
 have k2 := h21 2
 have k1 := h21 1
 clear h21
 (try cbv;repeat (simp (disch:=first|assumption|omega|decide) only [w_same hO];try cbv))
 refine Pure.go (k2 _) ?_
 (try cbv;repeat (simp (disch:=first|assumption|omega|decide) only [w_same hO];try cbv))
 refine Pure.go (k1 _) ?_
 (try cbv;repeat (simp (disch:=first|assumption|omega|decide) only [w_same hO];try cbv))
 refine Pure.go (h6 _) ?_
 (try cbv;repeat (simp (disch:=first|assumption|omega|decide) only [w_same hO,w_ieq_t hO];try cbv))
 (intro i k x hx;have hne:=WFS.ne hw i k x hx;first|exact hx|(simp (disch:=assumption) only [w_upd2_ne hO];exact hx))
end Go.Pl.Z
end
section
open Go Go.Pl Go.Proofs
namespace Go.Pl.Z
set_option maxRecDepth 100000
theorem w_sub {O : Ops} (hO : O = Ops.std) {a b : Int} (h : -9223372036854775808 ≤ a - b) (h' : a - b ≤ 9223372036854775807) : O.iop .sub .i64 a .i64 b = some (.int .i64 (a - b)) := by
 subst hO
 have : IntKind.i64.wrap (a - b) = a - b := by
  simp [IntKind.wrap, IntKind.bits, IntKind.signed]
  omega
 simp [Ops.std, binOp, Op.intArith, this, absS]
 rfl
mutual
def validF (p d : Int) : Fm → Bool × Int
 | .mk k n t nl l => if p - 1 < 0 ∨ d = 0 ∨ leafB (.mk k n t nl l) = false then (false, p - 1) else validL (p - 1) (d - 1) l
def validL (p d : Int) : List Fm → Bool × Int
 | [] => (true, p)
 | f :: r => if (validF p d f).1 = true then validL (validF p d f).2 d r else (false, (validF p d f).2)
end
theorem validF_eq (p d : Int) (f : Fm) : validF p d f = if p - 1 < 0 ∨ d = 0 ∨ leafB f = false then (false, p - 1) else validL (p - 1) (d - 1) f.kids := by
 obtain ⟨k, n, t, nl, l⟩ := f
 simp only [validF, Fm.kids]
theorem validL_nil (p d : Int) : validL p d [] = (true, p) := by simp only [validL]
theorem validL_cons (p d : Int) (f : Fm) (r : List Fm) : validL p d (f :: r) = if (validF p d f).1 = true then validL (validF p d f).2 d r else (false, (validF p d f).2) := by simp only [validL]
mutual
theorem validF_le : ∀ (f : Fm) (p d : Int), 0 ≤ p → (validF p d f).2 ≤ p ∧ ((validF p d f).1 = true → 0 ≤ (validF p d f).2) ∧ -1 ≤ (validF p d f).2
 | .mk k n t nl l, p, d, hp => by
  simp only [validF]
  split
  ·exact ⟨by simp; omega, by simp, by simp; omega⟩
  ·rename_i h
   have := validL_le l (p - 1) (d - 1) (by omega)
   exact ⟨by omega, this.2⟩
theorem validL_le : ∀ (l : List Fm) (p d : Int), 0 ≤ p → (validL p d l).2 ≤ p ∧ ((validL p d l).1 = true → 0 ≤ (validL p d l).2) ∧ -1 ≤ (validL p d l).2
 | [], p, d, hp => by simp only [validL]; exact ⟨by omega, fun _ => hp, by omega⟩
 | f :: r, p, d, hp => by
  simp only [validL]
  have h1 := validF_le f p d hp
  split
  ·rename_i h
   have h2 := validL_le r (validF p d f).2 d (h1.2.1 h)
   exact ⟨by omega, h2.2⟩
  ·exact ⟨h1.1, by simp, h1.2.2⟩
end
set_option maxHeartbeats 1000000 in
theorem w50 (P : Program) (f : Fm) (p d : Int) (S : St) (i : Nat) (hp : 0 ≤ p) (hp2 : p ≤ 20000) (hd : 0 ≤ d) (hd2 : d ≤ 100) (hS : S.H i 1 = some (.int .i64 p)) (hlen : f.kids.length ≤ 1000000000)
  (h83 : ∀ S, Pl.Pure P 83 [enc f] S (.bool (leafB f)))
  (ih : ∀ g ∈ f.kids, ∀ (p d : Int) (S : St), 0 ≤ p → p ≤ 20000 → 0 ≤ d → d ≤ 100 → S.H i 1 = some (.int .i64 p) →
   ACalls P 50 [enc g, .ref i 1 0, .int .i64 d] S fun e S' => e = .ret (.bool (validF p d g).1) ∧ S' = S.set i 1 (.int .i64 (validF p d g).2)) :
  WalksE P F50 [enc f, .ref i 1 0, .int .i64 d] S fun e S' => e = .ret (.bool (validF p d f).1) ∧ S' = S.set i 1 (.int .i64 (validF p d f).2) := by
 obtain ⟨H, n, b, c, O, hO⟩ := S
 intro hw
 have hne := WFS.ne hw i 1 _ hS
 have hok := (hw i 1 _ hS).1
 simp only at hS
 have e0 : O.same i n = false := w_same_f hO hne
 have e2 : O.same n i = false := w_same_f hO (fun e => hne e.symm)
 have hR := validF_eq p d f
 obtain ⟨k, m, t, nl, l⟩ := f
 simp only [Fm.kids] at hlen ih hR
 generalize validF p d (.mk k m t nl l) = R at hR ⊢
 generalize leafB (.mk k m t nl l) = lf at hR h83
 obtain ⟨q, hq⟩ : ∃ q, q = p - 1 := ⟨_, rfl⟩
 have e1 := w_sub hO (a := p) (b := 1) (by omega) (by omega)
 rw [← hq] at e1 hR
 have hL := w_lenE hO l
 have gL := w_getE hO l
 obtain ⟨L, eL⟩ : ∃ L : Int, L = l.length := ⟨_, rfl⟩
 rw [← eL] at hL
 have rL : ∀ x, V.refsBs (frameS (upd2 O H i 1 x) n O hO []).ok (encs l) := fun _ => encs_refsB _ l
 simp only [enc] at h83 ⊢
 generalize encs l = xs at hL gL rL h83 ⊢
 have fin : ∀ (r : Bool) (p' : Int) (H' : Nat → Nat → Option V) (c' : Nat), R = (r, p') → (∀ i' k', i' ≠ n → H' i' k' = upd2 O H i 1 (.int .i64 p') i' k') →
   ∃ v S', some (V.bool r) = some v ∧ v.refsB S'.ok ∧ Over ⟨H, n, b, c, O, hO⟩ ⟨H', n + 1, n, c', O, hO⟩ S' ∧ (AE.ret v = .ret (.bool R.1) ∧ S' = St.set ⟨H, n, b, c, O, hO⟩ i 1 (.int .i64 R.2)) := by
  intro r p' H' c' hr hH
  subst hr
  exact ⟨_, St.set ⟨H, n, b, c, O, hO⟩ i 1 (.int .i64 p'), rfl, trivial, Over.of rfl rfl rfl (WFS.set hw hok (show (V.int .i64 p').refsB _ from trivial)) hH, rfl, rfl⟩
 generalize hQ : (fun e S' => e = AE.ret (V.bool R.1) ∧ S' = St.set ⟨H, n, b, c, O, hO⟩ i 1 (.int .i64 R.2)) = Q
 have finQ : ∀ (r : Bool) (p' : Int) (H' : Nat → Nat → Option V) (c' : Nat), R = (r, p') → (∀ i' k', i' ≠ n → H' i' k' = upd2 O H i 1 (.int .i64 p') i' k') →
   ∃ v S', some (V.bool r) = some v ∧ v.refsB S'.ok ∧ Over ⟨H, n, b, c, O, hO⟩ ⟨H', n + 1, n, c', O, hO⟩ S' ∧ Q (.ret v) S' := by
  subst hQ; exact fin
 clear fin hQ
 have hag : ∀ (x : V) (i' k' : Nat), i' ≠ n → upd2 O (upd2 O H n 0 x) i 1 (.int .i64 q) i' k' = upd2 O H i 1 (.int .i64 q) i' k' := fun x i' k' hne' => upd2_congr hO (upd2_ne hO hne')
 by_cases hq0 : q < 0
 ·rw [if_pos (.inl hq0)] at hR
  have l1 : O.ilt q 0 = true := w_ilt_t hO hq0
  (try cbv;repeat (simp only [w_same hO,hS,e0,e2,e1,l1];try cbv))
  exact finQ _ _ _ _ hR (hag _)
 have l1 : O.ilt q 0 = false := w_ilt_f hO (by omega)
 by_cases hd0 : d = 0
 ·rw [if_pos (.inr (.inl hd0))] at hR
  have l2 : O.ieq d 0 = true := w_ieq_t hO hd0
  (try cbv;repeat (simp only [w_same hO,hS,e0,e2,e1,l1,l2];try cbv))
  exact finQ _ _ _ _ hR (hag _)
 have l2 : O.ieq d 0 = false := w_ieq_f hO hd0
 cases lf
 ·rw [if_pos (.inr (.inr rfl))] at hR
  (try cbv;repeat (simp only [w_same hO,hS,e0,e2,e1,l1,l2];try cbv))
  refine Pure.go (h83 _) ?_
  (try cbv;repeat (simp only [w_same hO];try cbv))
  exact finQ _ _ _ _ hR (hag _)
 rw [if_neg (by simp [hq0, hd0])] at hR
 (try cbv;repeat (simp only [w_same hO,hS,e0,e2,e1,l1,l2];try cbv))
 refine Pure.go (h83 _) ?_
 (try cbv;repeat (simp only [w_same hO,e0,e2,hL];try cbv))
 obtain ⟨d', hd'⟩ : ∃ d', d' = d - 1 := ⟨_, rfl⟩
 have e3 := w_sub hO (a := d) (b := 1) (by omega) (by omega)
 rw [← hd'] at e3 hR
 have hwp : ∀ p' : Int, WFS ⟨upd2 O H i 1 (.int .i64 p'), n, b, c, O, hO⟩ := fun p' => WFS.set hw hok (show (V.int .i64 p').refsB _ from trivial)
 have hin := (ok_iff _ _ _).1 hok
 have ri : ∀ x, (V.ref i 1 0).refsB (frameS (upd2 O H i 1 x) n O hO []).ok := fun x => by
  simp only [V.refsB]
  exact (ok_iff _ _ _).2 ⟨Nat.lt_succ_of_lt hin.1, fun e => absurd e hne⟩
 refine AW_loopT (A := Nat × Int × Int) (fun a => [(1, .ref i 1 0), (2, .int .i64 d), (28, .sl nl 4 xs), (29, .int .i64 L), (30, .int .i64 a.2.1)]) (fun a => frameS (upd2 O H i 1 (.int .i64 a.2.2)) n O hO [])
  (fun a => a.2.1 = a.1 ∧ a.1 ≤ l.length ∧ 0 ≤ a.2.2 ∧ a.2.2 ≤ 20000 ∧ R = validL a.2.2 d' (l.drop a.1)) (fun a => l.length - a.1) (0, 0, q) ⟨rfl, Nat.zero_le _, by simp only; omega, by simp only; omega, hR⟩
  (Drops.tab (hwp q) (Nat.le_refl _) [] (fun i' k' hn => hag (.agg [.int .i64 k, .int .i64 m, .str t, .sl nl 4 xs]) i' k' (fun e => hn ⟨e, Nat.zero_le _⟩)) trivial
   (by simp only [tabOk]; exact ⟨.inl rfl, ri (.int .i64 q), .inl rfl, trivial, .inl rfl, rL (.int .i64 q), .inl rfl, trivial, .inl rfl, trivial, trivial⟩)) ?_
 rintro ⟨x, j, p'⟩ ⟨hj, hx, hp0, hp1, hrest⟩ K hK
 simp only at hj hx hp0 hp1 hrest hK
 replace hj : j = (x : Int) := hj
 replace eL : L = (l.length : Int) := eL
 have hS' : upd2 O H i 1 (.int .i64 p') i 1 = some (.int .i64 p') := by rw [upd2_eq hO, if_pos ⟨rfl, rfl⟩]
 generalize hH' : upd2 O H i 1 (.int .i64 p') = H' at hS'
 by_cases hlt : x < l.length
 ·have l3 : O.ilt j L = true := w_ilt_t hO (by omega)
  have g1 : O.get xs j = some (enc l[x]) := gL x j hj hlt
  have hd : l.drop x = l[x] :: l.drop (x + 1) := List.drop_eq_getElem_cons hlt
  rw [hd, validL_cons] at hrest
  have ih' := ih l[x] (List.getElem_mem hlt) p' d'
  have hle := validF_le l[x] p' d' hp0
  clear gL ih hd
  generalize l[x] = g at g1 ih' hrest hle
  generalize validF p' d' g = rg at ih' hrest hle
  obtain ⟨gk, gm, gt, gn, gl⟩ := g
  simp only [enc] at g1 ih'
  generalize encs gl = ys at g1 ih'
  obtain ⟨j', hj'⟩ : ∃ j', j' = j + 1 := ⟨_, rfl⟩
  have hadd := w_add hO (a := j) (b := 1) (by omega) (by omega)
  rw [← hj'] at hadd
  have hd0' : 0 ≤ d' := by omega
  have hd1' : d' ≤ 100 := by omega
  obtain ⟨rb, rp⟩ := rg
  simp only at ih' hrest hle
  (try cbv;repeat (simp only [w_same hO,e0,e2,l3,g1,e3];try cbv))
  refine ACalls.mono (ih' _ hp0 hp1 hd0' hd1' ?_) ?_
  ·simp only
   rw [upd2_ne hO hne, upd2_ne hO hne]
   exact hS'
  rintro e S' ⟨rfl, rfl⟩
  cases rb
  ·(try cbv;repeat (simp only [w_same hO,e0,e2];try cbv))
   rw [if_neg (by simp)] at hrest
   refine finQ _ _ _ _ hrest (fun i' k' hne' => ?_)
   subst hH'
   simp only [upd2_eq hO]
   by_cases h1 : i' = i ∧ k' = 1
   ·rw [if_pos h1, if_pos h1]
   ·simp only [h1, hne', false_and, if_false]
  ·(try cbv;repeat (simp only [w_same hO,e0,e2,hadd];try cbv))
   replace hj' : j' = j + 1 := hj'
   replace hj : j = (x : Int) := hj
   rw [if_pos rfl] at hrest
   refine hK _ _ (x + 1, j', rp) (by show l.length - (x + 1) < l.length - x; omega) ⟨(by omega : j' = ((x + 1 : Nat) : Int)), (by omega : x + 1 ≤ l.length), hle.2.1 rfl, (by show rp ≤ 20000; omega), hrest⟩
    (Drops.tab (hwp rp) (Nat.le_refl _) [] (fun i' k' hn => ?_) trivial (by simp only [tabOk]; exact ⟨.inl rfl, ri (.int .i64 rp), .inl rfl, trivial, .inl rfl, rL (.int .i64 rp), .inl rfl, trivial, .inl rfl, trivial, trivial⟩))
   have hne' : i' ≠ n := fun e => hn ⟨e, Nat.zero_le _⟩
   subst hH'
   simp only [frameS, updL]
   simp only [upd2_eq hO]
   by_cases h1 : i' = i ∧ k' = 1
   ·rw [if_pos h1, if_pos h1]
   ·simp only [h1, hne', false_and, if_false]
 ·have l3 : O.ilt j L = false := w_ilt_f hO (by omega)
  have hd : l.drop x = [] := List.drop_eq_nil_of_le (by omega)
  rw [hd, validL_nil] at hrest
  (try cbv;repeat (simp only [w_same hO,e0,e2,l3];try cbv))
  exact finQ _ _ _ _ hrest (fun i' k' hne' => by subst hH'; rfl)
end Go.Pl.Z
end
section
open Go Go.Pl Go.Proofs
namespace Go.Pl.Z
set_option maxRecDepth 100000
def letterB (c : Int) : Bool := (decide (97 ≤ c) && decide (c ≤ 122)) || (decide (65 ≤ c) && decide (c ≤ 90))
theorem w85 (P : Program) (c : Int) : Walks P F85 [.int .u8 c] (.bool (letterB c)) := by
 intro H n b' c' O hO hw
 have e1 := v_ile hO 97 c
 have e2 := v_ile hO c 122
 have e3 := v_ile hO 65 c
 have e4 := v_ile hO c 90
 have hv : letterB c = ((decide (97 ≤ c) && decide (c ≤ 122)) || (decide (65 ≤ c) && decide (c ≤ 90))) := rfl
 rw [hv]
 clear hv
 generalize decide (97 ≤ c) = b1 at e1 ⊢
 generalize decide (c ≤ 122) = b2 at e2 ⊢
 generalize decide (65 ≤ c) = b3 at e3 ⊢
 generalize decide (c ≤ 90) = b4 at e4 ⊢
 cases b1 <;> cases b2 <;> cases b3 <;> ((try cbv;repeat (simp only [w_same hO,e1,e2,e3,e4];try cbv)); (intro i k x hx;have hne:=WFS.ne hw i k x hx;first|exact hx|(simp (disch:=assumption) only [w_upd2_ne hO];exact hx)))
def nameRune (x : Nat) : Bool := decide (126 < (x : Int)) || ((!letterB (x : Int)) && (decide ((x : Int) < 48) || decide (57 < (x : Int))) && !decide ((x : Int) = 95))
theorem w_wrap8 {O : Ops} (hO : O = Ops.std) {x : Int} (h0 : 0 ≤ x) (h1 : x ≤ 255) : O.wrap .u8 x = x := by
 subst hO
 simp [Ops.std, IntKind.wrap, IntKind.bits, IntKind.signed]
 omega
theorem w88 (P : Program) (x : Nat) (h85 : ∀ c S, Pl.Pure P 85 [.int .u8 c] S (.bool (letterB c))) : Walks P F88 [.int .i32 x] (.bool (nameRune x)) := by
 intro H n b' c' O hO hw
 have hv : nameRune x = (decide (126 < (x : Int)) || ((!letterB (x : Int)) && (decide ((x : Int) < 48) || decide (57 < (x : Int))) && !decide ((x : Int) = 95))) := rfl
 rw [hv]
 clear hv
 have h0 : (0 : Int) ≤ (x : Int) := Int.natCast_nonneg x
 have hl := h85 (x : Int)
 clear h85
 generalize (x : Int) = y at h0 hl ⊢
 by_cases hb : 126 < y
 ·have e1 : O.ilt 126 y = true := w_ilt_t hO hb
  rw [decide_eq_true hb]
  generalize decide (y < 48) = b2
  generalize decide (57 < y) = b3
  generalize decide (y = 95) = b4
  generalize letterB y = lb
  simp only [Bool.true_or]
  (try cbv;repeat (simp only [w_same hO,e1];try cbv))
  (intro i k x hx;have hne:=WFS.ne hw i k x hx;first|exact hx|(simp (disch:=assumption) only [w_upd2_ne hO];exact hx))
 ·have e1 : O.ilt 126 y = false := w_ilt_f hO (by omega)
  have e0 := w_wrap8 hO h0 (by omega)
  rw [decide_eq_false hb]
  have e2 := v_ilt hO y 48
  have e3 := v_ilt hO 57 y
  have e4 := v_ieq hO y 95
  generalize decide (y < 48) = b2 at e2 ⊢
  generalize decide (57 < y) = b3 at e3 ⊢
  generalize decide (y = 95) = b4 at e4 ⊢
  generalize letterB y = lb at hl ⊢
  (try cbv;repeat (simp only [w_same hO,e1,e0];try cbv))
  refine Pure.go (hl _) ?_
  cases lb
  ·cases b2
   ·cases b3 <;> ((try cbv;repeat (simp only [w_same hO,e2,e3,e4];try cbv)); (intro i k x hx;have hne:=WFS.ne hw i k x hx;first|exact hx|(simp (disch:=assumption) only [w_upd2_ne hO];exact hx)))
   ·(try cbv;repeat (simp only [w_same hO,e2,e4];try cbv))
    (intro i k x hx;have hne:=WFS.ne hw i k x hx;first|exact hx|(simp (disch:=assumption) only [w_upd2_ne hO];exact hx))
  ·(try cbv;repeat (simp only [w_same hO];try cbv))
   (intro i k x hx;have hne:=WFS.ne hw i k x hx;first|exact hx|(simp (disch:=assumption) only [w_upd2_ne hO];exact hx))
def indexS (s : List UInt8) : List (List UInt8) → Int → Int
 | [], _ => -1
 | t :: r, i => if s = t then i else indexS s r (i + 1)
theorem strs_refsB (p : Nat → Nat → Bool) : ∀ l : List (List UInt8), V.refsBs p (l.map .str)
 | [] => by simp only [List.map, V.refsBs]
 | _ :: l => by simp only [List.map, V.refsBs, V.refsB]; exact ⟨trivial, strs_refsB p l⟩
theorem w128 (P : Program) (nl : Bool) (l : List (List UInt8)) (s : List UInt8) (hl : l.length ≤ 1000000000) : Walks P F128 [.sl nl 1 (l.map .str), .str s] (.int .i64 (indexS s l 0)) := by
 intro H n b' c' O hO hw
 have hL : O.len (l.map V.str) = (l.length : Int) := by rw [w_len hO]; simp
 have gL : ∀ (i : Nat) (j : Int), j = i → (h : i < l.length) → O.get (l.map V.str) j = some (.str l[i]) := fun i j hj h => by subst hj; exact w_get hO (by omega) (by simp [h])
 obtain ⟨L, eL⟩ : ∃ L : Int, L = l.length := ⟨_, rfl⟩
 rw [← eL] at hL
 have rL := strs_refsB (frameS H n O hO []).ok l
 generalize l.map V.str = xs at hL gL rL ⊢
 generalize hv : indexS s l 0 = v
 (try cbv;repeat (simp only [w_same hO,hL];try cbv))
 refine AW_loopT (A := Nat × Int) (fun a => [(0, .sl nl 1 xs), (1, .str s), (7, .int .i64 L), (8, .int .i64 a.2)]) (fun _ => frameS H n O hO [])
  (fun a => a.2 = a.1 ∧ a.1 ≤ l.length ∧ v = indexS s (l.drop a.1) a.2) (fun a => l.length - a.1) (0, 0) ⟨rfl, Nat.zero_le _, hv.symm⟩
  (Drops.tab hw (Nat.le_refl _) [] (fun _ _ _ => rfl) trivial (by simp only [tabOk, V.refsB]; exact ⟨.inl rfl, rL, .inl rfl, trivial, .inl rfl, trivial, .inl rfl, trivial, trivial⟩)) ?_
 rintro ⟨i, j⟩ ⟨hj, hi, hin⟩ K hK
 simp only at hj hi hin hK
 replace hj : j = (i : Int) := hj
 replace eL : L = (l.length : Int) := eL
 by_cases hlt : i < l.length
 ·have e1 : O.ilt j L = true := w_ilt_t hO (by omega)
  have g1 : O.get xs j = some (.str l[i]) := gL i j hj hlt
  rw [List.drop_eq_getElem_cons hlt] at hin
  clear gL
  generalize l[i] = t at g1 hin
  obtain ⟨j', hj'⟩ : ∃ j', j' = j + 1 := ⟨_, rfl⟩
  have hadd := w_add hO (a := j) (b := 1) (by omega) (by omega)
  simp only [indexS] at hin
  rw [← hj'] at hadd hin
  by_cases hs : s = t
  ·have e2 : O.seq s t = true := w_seq_t hO hs
   rw [if_pos hs] at hin
   rw [hin]
   (try cbv;repeat (simp only [w_same hO,e1,g1,e2];try cbv))
   (intro i k x hx;have hne:=WFS.ne hw i k x hx;first|exact hx|(simp (disch:=assumption) only [w_upd2_ne hO];exact hx))
  ·have e2 : O.seq s t = false := w_seq_f hO hs
   rw [if_neg hs] at hin
   (try cbv;repeat (simp only [w_same hO,e1,g1,e2,hadd];try cbv))
   replace hj' : j' = j + 1 := hj'
   replace hj : j = (i : Int) := hj
   exact hK _ _ (i + 1, j') (by show l.length - (i + 1) < l.length - i; omega) ⟨(by omega : j' = ((i + 1 : Nat) : Int)), (by omega : i + 1 ≤ l.length), hin⟩
    (Drops.tab hw (Nat.le_refl _) [] (fun i k hne => rfl) trivial (by simp only [tabOk, V.refsB]; exact ⟨.inl rfl, rL, .inl rfl, trivial, .inl rfl, trivial, .inl rfl, trivial, trivial⟩))
 ·have e1 : O.ilt j L = false := w_ilt_f hO (by omega)
  have : l.drop i = [] := List.drop_eq_nil_of_le (by omega)
  rw [this] at hin
  simp only [indexS] at hin
  rw [hin]
  (try cbv;repeat (simp only [w_same hO,e1];try cbv))
  (intro i k x hx;have hne:=WFS.ne hw i k x hx;first|exact hx|(simp (disch:=assumption) only [w_upd2_ne hO];exact hx))
theorem w106 (P : Program) (nl : Bool) (xs : List V) (s : List UInt8) (v : Int) (h : ∀ S, Pl.Pure P 128 [.sl nl 1 xs, .str s] S (.int .i64 v)) : Walks P F106 [.sl nl 1 xs, .str s] (.bool (decide (0 ≤ v))) := by
 intro H n b' c' O hO hw
 have e1 := v_ile hO 0 v
 generalize decide (0 ≤ v) = t at e1 ⊢
 (try cbv;repeat (simp only [w_same hO];try cbv))
 refine Pure.go (h _) ?_
 (try cbv;repeat (simp only [w_same hO,e1];try cbv))
 (intro i k x hx;have hne:=WFS.ne hw i k x hx;first|exact hx|(simp (disch:=assumption) only [w_upd2_ne hO];exact hx))
end Go.Pl.Z
end
section
open Go Go.Pl Go.Proofs Go.Shelf
namespace Go.Proofs
set_option maxRecDepth 100000
def Tryz.lF_ren : Go.Shelf.Ren := ⟨fun | 157 => 107 | 229 => 129 | 199 => 130 | 261 => 163 | 311 => 204 | 312 => 205 | n => n, fun | 9 => 9 | 31 => 75 | 3 => 3 | 5 => 5 | 4 => 4 | 119 => 91 | 0 => 0 | 40 => 66 | 152 => 121 | 21 => 21 | 154 => 123 | 51 => 124 | 141 => 126 | 196 => 149 | 193 => 146 | 198 => 152 | 49 => 150 | 194 => 147 | 201 => 155 | 226 => 172 | 46 => 164 | 227 => 173 | n => n, fun | 0 => 0 | 6 => 1 | n => n⟩
theorem Tryz.lF : Go.Proofs.LaysM.n157 Tryz.prog Tryz.lF_ren := {
 mixed := by kernel_rfl,
 f157 := Tryz.func107.trans (congrArg some (by kernel_rfl)),
 f199 := Tryz.func130.trans (congrArg some (by kernel_rfl)),
 f229 := Tryz.func129.trans (congrArg some (by kernel_rfl)),
 f261 := Tryz.func163.trans (congrArg some (by kernel_rfl)),
 f311 := Tryz.func204.trans (congrArg some (by kernel_rfl)),
 f312 := Tryz.func205.trans (congrArg some (by kernel_rfl)),
 t0 := Tryz.underlying0,
 a0 := Tryz.isAgg0,
 z0 := Tryz.sizeOf0,
 v0 := Tryz.zeroValue0,
 t3 := Tryz.underlying3,
 a3 := Tryz.isAgg3,
 z3 := Tryz.sizeOf3,
 v3 := Tryz.zeroValue3,
 t4 := Tryz.underlying4,
 a4 := Tryz.isAgg4,
 z4 := Tryz.sizeOf4,
 v4 := Tryz.zeroValue4,
 t5 := Tryz.underlying5,
 a5 := Tryz.isAgg5,
 z5 := Tryz.sizeOf5,
 v5 := Tryz.zeroValue5,
 t9 := Tryz.underlying9,
 a9 := Tryz.isAgg9,
 z9 := Tryz.sizeOf9,
 v9 := Tryz.zeroValue9,
 t21 := Tryz.underlying21,
 a21 := Tryz.isAgg21,
 z21 := Tryz.sizeOf21,
 v21 := Tryz.zeroValue21,
 t31 := Tryz.underlying75,
 a31 := Tryz.isAgg75,
 z31 := Tryz.sizeOf75,
 v31 := Tryz.zeroValue75,
 t40 := Tryz.underlying66,
 a40 := Tryz.isAgg66,
 z40 := Tryz.sizeOf66,
 v40 := Tryz.zeroValue66,
 t46 := Tryz.underlying164,
 a46 := Tryz.isAgg164,
 z46 := Tryz.sizeOf164,
 v46 := Tryz.zeroValue164,
 t49 := Tryz.underlying150,
 a49 := Tryz.isAgg150,
 z49 := Tryz.sizeOf150,
 v49 := Tryz.zeroValue150,
 t51 := Tryz.underlying124,
 a51 := Tryz.isAgg124,
 z51 := Tryz.sizeOf124,
 v51 := Tryz.zeroValue124,
 t119 := Tryz.underlying91,
 a119 := Tryz.isAgg91,
 z119 := Tryz.sizeOf91,
 t141 := Tryz.underlying126,
 a141 := Tryz.isAgg126,
 z141 := Tryz.sizeOf126,
 v141 := Tryz.zeroValue126,
 t152 := Tryz.underlying121,
 a152 := Tryz.isAgg121,
 z152 := Tryz.sizeOf121,
 v152 := Tryz.zeroValue121,
 t154 := Tryz.underlying123,
 a154 := Tryz.isAgg123,
 z154 := Tryz.sizeOf123,
 v154 := Tryz.zeroValue123,
 t193 := Tryz.underlying146,
 a193 := Tryz.isAgg146,
 z193 := Tryz.sizeOf146,
 v193 := Tryz.zeroValue146,
 t194 := Tryz.underlying147,
 a194 := Tryz.isAgg147,
 z194 := Tryz.sizeOf147,
 v194 := Tryz.zeroValue147,
 t196 := Tryz.underlying149,
 a196 := Tryz.isAgg149,
 z196 := Tryz.sizeOf149,
 v196 := Tryz.zeroValue149,
 t198 := Tryz.underlying152,
 a198 := Tryz.isAgg152,
 z198 := Tryz.sizeOf152,
 v198 := Tryz.zeroValue152,
 t201 := Tryz.underlying155,
 a201 := Tryz.isAgg155,
 z201 := Tryz.sizeOf155,
 v201 := Tryz.zeroValue155,
 t226 := Tryz.underlying172,
 a226 := Tryz.isAgg172,
 z226 := Tryz.sizeOf172,
 v226 := Tryz.zeroValue172,
 t227 := Tryz.underlying173,
 a227 := Tryz.isAgg173,
 z227 := Tryz.sizeOf173,
 v227 := Tryz.zeroValue173,
 g0 := by kernel_rfl,
 g6 := by kernel_rfl,
 i0 := by kernel_rfl,
 i3 := by kernel_rfl,
 i4 := by kernel_rfl,
 i5 := by kernel_rfl,
 i9 := by kernel_rfl,
 i21 := by kernel_rfl,
 i31 := by kernel_rfl,
 i40 := by kernel_rfl,
 i46 := by kernel_rfl,
 i49 := by kernel_rfl,
 i51 := by kernel_rfl,
 i141 := by kernel_rfl,
 i152 := by kernel_rfl,
 i154 := by kernel_rfl,
 i193 := by kernel_rfl,
 i194 := by kernel_rfl,
 i196 := by kernel_rfl,
 i198 := by kernel_rfl,
 i201 := by kernel_rfl,
 i226 := by kernel_rfl,
 i227 := by kernel_rfl,
 m0 := by kernel_rfl,
 m6 := by kernel_rfl }
def Tryz.lTP_ren : Go.Shelf.Ren := ⟨fun | 101 => 125 | 208 => 154 | 206 => 198 | n => n, fun | 9 => 9 | 4 => 4 | 3 => 3 | n => n, fun | n => n⟩
theorem Tryz.lTP : Go.Proofs.Lays.n101 Tryz.prog Tryz.lTP_ren := {
 mixed := by kernel_rfl,
 f101 := Tryz.func125.trans (congrArg some (by kernel_rfl)),
 f206 := Tryz.func198.trans (congrArg some (by kernel_rfl)),
 f208 := Tryz.func154.trans (congrArg some (by kernel_rfl)),
 t3 := Tryz.underlying3,
 a3 := Tryz.isAgg3,
 z3 := Tryz.sizeOf3,
 v3 := Tryz.zeroValue3,
 t4 := Tryz.underlying4,
 a4 := Tryz.isAgg4,
 z4 := Tryz.sizeOf4,
 v4 := Tryz.zeroValue4,
 t9 := Tryz.underlying9,
 a9 := Tryz.isAgg9,
 z9 := Tryz.sizeOf9,
 v9 := Tryz.zeroValue9 }
def Tryz.lIB_ren : Go.Shelf.Ren := ⟨fun | 137 => 127 | 217 => 162 | 266 => 203 | n => n, fun | 9 => 9 | 5 => 5 | 3 => 3 | n => n, fun | n => n⟩
theorem Tryz.lIB : Go.Proofs.Lays.n137 Tryz.prog Tryz.lIB_ren := {
 mixed := by kernel_rfl,
 f137 := Tryz.func127.trans (congrArg some (by kernel_rfl)),
 f217 := Tryz.func162.trans (congrArg some (by kernel_rfl)),
 f266 := Tryz.func203.trans (congrArg some (by kernel_rfl)),
 t3 := Tryz.underlying3,
 a3 := Tryz.isAgg3,
 z3 := Tryz.sizeOf3,
 v3 := Tryz.zeroValue3,
 t5 := Tryz.underlying5,
 a5 := Tryz.isAgg5,
 z5 := Tryz.sizeOf5,
 v5 := Tryz.zeroValue5,
 t9 := Tryz.underlying9,
 a9 := Tryz.isAgg9,
 z9 := Tryz.sizeOf9,
 v9 := Tryz.zeroValue9 }
def Tryz.lT_ren : Go.Shelf.Ren := ⟨fun | 160 => 126 | 232 => 156 | 231 => 155 | 227 => 157 | 234 => 159 | 233 => 158 | 236 => 161 | 235 => 160 | 228 => 199 | 271 => 202 | 151 => 201 | 197 => 200 | 120 => 222 | 152 => 221 | 260 => 220 | 137 => 127 | 119 => 230 | 224 => 231 | 225 => 232 | 217 => 162 | 266 => 203 | n => n, fun | 9 => 9 | 4 => 4 | 3 => 3 | 5 => 5 | 117 => 117 | 116 => 116 | 0 => 0 | 124 => 120 | 21 => 21 | 105 => 143 | 46 => 164 | 119 => 91 | 139 => 179 | 138 => 178 | n => n, fun | 3 => 3 | 4 => 4 | n => n⟩
theorem Tryz.lT : Go.Proofs.Lays.n160 Tryz.prog Tryz.lT_ren := {
 mixed := by kernel_rfl,
 f119 := Tryz.func230.trans (congrArg some (by kernel_rfl)),
 f120 := Tryz.func222.trans (congrArg some (by kernel_rfl)),
 f137 := Tryz.func127.trans (congrArg some (by kernel_rfl)),
 f151 := Tryz.func201.trans (congrArg some (by kernel_rfl)),
 f152 := Tryz.func221.trans (congrArg some (by kernel_rfl)),
 f160 := Tryz.func126.trans (congrArg some (by kernel_rfl)),
 f197 := Tryz.func200.trans (congrArg some (by kernel_rfl)),
 f217 := Tryz.func162.trans (congrArg some (by kernel_rfl)),
 f224 := Tryz.func231.trans (congrArg some (by kernel_rfl)),
 f225 := Tryz.func232.trans (congrArg some (by kernel_rfl)),
 f227 := Tryz.func157.trans (congrArg some (by kernel_rfl)),
 f228 := Tryz.func199.trans (congrArg some (by kernel_rfl)),
 f231 := Tryz.func155.trans (congrArg some (by kernel_rfl)),
 f232 := Tryz.func156.trans (congrArg some (by kernel_rfl)),
 f233 := Tryz.func158.trans (congrArg some (by kernel_rfl)),
 f234 := Tryz.func159.trans (congrArg some (by kernel_rfl)),
 f235 := Tryz.func160.trans (congrArg some (by kernel_rfl)),
 f236 := Tryz.func161.trans (congrArg some (by kernel_rfl)),
 f260 := Tryz.func220.trans (congrArg some (by kernel_rfl)),
 f266 := Tryz.func203.trans (congrArg some (by kernel_rfl)),
 f271 := Tryz.func202.trans (congrArg some (by kernel_rfl)),
 t0 := Tryz.underlying0,
 a0 := Tryz.isAgg0,
 z0 := Tryz.sizeOf0,
 v0 := Tryz.zeroValue0,
 t3 := Tryz.underlying3,
 a3 := Tryz.isAgg3,
 z3 := Tryz.sizeOf3,
 v3 := Tryz.zeroValue3,
 t4 := Tryz.underlying4,
 a4 := Tryz.isAgg4,
 z4 := Tryz.sizeOf4,
 v4 := Tryz.zeroValue4,
 t5 := Tryz.underlying5,
 a5 := Tryz.isAgg5,
 z5 := Tryz.sizeOf5,
 v5 := Tryz.zeroValue5,
 t9 := Tryz.underlying9,
 a9 := Tryz.isAgg9,
 z9 := Tryz.sizeOf9,
 v9 := Tryz.zeroValue9,
 t21 := Tryz.underlying21,
 a21 := Tryz.isAgg21,
 z21 := Tryz.sizeOf21,
 v21 := Tryz.zeroValue21,
 t46 := Tryz.underlying164,
 a46 := Tryz.isAgg164,
 z46 := Tryz.sizeOf164,
 v46 := Tryz.zeroValue164,
 t105 := Tryz.underlying143,
 a105 := Tryz.isAgg143,
 z105 := Tryz.sizeOf143,
 v105 := Tryz.zeroValue143,
 t116 := Tryz.underlying116,
 a116 := Tryz.isAgg116,
 z116 := Tryz.sizeOf116,
 t117 := Tryz.underlying117,
 a117 := Tryz.isAgg117,
 z117 := Tryz.sizeOf117,
 v117 := Tryz.zeroValue117,
 t119 := Tryz.underlying91,
 a119 := Tryz.isAgg91,
 z119 := Tryz.sizeOf91,
 t124 := Tryz.underlying120,
 a124 := Tryz.isAgg120,
 z124 := Tryz.sizeOf120,
 v124 := Tryz.zeroValue120,
 t138 := Tryz.underlying178,
 a138 := Tryz.isAgg178,
 z138 := Tryz.sizeOf178,
 v138 := Tryz.zeroValue178,
 t139 := Tryz.underlying179,
 a139 := Tryz.isAgg179,
 z139 := Tryz.sizeOf179,
 v139 := Tryz.zeroValue179,
 g3 := by kernel_rfl,
 g4 := by kernel_rfl }
def Tryz.lCF_ren : Go.Shelf.Ren := ⟨fun | 17 => 87 | 15 => 108 | 20 => 131 | n => n, fun | 9 => 9 | 23 => 66 | 4 => 4 | 3 => 3 | 0 => 0 | 21 => 21 | n => n, fun | n => n⟩
theorem Tryz.lCF : Go.Proofs.LaysGw.n17 Tryz.prog Tryz.lCF_ren := {
 mixed := by kernel_rfl,
 f15 := Tryz.func108.trans (congrArg some (by kernel_rfl)),
 f17 := Tryz.func87.trans (congrArg some (by kernel_rfl)),
 f20 := Tryz.func131.trans (congrArg some (by kernel_rfl)),
 t0 := Tryz.underlying0,
 a0 := Tryz.isAgg0,
 z0 := Tryz.sizeOf0,
 v0 := Tryz.zeroValue0,
 i0 := by kernel_rfl,
 t3 := Tryz.underlying3,
 a3 := Tryz.isAgg3,
 z3 := Tryz.sizeOf3,
 v3 := Tryz.zeroValue3,
 i3 := by kernel_rfl,
 t4 := Tryz.underlying4,
 a4 := Tryz.isAgg4,
 z4 := Tryz.sizeOf4,
 v4 := Tryz.zeroValue4,
 i4 := by kernel_rfl,
 t9 := Tryz.underlying9,
 a9 := Tryz.isAgg9,
 z9 := Tryz.sizeOf9,
 v9 := Tryz.zeroValue9,
 i9 := by kernel_rfl,
 t21 := Tryz.underlying21,
 a21 := Tryz.isAgg21,
 z21 := Tryz.sizeOf21,
 v21 := Tryz.zeroValue21,
 i21 := by kernel_rfl,
 t23 := Tryz.underlying66,
 a23 := Tryz.isAgg66,
 z23 := Tryz.sizeOf66,
 v23 := Tryz.zeroValue66,
 i23 := by kernel_rfl }
end Go.Proofs
namespace Go.Pl.Z
set_option maxRecDepth 100000
theorem p107 (s : List UInt8) (hs : s.length < 4294967281) (ha : ∀ b ∈ s, b.toNat < 128) (S : St) : Pl.Pure Tryz.prog 107 [.str s] S (.sl false 1 ((Lib.fields s).map .str)) :=
 pFields Tryz.lF (by kernel_rfl) s hs ha S
theorem p125 (s p : List UInt8) (S : St) : Pl.Pure Tryz.prog 125 [.str s, .str p] S (.str (Lib.trimPrefix s p)) := pTrimPrefix Tryz.lTP (by kernel_rfl) s p S
theorem p127 (s : List UInt8) (c : Int) (S : St) : Pl.Pure Tryz.prog 127 [.str s, .int .u8 c] S (.int .i64 (Lib.indexByte s c.toNat.toUInt8)) := pIndexByte Tryz.lIB (by kernel_rfl) s c S
theorem p126 (s cs : List UInt8) (hs : s.length ≤ 1000000000) (hcs : cs.length ≤ 100) (ha : cs.all (fun b => decide (b.toNat < 128)) = true) (S : St) : Pl.Pure Tryz.prog 126 [.str s, .str cs] S (.str (Lib.trimS s cs)) :=
 pTrim Tryz.lT (by kernel_rfl) (by kernel_rfl) s cs hs hcs ha S
theorem p87 (s : List UInt8) (f : Nat) (p : Nat → Bool) (eg : ∀ args w, (callFunc f args).run Tryz.prog w = .ok (.enter f args) w)
  (h : ∀ x : Nat, x ≤ 1114111 → ∀ S, Pl.Pure Tryz.prog f [.int .i32 x] S (.bool (p x))) (S : St) : Pl.Pure Tryz.prog 87 [.str s, .fn f []] S (.bool (decide (0 ≤ Lib.idxFunc p true ⟨s.toArray⟩))) :=
 pContainsFunc Tryz.lCF (by kernel_rfl) s f p eg h S
end Go.Pl.Z
end
section
open Go Go.Pl Go.Proofs
namespace Go.Pl.Z
set_option maxRecDepth 100000
def wordsB : List UInt8 := [116, 114, 117, 101, 32, 102, 97, 108, 115, 101, 32, 110, 117, 108, 108, 32, 116, 104, 105, 115, 32, 114, 101, 115, 117, 108, 116, 32, 105, 110, 116, 32, 98, 111, 111, 108, 32, 43, 32, 45, 32, 42, 32, 100, 105, 118, 32, 109, 111, 100, 32, 110, 101, 103, 32, 60, 32, 60, 61, 32, 61, 32, 110, 111, 116, 32, 97, 110, 100, 32, 111, 114, 32, 61, 62, 32, 105, 102, 102, 32, 105, 102, 32, 108, 101, 116, 32, 112, 105, 99, 107, 32, 109, 97, 116, 99, 104, 32, 102, 110, 32, 97, 112, 112, 32, 111, 102, 32, 99, 97, 108, 108, 32, 109, 97, 107, 101, 32, 105, 115, 32, 103, 101, 116, 32, 98, 105, 116, 115, 32, 98, 97, 110, 100, 32, 98, 111, 114, 32, 98, 120, 111, 114, 32, 98, 97, 100, 100, 32, 98, 110, 117, 109, 32, 115, 101, 113, 32, 115, 101, 116, 32, 98, 97, 103, 32, 109, 97, 112, 32, 101, 109, 112, 116, 121, 32, 105, 109, 97, 112, 32, 108, 101, 110, 32, 97, 116, 32, 99, 97, 116, 32, 99, 117, 116, 32, 112, 117, 116, 32, 105, 110, 32, 106, 111, 105, 110, 32, 109, 101, 101, 116, 32, 108, 101, 115, 115, 32, 99, 97, 114, 100, 32, 99, 111, 117, 110, 116, 32, 108, 111, 111, 107, 32, 107, 101, 121, 115, 32, 97, 108, 108, 32, 115, 111, 109, 101, 32, 101, 118, 101, 114, 121, 32, 97, 110, 121, 32, 102, 111, 114, 97, 108, 108, 32, 101, 120, 105, 115, 116, 115, 32, 116, 114, 105, 103, 103, 101, 114, 32, 111, 108, 100, 32, 102, 114, 101, 115, 104, 32, 102, 117, 101, 108, 32, 112, 114, 101, 102, 105, 120, 32, 118, 97, 114, 32, 115, 116, 111, 114, 101, 32, 110, 101, 119, 32, 115, 101, 110, 100, 32, 99, 104, 111, 111, 115, 101, 32, 119, 104, 105, 108, 101, 32, 105, 110, 118, 97, 114, 105, 97, 110, 116, 32, 100, 101, 99, 114, 101, 97, 115, 101, 115, 32, 109, 111, 100, 105, 102, 105, 101, 115, 32, 99, 97, 115, 101, 32, 97, 115, 115, 101, 114, 116, 32, 98, 121, 32, 97, 115, 115, 117, 109, 101, 32, 101, 120, 112, 101, 99, 116, 32, 108, 101, 97, 118, 101, 32, 108, 97, 98, 101, 108, 32, 101, 97, 99, 104, 32, 108, 101, 109, 109, 97, 32, 114, 101, 113, 117, 105, 114, 101, 115, 32, 101, 110, 115, 117, 114, 101, 115, 32, 99, 97, 108, 99, 32, 114, 101, 118, 101, 97, 108, 32, 103, 104, 111, 115, 116, 32, 98, 108, 111, 99, 107, 32, 100, 97, 116, 97, 32, 99, 111, 100, 97, 116, 97, 32, 101, 113, 32, 115, 117, 98, 32, 116, 114, 97, 105, 116, 32, 99, 108, 97, 115, 115, 32, 102, 105, 101, 108, 100, 32, 102, 117, 110, 99, 116, 105, 111, 110, 32, 112, 114, 101, 100, 105, 99, 97, 116, 101, 32, 116, 119, 111, 115, 116, 97, 116, 101, 32, 108, 101, 97, 115, 116, 32, 103, 114, 101, 97, 116, 101, 115, 116, 32, 116, 112, 32, 114, 101, 97, 100, 115, 32, 111, 112, 97, 113, 117, 101, 32, 109, 101, 116, 104, 111, 100, 32, 101, 120, 116, 101, 114, 110, 32, 98, 111, 100, 121, 32, 102, 117, 110, 32, 109, 97, 121, 98, 101, 32, 109, 111, 100, 117, 108, 101, 32, 111, 112, 101, 110, 32, 114, 101, 102, 105, 110, 101, 115, 32, 97, 98, 115, 116, 114, 97, 99, 116]
def reservedB (s : List UInt8) : Bool := decide (0 ≤ indexS s (Lib.fields wordsB) 0)
theorem w86 (P : Program) (s : List UInt8) (ws : List V) (r : Bool) (h107 : ∀ S, Pl.Pure P 107 [.str wordsB] S (.sl false 1 ws)) (h106 : ∀ S, Pl.Pure P 106 [.sl false 1 ws, .str s] S (.bool r)) : Walks P F86 [.str s] (.bool r) := by
 intro H n b' c' O hO hw
 unfold wordsB at h107
 (try cbv;repeat (simp only [w_same hO];try cbv))
 refine Pure.go (h107 _) ?_
 (try cbv;repeat (simp only [w_same hO];try cbv))
 refine Pure.go (h106 _) ?_
 (try cbv;repeat (simp only [w_same hO];try cbv))
 (intro i k x hx;have hne:=WFS.ne hw i k x hx;first|exact hx|(simp (disch:=assumption) only [w_upd2_ne hO];exact hx))
def isNameB (s : List UInt8) : Bool := !(decide (s = []) || decide (20 < (s.length : Int)) || !letterB ((s.headD 0).toNat : Int) || reservedB s) && !decide (0 ≤ Lib.idxFunc nameRune true ⟨s.toArray⟩)
theorem w56 (P : Program) (s : List UInt8) (h85 : ∀ c S, Pl.Pure P 85 [.int .u8 c] S (.bool (letterB c))) (h86 : ∀ S, Pl.Pure P 86 [.str s] S (.bool (reservedB s)))
  (h87 : ∀ S, Pl.Pure P 87 [.str s, .fn 88 []] S (.bool (decide (0 ≤ Lib.idxFunc nameRune true ⟨s.toArray⟩)))) : Walks P F56 [.str s] (.bool (isNameB s)) := by
 intro H n b' c' O hO hw
 have hv : isNameB s = (!(decide (s = []) || decide (20 < (s.length : Int)) || !letterB ((s.headD 0).toNat : Int) || reservedB s) && !decide (0 ≤ Lib.idxFunc nameRune true ⟨s.toArray⟩)) := rfl
 generalize decide (0 ≤ Lib.idxFunc nameRune true ⟨s.toArray⟩) = b5 at h87 hv
 generalize reservedB s = b4 at h86 hv
 generalize isNameB s = v at hv ⊢
 by_cases h0 : s = []
 ·have e1 : O.seq s [] = true := w_seq_t hO h0
  rw [decide_eq_true h0] at hv
  simp only [Bool.true_or, Bool.not_true, Bool.false_and] at hv
  clear h85 h86 h87 h0
  rw [hv]
  (try cbv;repeat (simp only [w_same hO,e1];try cbv))
  (intro i k x hx;have hne:=WFS.ne hw i k x hx;first|exact hx|(simp (disch:=assumption) only [w_upd2_ne hO];exact hx))
 have e1 : O.seq s [] = false := w_seq_f hO h0
 rw [decide_eq_false h0] at hv
 have hpos : 0 < s.length := List.length_pos_iff.2 h0
 have g1 : O.sget s 0 = some (s[0].toNat : Int) := v_sget hO s 0 0 rfl hpos
 have ehd : s.headD 0 = s[0] := by cases s with
  | nil => exact absurd rfl h0
  | cons a r => rfl
 rw [ehd] at hv
 have hS := w_slen hO s
 have e2 := v_ilt hO 20 (s.length : Int)
 have hl : ∀ S, Pl.Pure P 85 [.int .u8 (s[0].toNat : Int)] S (.bool (letterB (s[0].toNat : Int))) := h85 _
 clear h85 ehd
 generalize s[0] = x at g1 hl hv
 obtain ⟨y, hy⟩ : ∃ y : Int, y = x.toNat := ⟨_, rfl⟩
 rw [← hy] at g1 hl hv
 clear hy
 generalize letterB y = b3 at hl hv
 generalize (s.length : Int) = L at hS e2 hv
 generalize decide (20 < L) = b2 at e2 hv
 clear h0 hpos
 cases b2
 ·cases b3
  ·simp only [Bool.false_or, Bool.not_false, Bool.true_or, Bool.not_true, Bool.false_and] at hv
   rw [hv]
   (try cbv;repeat (simp only [w_same hO,e1,hS,e2,g1];try cbv))
   refine Pure.go (hl _) ?_
   (try cbv;repeat (simp only [w_same hO];try cbv))
   (intro i k x hx;have hne:=WFS.ne hw i k x hx;first|exact hx|(simp (disch:=assumption) only [w_upd2_ne hO];exact hx))
  ·cases b4
   ·simp only [Bool.false_or, Bool.not_false, Bool.not_true, Bool.true_and] at hv
    rw [hv]
    (try cbv;repeat (simp only [w_same hO,e1,hS,e2,g1];try cbv))
    refine Pure.go (hl _) ?_
    (try cbv;repeat (simp only [w_same hO];try cbv))
    refine Pure.go (h86 _) ?_
    (try cbv;repeat (simp only [w_same hO];try cbv))
    refine Pure.go (h87 _) ?_
    (try cbv;repeat (simp only [w_same hO];try cbv))
    (intro i k x hx;have hne:=WFS.ne hw i k x hx;first|exact hx|(simp (disch:=assumption) only [w_upd2_ne hO];exact hx))
   ·simp only [Bool.false_or, Bool.not_true, Bool.or_true, Bool.false_and] at hv
    rw [hv]
    (try cbv;repeat (simp only [w_same hO,e1,hS,e2,g1];try cbv))
    refine Pure.go (hl _) ?_
    (try cbv;repeat (simp only [w_same hO];try cbv))
    refine Pure.go (h86 _) ?_
    (try cbv;repeat (simp only [w_same hO];try cbv))
    (intro i k x hx;have hne:=WFS.ne hw i k x hx;first|exact hx|(simp (disch:=assumption) only [w_upd2_ne hO];exact hx))
 ·simp only [Bool.false_or, Bool.true_or, Bool.not_true, Bool.false_and] at hv
  rw [hv]
  (try cbv;repeat (simp only [w_same hO,e1,hS,e2];try cbv))
  (intro i k x hx;have hne:=WFS.ne hw i k x hx;first|exact hx|(simp (disch:=assumption) only [w_upd2_ne hO];exact hx))
theorem p85 (c : Int) (S : St) : Pl.Pure Tryz.prog 85 [.int .u8 c] S (.bool (letterB c)) := mkPure hm Tryz.func85 g85 c85 (Nat.le_of_ble_eq_true rfl) (fun _ => by simp only [V.refsB]) (w85 _ c) S
theorem p88 (x : Nat) (S : St) : Pl.Pure Tryz.prog 88 [.int .i32 x] S (.bool (nameRune x)) := mkPure hm Tryz.func88 g88 c88 (Nat.le_of_ble_eq_true rfl) (fun _ => by simp only [V.refsB]) (w88 _ x p85) S
theorem p128 (nl : Bool) (l : List (List UInt8)) (s : List UInt8) (hl : l.length ≤ 1000000000) (S : St) : Pl.Pure Tryz.prog 128 [.sl nl 1 (l.map .str), .str s] S (.int .i64 (indexS s l 0)) :=
 mkPure hm Tryz.func128 g128 c128 (Nat.le_of_ble_eq_true rfl) (fun _ => by simp only [V.refsB]) (w128 _ nl l s hl) S
theorem p106 (nl : Bool) (l : List (List UInt8)) (s : List UInt8) (hl : l.length ≤ 1000000000) (S : St) : Pl.Pure Tryz.prog 106 [.sl nl 1 (l.map .str), .str s] S (.bool (decide (0 ≤ indexS s l 0))) :=
 mkPure hm Tryz.func106 g106 c106 (Nat.le_of_ble_eq_true rfl) (fun _ => by simp only [V.refsB]) (w106 _ nl _ s _ (p128 nl l s hl)) S
theorem words_len : (Lib.fields wordsB).length ≤ 1000000000 := of_decide_eq_true (by kernel_rfl)
theorem p86 (s : List UInt8) (S : St) : Pl.Pure Tryz.prog 86 [.str s] S (.bool (reservedB s)) :=
 mkPure hm Tryz.func86 g86 c86 (Nat.le_of_ble_eq_true rfl) (fun _ => by simp only [V.refsB]) (w86 _ s _ _ (p107 wordsB (of_decide_eq_true (by kernel_rfl)) (fun b hb => of_decide_eq_true (List.all_eq_true.1 (show wordsB.all (fun b => decide (b.toNat < 128)) = true by kernel_rfl) b hb)))
  (p106 false (Lib.fields wordsB) s words_len)) S
theorem e88 (args : Array Value) (w : World) : (callFunc 88 args).run Tryz.prog w = .ok (.enter 88 args) w := callFunc_run (by kernel_rfl) args
theorem p56 (s : List UInt8) (S : St) : Pl.Pure Tryz.prog 56 [.str s] S (.bool (isNameB s)) :=
 mkPure hm Tryz.func56 g56 c56 (Nat.le_of_ble_eq_true rfl) (fun _ => by simp only [V.refsB]) (w56 _ s p85 (p86 s) (p87 s 88 nameRune e88 (fun x _ S => p88 x S))) S
end Go.Pl.Z
end
