import Derived.Test.YtllbopmdpmjcpaaGreatDoorM13
import Derived.Test.YtllbopmdpmjcpaaGreatDoorM15
import Derived.Test.YtllbopmdpmjcpaaGreatDoorM18
import Derived.Test.YtllbopmdpmjcpaaGreatDoorM20
import Derived.Test.YtllbopmdpmjcpaaGreatDoorM22
import Derived.Test.YtllbopmdpmjcpaaGreatDoorM24
import Derived.Test.YtllbopmdpmjcpaaGreatDoorM25
set_option linter.unusedSimpArgs false
set_option linter.unusedVariables false
set_option linter.unusedSectionVars false
section
open Go Go.Pl
namespace Go.Pl.Z
theorem headF_kids {f : Fm} (h : headF f ≠ []) : f.kind = 3 ∧ ∃ g r, f.kids = g :: r := by
 unfold headF at h
 by_cases hk : f.kind = 3
 ·rw [if_pos hk] at h
  cases hl : f.kids with
  | nil => rw [hl] at h; exact absurd rfl h
  | cons g r => exact ⟨hk, g, r, rfl⟩
 ·rw [if_neg hk] at h; exact absurd rfl h
theorem isX_head {W : Fm → Bool} {G : List Fm → Bool} {f : Fm} (h : headF f ≠ []) (hv : isX W G f = true) : ∃ g r, f.kids = g :: r ∧ headX W G (headF f) r = true := by
 obtain ⟨hk, g, r, hl⟩ := headF_kids h
 refine ⟨g, r, hl, ?_⟩
 unfold isX at hv
 rw [hk, hl] at hv
 simpa [kidsX] using hv
theorem pairsB_len {W : Fm → Bool} {l : List Fm} (h : pairsB W l = true) : ∀ p ∈ l, 1 < p.kids.length := fun p hp => by
 have h1 := List.all_eq_true.1 ((Bool.and_eq_true _ _).mp h).1 p hp
 unfold pairB at h1
 have h2 := of_decide_eq_true ((Bool.and_eq_true _ _).mp ((Bool.and_eq_true _ _).mp h1).2).1
 omega
theorem belowOk_of {W : Fm → Bool} {G : List Fm → Bool} {f : Fm} (hv : isX W G f = true) : belowOk f := by
 refine ⟨fun h => ?_, fun h => ?_⟩
 ·obtain ⟨_, g, r, hl⟩ := headF_kids h
  rw [hl]; simp
 ·obtain ⟨g, r, hl, hx⟩ := isX_head (by rw [h]; decide) hv
  rw [h] at hx
  have hb : bitsB r = true := by simpa [headX] using hx
  have : r.length = 2 := by
   match r, hb with
   | [a, b], _ => rfl
   | [], h => simp [bitsB] at h
   | [_], h => simp [bitsB] at h
   | _ :: _ :: _ :: _, h => simp [bitsB] at h
  rw [hl]; simp [this]
theorem innerOk_of {W : Fm → Bool} {G : List Fm → Bool} {f : Fm} (hv : isX W G f = true) : innerOk f := by
 refine ⟨fun h => ?_, fun h => ?_, fun h => ?_⟩
 ·obtain ⟨_, g, r, hl⟩ := headF_kids h
  rw [hl]; simp
 ·obtain ⟨g, r, hl, hx⟩ := isX_head (by rw [h]; decide) hv
  rw [h] at hx
  have hb : dataB W r = true := by
   have : headX W G hData r = dataB W r := by
    unfold headX
    simp [show ¬ hData = hBits by decide, show ¬ hData = hSeq by decide, show ¬ hData = hSet by decide, show ¬ hData = hBag by decide, show ¬ hData = hMap by decide, show ¬ hData = hImap by decide]
   rw [this] at hx; exact hx
  cases r with
  | nil => simp [dataB] at hb
  | cons c cs => rw [hl]; simp
 ·rcases h with h | h
  ·obtain ⟨g, r, hl, hx⟩ := isX_head (by rw [h]; decide) hv
   rw [h] at hx
   have hb : (pairsB W r && !r.any bagBad) = true := by
    have : headX W G hBag r = (pairsB W r && !r.any bagBad) := by
     unfold headX
     simp [show ¬ hBag = hBits by decide, show ¬ hBag = hSeq by decide, show ¬ hBag = hSet by decide]
    rw [this] at hx; exact hx
   rw [hl]
   simpa using pairsB_len ((Bool.and_eq_true _ _).mp hb).1
  ·obtain ⟨g, r, hl, hx⟩ := isX_head (by rw [h]; decide) hv
   rw [h] at hx
   have hb : pairsB W r = true := by
    have : headX W G hMap r = pairsB W r := by
     unfold headX
     simp [show ¬ hMap = hBits by decide, show ¬ hMap = hSeq by decide, show ¬ hMap = hSet by decide, show ¬ hMap = hBag by decide]
    rw [this] at hx; exact hx
   rw [hl]
   simpa using pairsB_len hb
end Go.Pl.Z
end
section
open Go Go.Pl
namespace Go.Pl.Z
theorem eqF_iff (a b : Fm) : eqF a b = true ↔ Same a b := by unfold eqF Same; simp
theorem falls_irrefl (Bl : Fm → Fm → Bool) : ∀ x, fallsB Bl x x = false
 | [] => by simp [fallsB]
 | a :: r => by simp only [fallsB, (eqF_iff a a).2 (Same.refl a), cond_true]; exact falls_irrefl Bl r
structure Below' (V : Fm → Prop) (Bl : Fm → Fm → Bool) : Prop where
 irr : ∀ a, V a → Bl a a = false
 trans : ∀ a b c, V a → V b → V c → Bl a b = true → Bl b c = true → Bl a c = true
 left : ∀ a a' b, V a → V a' → V b → Same a a' → Bl a b = Bl a' b
 right : ∀ a b b', V a → V b → V b' → Same b b' → Bl a b = Bl a b'
theorem falls_trans {V : Fm → Prop} {Bl : Fm → Fm → Bool} (h : Below' V Bl) : ∀ (x y z : List Fm), (∀ f ∈ x, V f) → (∀ f ∈ y, V f) → (∀ f ∈ z, V f) → fallsB Bl x y = true → fallsB Bl y z = true → fallsB Bl x z = true
 | [], [], _, _, _, _, h1, _ => by simp [fallsB] at h1
 | [], _ :: _, [], _, _, _, _, h2 => by simp [fallsB] at h2
 | [], _ :: _, c :: t, _, _, _, _, _ => by simp [fallsB]
 | a :: r, [], _, _, _, _, h1, _ => by simp [fallsB] at h1
 | a :: r, b :: s, [], _, _, _, _, h2 => by simp [fallsB] at h2
 | a :: r, b :: s, c :: t, hx, hy, hz, h1, h2 => by
  have va := hx a List.mem_cons_self
  have vb := hy b List.mem_cons_self
  have vc := hz c List.mem_cons_self
  simp only [fallsB] at h1 h2 ⊢
  cases hab : eqF a b with
  | true =>
   rw [hab] at h1
   have sab := (eqF_iff a b).1 hab
   cases hbc : eqF b c with
   | true =>
    rw [hbc] at h2
    have sbc := (eqF_iff b c).1 hbc
    rw [(eqF_iff a c).2 (Same.trans a b c sab sbc)]
    simp only [cond_true] at h1 h2 ⊢
    exact falls_trans h r s t (fun f hf => hx f (List.mem_cons_of_mem _ hf)) (fun f hf => hy f (List.mem_cons_of_mem _ hf)) (fun f hf => hz f (List.mem_cons_of_mem _ hf)) h1 h2
   | false =>
    rw [hbc] at h2
    simp only [cond_false] at h2
    have : eqF a c = false := by
     rw [← Bool.not_eq_true]
     intro e
     have := Same.trans b a c (Same.symm a b sab) ((eqF_iff a c).1 e)
     rw [(eqF_iff b c).2 this] at hbc
     cases hbc
    rw [this]
    simp only [cond_false]
    rw [h.left a b c va vb vc sab]; exact h2
  | false =>
   rw [hab] at h1
   simp only [cond_false] at h1
   cases hbc : eqF b c with
   | true =>
    have sbc := (eqF_iff b c).1 hbc
    have : eqF a c = false := by
     rw [← Bool.not_eq_true]
     intro e
     have := Same.trans a c b ((eqF_iff a c).1 e) (Same.symm b c sbc)
     rw [(eqF_iff a b).2 this] at hab
     cases hab
    rw [this]
    simp only [cond_false]
    rw [← h.right a b c va vb vc sbc]; exact h1
   | false =>
    rw [hbc] at h2
    simp only [cond_false] at h2
    have hac := h.trans a b c va vb vc h1 h2
    have : eqF a c = false := by
     rw [← Bool.not_eq_true]
     intro e
     have s := (eqF_iff a c).1 e
     rw [← h.right a a c va va vc s, h.irr a va] at hac
     cases hac
    rw [this]
    simpa only [cond_false] using hac
end Go.Pl.Z
end
section
open Go Go.Pl
namespace Go.Pl.Z
def withinN : Nat → Fm → Fm → Bool
 | 0, _, _ => false
 | k + 1, b, a => (innerOf a).any fun x => eqF x b || withinN k b x
theorem innerOf_size {a x : Fm} (hok : innerOk a) (h : x ∈ innerOf a) : fsize x < fsize a := by
 have kid : ∀ g ∈ a.kids, fsize g < fsize a := fun g hg => by have := fs_kid hg; omega
 unfold innerOf at h
 by_cases q1 : headF a = hData
 ·rw [decide_eq_true q1] at h; simp only [cond_true] at h; exact kid x (List.mem_of_mem_drop h)
 rw [decide_eq_false q1] at h
 simp only [cond_false] at h
 by_cases q2 : (decide (headF a = hSeq) || decide (headF a = hSet)) = true
 ·rw [q2] at h; simp only [cond_true] at h; exact kid x (List.mem_of_mem_drop h)
 rw [Bool.not_eq_true] at q2
 rw [q2] at h
 simp only [cond_false] at h
 by_cases q3 : headF a = hBag
 ·rw [decide_eq_true q3] at h
  simp only [cond_true, List.mem_map] at h
  obtain ⟨p, hp, rfl⟩ := h
  have h2 := hok.2.2 (.inl q3) p hp
  obtain ⟨y, g, r, hk⟩ := two_kids h2
  have h3 := kid p (List.mem_of_mem_drop hp)
  have h4 : fstF p = y := by unfold fstF; rw [hk]; rfl
  rw [h4]
  have := fs_kid (f := p) (g := y) (by rw [hk]; simp)
  omega
 rw [decide_eq_false q3] at h
 simp only [cond_false] at h
 by_cases q4 : headF a = hMap
 ·rw [decide_eq_true q4] at h
  simp only [cond_true, List.mem_map] at h
  obtain ⟨p, hp, rfl⟩ := h
  have h2 := hok.2.2 (.inr q4) p hp
  obtain ⟨y, g, r, hk⟩ := two_kids h2
  have h3 := kid p (List.mem_of_mem_drop hp)
  have h4 : sndF p = g := by unfold sndF; rw [hk]; rfl
  rw [h4]
  have := fs_kid (f := p) (g := g) (by rw [hk]; simp)
  omega
 rw [decide_eq_false q4] at h
 simp at h
theorem isX_inner {W : Fm → Bool} {G : List Fm → Bool} {a x : Fm} (hv : isX W G a = true) (h : x ∈ innerOf a) : W x = true := by
 have ok := innerOk_of hv
 unfold innerOf at h
 by_cases q1 : headF a = hData
 ·rw [decide_eq_true q1] at h
  simp only [cond_true] at h
  obtain ⟨g, r, hl, hx⟩ := isX_head (by rw [q1]; decide) hv
  rw [q1] at hx
  have hb : dataB W r = true := by
   have : headX W G hData r = dataB W r := by
    unfold headX
    simp [show ¬ hData = hBits by decide, show ¬ hData = hSeq by decide, show ¬ hData = hSet by decide, show ¬ hData = hBag by decide, show ¬ hData = hMap by decide, show ¬ hData = hImap by decide]
   rw [this] at hx; exact hx
  rw [hl] at h
  cases r with
  | nil => simp at h
  | cons c cs =>
   simp only [List.drop_succ_cons, List.drop_zero] at h
   exact List.all_eq_true.1 ((Bool.and_eq_true _ _).mp ((Bool.and_eq_true _ _).mp hb).2).2 x h
 rw [decide_eq_false q1] at h
 simp only [cond_false] at h
 by_cases q2 : headF a = hSeq
 ·rw [decide_eq_true q2] at h
  simp only [Bool.true_or, cond_true] at h
  obtain ⟨g, r, hl, hx⟩ := isX_head (by rw [q2]; decide) hv
  rw [q2] at hx
  have hb : r.all W = true := by
   have : headX W G hSeq r = r.all W := by
    unfold headX
    simp [show ¬ hSeq = hBits by decide]
   rw [this] at hx; exact hx
  rw [hl] at h
  exact List.all_eq_true.1 hb x (by simpa using h)
 rw [decide_eq_false q2] at h
 by_cases q3 : headF a = hSet
 ·rw [decide_eq_true q3] at h
  simp only [Bool.false_or, cond_true] at h
  obtain ⟨g, r, hl, hx⟩ := isX_head (by rw [q3]; decide) hv
  rw [q3] at hx
  have hb : (r.all W && ascB r) = true := by
   have : headX W G hSet r = (r.all W && ascB r) := by
    unfold headX
    simp [show ¬ hSet = hBits by decide, show ¬ hSet = hSeq by decide]
   rw [this] at hx; exact hx
  rw [hl] at h
  exact List.all_eq_true.1 ((Bool.and_eq_true _ _).mp hb).1 x (by simpa using h)
 rw [decide_eq_false q3] at h
 simp only [Bool.or_self, cond_false] at h
 have pr : ∀ r, pairsB W r = true → ∀ p ∈ r, W (fstF p) = true ∧ W (sndF p) = true := fun r hr p hp => by
  have h1 := List.all_eq_true.1 ((Bool.and_eq_true _ _).mp hr).1 p hp
  unfold pairB at h1
  exact (Bool.and_eq_true _ _).mp ((Bool.and_eq_true _ _).mp ((Bool.and_eq_true _ _).mp h1).2).2
 by_cases q4 : headF a = hBag
 ·rw [decide_eq_true q4] at h
  simp only [cond_true, List.mem_map] at h
  obtain ⟨p, hp, rfl⟩ := h
  obtain ⟨g, r, hl, hx⟩ := isX_head (by rw [q4]; decide) hv
  rw [q4] at hx
  have hb : (pairsB W r && !r.any bagBad) = true := by
   have : headX W G hBag r = (pairsB W r && !r.any bagBad) := by
    unfold headX
    simp [show ¬ hBag = hBits by decide, show ¬ hBag = hSeq by decide, show ¬ hBag = hSet by decide]
   rw [this] at hx; exact hx
  rw [hl] at hp
  exact (pr r ((Bool.and_eq_true _ _).mp hb).1 p (by simpa using hp)).1
 rw [decide_eq_false q4] at h
 simp only [cond_false] at h
 by_cases q5 : headF a = hMap
 ·rw [decide_eq_true q5] at h
  simp only [cond_true, List.mem_map] at h
  obtain ⟨p, hp, rfl⟩ := h
  obtain ⟨g, r, hl, hx⟩ := isX_head (by rw [q5]; decide) hv
  rw [q5] at hx
  have hb : pairsB W r = true := by
   have : headX W G hMap r = pairsB W r := by
    unfold headX
    simp [show ¬ hMap = hBits by decide, show ¬ hMap = hSeq by decide, show ¬ hMap = hSet by decide, show ¬ hMap = hBag by decide]
   rw [this] at hx; exact hx
  rw [hl] at hp
  exact (pr r hb p (by simpa using hp)).2
 rw [decide_eq_false q5] at h
 simp at h
end Go.Pl.Z
end
section
open Go Go.Pl Go.Proofs
namespace Go.Pl.Z
set_option maxRecDepth 100000
theorem kidsF_refs' (f : Fm) (p : Nat → Nat → Bool) : (kidsF f).refsB p := by
 unfold kidsF
 split
 ·simp only [V.refsB]; exact encs_refsB p _
 ·simp only [V.refsB, V.refsBs]
theorem r58 (f : Fm) (S : St) : Pl.Pure Tryz.prog 58 [enc f] S (kidsF f) := mkPure hm Tryz.func58 g58 c58 (Nat.le_of_ble_eq_true rfl) (kidsF_refs' f) (w58 _ f) S
theorem r28 (f : Fm) (S : St) : Pl.Pure Tryz.prog 28 [enc f] S (.str (headF f)) := mkPure hm Tryz.func28 g28 c28 (Nat.le_of_ble_eq_true rfl) (fun _ => by simp only [V.refsB]) (w28 _ f (r58 f)) S
theorem p33 (nl : Bool) (l : List Fm) (hl : l.length ≤ 1000000000) (hk : ∀ p ∈ l, 0 < p.kids.length) (S : St) : Pl.Pure Tryz.prog 33 [.sl nl 4 (encs l)] S (keyV (l.map fstF)) :=
 mkPure hm Tryz.func33 g33 c33 (Nat.le_of_ble_eq_true rfl) (keyV_refs _) (w33 _ nl l hl hk) S
theorem p61 (nl : Bool) (l : List Fm) (hl : l.length ≤ 1000000000) (hk : ∀ p ∈ l, 1 < p.kids.length) (S : St) : Pl.Pure Tryz.prog 61 [.sl nl 4 (encs l)] S (keyV (l.map sndF)) :=
 mkPure hm Tryz.func61 g61 c61 (Nat.le_of_ble_eq_true rfl) (keyV_refs _) (w61 _ nl l hl hk) S
theorem innerOf_length (a : Fm) : (innerOf a).length ≤ a.kids.length := by
 unfold innerOf
 cases decide (headF a = hData) <;> simp only [cond_true, cond_false]
 ·cases (decide (headF a = hSeq) || decide (headF a = hSet)) <;> simp only [cond_true, cond_false]
  ·cases decide (headF a = hBag) <;> simp only [cond_true, cond_false]
   ·cases decide (headF a = hMap) <;> simp
   ·simp
  ·simp
 ·simp
theorem p30 {G : (Fm → Bool) → List Fm → Bool} (hG : ∀ W W' r, (∀ g, fsize g < fsizes r + 5 → W g = W' g) → G W r = G W' r) (b : Fm) : ∀ (k : Nat) (a : Fm), fsize a ≤ k → Fine a → isV G a = true → ∀ S, Pl.Pure Tryz.prog 30 [enc b, enc a] S (.bool (withinN k b a))
 | 0, a, h, _, _, S => by have := fs_pos a; omega
 | k + 1, a, h, hf, hv, S => by
  have hx : isX (isV G) (G (isV G)) a = true := by rw [← isV_eq hG]; exact hv
  have ok := innerOk_of hx
  have hdl : (a.kids.drop 1).length ≤ 1000000000 := by have := hf.kids; simp; omega
  refine mkPure hm Tryz.func30 g30 c30 (Nat.le_of_ble_eq_true rfl) (qB _) (w30 _ b a (fun x => eqF x b || withinN k b x) ok hf.kids (r28 a) (fun hp S => p33 a.nl _ hdl (fun p hq => by have := hp p hq; omega) S) (fun hp S => p61 a.nl _ hdl hp S) (fun S i hok hS nl => ?_)) S
  refine p59v _ _ hm Tryz.func59 g59 c59 nl _ i _ S ?_
  refine p19 nl (innerOf a) 60 [.ref i 0 0] _ (Nat.le_trans (innerOf_length a) hf.kids) S (by simp only [V.refsBs, V.refsB, and_true]; exact hok) (fun x hxm => ?_)
  have hsz := innerOf_size ok hxm
  have hfx : Fine x := by simp only [Fine] at *; omega
  exact p60v _ _ hm Tryz.func60 g60 c60 b x _ i S hS (p20 x b hfx) (p30 hG b k x (by omega) hfx (isX_inner hx hxm))
end Go.Pl.Z
end
section
open Go Go.Pl Go.Proofs
namespace Go.Pl.Z
set_option maxRecDepth 100000
def keyS : List (List UInt8) → V
 | [] => .sl true 4 []
 | s :: r => .gr 9 false 1 ((s :: r).map .str)
theorem keyS_refs (l : List (List UInt8)) (p : Nat → Nat → Bool) : (keyS l).refsB p := by
 cases l with
 | nil => simp only [keyS, V.refsB, V.refsBs]
 | cons f r =>
  unfold keyS
  simp only [V.refsB]
  have : ∀ l : List (List UInt8), V.refsBs p (l.map .str) := fun l => by
   induction l with
   | nil => simp only [List.map, V.refsBs]
   | cons a r ih => simp only [List.map, V.refsBs, V.refsB]; exact ⟨trivial, ih⟩
  exact this _
theorem keyS_snoc (l : List (List UInt8)) (s : List UInt8) : keyS (l ++ [s]) = .gr 9 false 1 ((l ++ [s]).map .str) := by
 cases l <;> rfl
theorem w_appS {O : Ops} (hO : O = Ops.std) (l : List (List UInt8)) (s : List UInt8) : O.app (l.map V.str) [.str s] = (l ++ [s]).map .str := by
 subst hO; simp [Ops.std]
theorem w_fitS {O : Ops} (hO : O = Ops.std) (l : List (List UInt8)) (x : V) (hl : l.length ≤ 1000000000) : O.fit 16 (l.map V.str) [x] = true := w_fit hO ⟨by simp; omega, by simp; omega⟩
def namesX (N : List UInt8 → Bool) (f : Fm) (m : Int) : Except Int V :=
 bif listB f m then bif f.kids.all (nameFB N) then .ok (keyS (f.kids.map Fm.text)) else .error 4 else .error 4
theorem w167 (P : Program) (N : List UInt8 → Bool) (f : Fm) (m : Int) (hl : f.kids.length ≤ 1000000000) (h206 : ∀ S, Throws 95 P 206 [enc f, .int .i64 m] S (wantV (listB f m) (slV f)))
  (h165 : ∀ g ∈ f.kids, ∀ S, Throws 95 P 165 [enc g] S (wantV (nameFB N g) (.str g.text))) : WalksT 95 P F167 [enc f, .int .i64 m] (namesX N f m) := by
 intro H n b' c O hO hw
 have hv : namesX N f m = bif listB f m then bif f.kids.all (nameFB N) then .ok (keyS (f.kids.map Fm.text)) else .error 4 else .error 4 := rfl
 generalize namesX N f m = v at hv ⊢
 generalize listB f m = lb at h206 hv
 obtain ⟨k, q, t, nl, l⟩ := f
 simp only [Fm.kids, slV, Fm.nl, enc] at hl h206 h165 hv ⊢
 have hL := w_lenE hO l
 have gL := w_getE hO l
 obtain ⟨L, eL⟩ : ∃ L : Int, L = l.length := ⟨_, rfl⟩
 rw [← eL] at hL
 have rL := encs_refsB (frameS H n O hO []).ok l
 generalize encs l = xs at hL gL rL h206 ⊢
 cases lb
 ·simp only [cond_false] at hv
  subst hv
  (try cbv;repeat (simp only [w_same hO];try cbv))
  refine Throws.go (h206 _) ?_
  (try cbv;repeat (simp only [w_same hO];try cbv))
  (intro i k x hx;have hne:=WFS.ne hw i k x hx;first|exact hx|(simp (disch:=assumption) only [w_upd2_ne hO];exact hx))
 simp only [cond_true] at hv
 (try cbv;repeat (simp only [w_same hO];try cbv))
 refine Throws.go (h206 _) ?_
 (try cbv;repeat (simp only [w_same hO,hL];try cbv))
 refine AW_loopT (A := Nat × Int) (fun a => [(5, keyS ((l.take a.1).map Fm.text)), (10, .sl nl 4 xs), (11, .int .i64 L), (12, .int .i64 a.2)]) (fun _ => frameS H n O hO [])
  (fun a => a.2 = a.1 ∧ a.1 ≤ l.length ∧ (l.take a.1).all (nameFB N) = true) (fun a => l.length - a.1) (0, 0) ⟨rfl, Nat.zero_le _, rfl⟩
  (Drops.tab hw (Nat.le_refl _) [] (fun i k hne => by simp (disch := first | exact hne | decide) only [upd2_above hO]; rfl) trivial (by simp only [tabOk]; exact ⟨.inl rfl, keyS_refs _ _, .inl rfl, rL, .inl rfl, trivial, .inl rfl, trivial, trivial⟩)) ?_
 rintro ⟨i, j⟩ ⟨hj, hi, hall⟩ K hK
 simp only at hj hi hall hK ⊢
 replace hj : j = (i : Int) := hj
 replace eL : L = (l.length : Int) := eL
 by_cases hlt : i < l.length
 ·have e1 : O.ilt j L = true := w_ilt_t hO (by omega)
  have g1 : O.get xs j = some (enc l[i]) := gL i j hj hlt
  have hp := h165 l[i] (List.getElem_mem hlt)
  have hmem : l[i] ∈ l := List.getElem_mem hlt
  have htk : (l.take (i + 1)).map Fm.text = (l.take i).map Fm.text ++ [l[i].text] := by rw [List.take_add_one, List.getElem?_eq_getElem hlt]; simp only [Option.toList_some, List.map_append, List.map_cons, List.map_nil]
  have hall' : nameFB N l[i] = true → (l.take (i + 1)).all (nameFB N) = true := fun h => by
   rw [List.take_add_one, List.getElem?_eq_getElem hlt]
   simp only [Option.toList_some, List.all_append, hall, List.all_cons, h, List.all_nil, Bool.and_self]
  have hbad : nameFB N l[i] = false → v = .error 4 := fun h => by
   rw [hv]
   have : l.all (nameFB N) = false := by
    rw [List.all_eq_false]
    exact ⟨l[i], hmem, by rw [h]; simp⟩
   rw [this]; rfl
  have hlen : ((l.take i).map Fm.text).length ≤ 1000000000 := by simp; omega
  have hKn := fun σ' S' a' h1 h2 hal h3 => hK σ' S' (i + 1, a') (show l.length - (i + 1) < l.length - i by omega) ⟨h1, h2, hall' hal⟩ h3
  simp only [htk] at hKn
  clear hK gL htk h165 h206 hall hall' hmem hv
  generalize l[i] = f at g1 hp hKn hbad
  generalize (l.take i).map Fm.text = ks at hlen hKn ⊢
  generalize nameFB N f = nb at hp hbad hKn
  obtain ⟨fk, fm, ft, fn, fl⟩ := f
  simp only [Fm.text, enc] at g1 hp hKn
  generalize encs fl = us at g1 hp
  have hsn := keyS_snoc ks ft
  have ha := w_appS hO ks ft
  have hft := w_fitS hO ks (.str ft) hlen
  have rK : (keyS (ks ++ [ft])).refsB (frameS H n O hO []).ok := keyS_refs _ _
  rw [hsn] at rK
  simp only [hsn] at hKn
  generalize (ks ++ [ft]).map V.str = kx' at ha rK hKn
  have hgood : O.good 1 [.str ft] = true := w_good1 hO rfl rfl (by decide)
  obtain ⟨j', hj'⟩ : ∃ j', j' = j + 1 := ⟨_, rfl⟩
  have hadd := w_add hO (a := j) (b := 1) (by omega) (by omega)
  rw [← hj'] at hadd
  clear hsn
  cases nb
  ·have ev := hbad rfl
   subst ev
   cases ks with
   | nil =>
    simp only [keyS]
    (try cbv;repeat (simp only [w_same hO,e1,g1];try cbv))
    refine Throws.go (hp _) ?_
    (try cbv;repeat (simp only [w_same hO];try cbv))
    (intro i k x hx;have hne:=WFS.ne hw i k x hx;first|exact hx|(simp (disch:=assumption) only [w_upd2_ne hO];exact hx))
   | cons k0 kr =>
    simp only [keyS]
    generalize (k0 :: kr).map V.str = kx
    (try cbv;repeat (simp only [w_same hO,e1,g1];try cbv))
    refine Throws.go (hp _) ?_
    (try cbv;repeat (simp only [w_same hO];try cbv))
    (intro i k x hx;have hne:=WFS.ne hw i k x hx;first|exact hx|(simp (disch:=assumption) only [w_upd2_ne hO];exact hx))
  cases ks with
  | nil =>
   simp only [List.map_nil] at ha hft
   simp only [keyS]
   (try cbv;repeat (simp only [w_same hO,e1,g1];try cbv))
   refine Throws.go (hp _) ?_
   (try cbv;repeat (simp only [w_same hO,hgood,hadd,ha,hft,w_emp_c hO];try cbv))
   replace hj' : j' = j + 1 := hj'
   replace hj : j = (i : Int) := hj
   refine hKn _ _ j' (by omega : j' = ((i + 1 : Nat) : Int)) (by omega) rfl (Drops.tab hw (Nat.le_refl _) [] (fun i k hne => ?_) trivial (by simp only [tabOk]; exact ⟨.inl rfl, rK, .inl rfl, rL, .inl rfl, trivial, .inl rfl, trivial, trivial⟩))
   simp (disch := first | exact hne | decide) only [upd2_above hO]; rfl
  | cons k0 kr =>
   simp only [keyS]
   generalize (k0 :: kr).map V.str = kx at ha hft ⊢
   (try cbv;repeat (simp only [w_same hO,e1,g1];try cbv))
   refine Throws.go (hp _) ?_
   (try cbv;repeat (simp only [w_same hO,hgood,hadd,ha,hft];try cbv))
   replace hj' : j' = j + 1 := hj'
   replace hj : j = (i : Int) := hj
   refine hKn _ _ j' (by omega : j' = ((i + 1 : Nat) : Int)) (by omega) rfl (Drops.tab hw (Nat.le_refl _) [] (fun i k hne => ?_) trivial (by simp only [tabOk]; exact ⟨.inl rfl, rK, .inl rfl, rL, .inl rfl, trivial, .inl rfl, trivial, trivial⟩))
   simp (disch := first | exact hne | decide) only [upd2_above hO]; rfl
 ·have e1 : O.ilt j L = false := w_ilt_f hO (by omega)
  have : l.take i = l := List.take_of_length_le (by omega)
  rw [this] at hall ⊢
  rw [hall] at hv
  simp only [cond_true] at hv
  subst hv
  generalize l.map Fm.text = ks
  cases ks with
  | nil =>
   simp only [keyS]
   (try cbv;repeat (simp only [w_same hO,e1];try cbv))
   (intro i k x hx;have hne:=WFS.ne hw i k x hx;first|exact hx|(simp (disch:=assumption) only [w_upd2_ne hO];exact hx))
  | cons k0 kr =>
   simp only [keyS]
   generalize (k0 :: kr).map V.str = kx
   (try cbv;repeat (simp only [w_same hO,e1];try cbv))
   (intro i k x hx;have hne:=WFS.ne hw i k x hx;first|exact hx|(simp (disch:=assumption) only [w_upd2_ne hO];exact hx))
end Go.Pl.Z
end
section
open Go Go.Pl Go.Proofs
namespace Go.Pl.Z
set_option maxRecDepth 100000
def typedB (N : List UInt8 → Bool) (p : Fm) : Bool := exactB p 2 && (nameFB N (fstF p) && kindB (sndF p))
def typedX (N : List UInt8 → Bool) (f : Fm) (m : Int) : Except Int V :=
 bif listB f m then bif f.kids.all (typedB N) then .ok (keyS (f.kids.map fun p => (fstF p).text)) else .error 4 else .error 4
set_option maxHeartbeats 1000000 in
theorem w169 (P : Program) (N : List UInt8 → Bool) (f : Fm) (m : Int) (hl : f.kids.length ≤ 1000000000) (h206 : ∀ S, Throws 95 P 206 [enc f, .int .i64 m] S (wantV (listB f m) (slV f)))
  (h164 : ∀ g ∈ f.kids, ∀ S, Throws 95 P 164 [enc g, .int .i64 2] S (wantV (exactB g 2) (slV g)))
  (h165 : ∀ p ∈ f.kids, ∀ g ∈ p.kids, ∀ S, Throws 95 P 165 [enc g] S (wantV (nameFB N g) (.str g.text))) (h211 : ∀ p ∈ f.kids, ∀ g ∈ p.kids, ∀ S, Throws 95 P 211 [enc g] S (wantV (kindB g) (.tup []))) :
  WalksT 95 P F169 [enc f, .int .i64 m] (typedX N f m) := by
 intro H n b' c O hO hw
 have hv : typedX N f m = bif listB f m then bif f.kids.all (typedB N) then .ok (keyS (f.kids.map fun p => (fstF p).text)) else .error 4 else .error 4 := rfl
 generalize typedX N f m = v at hv ⊢
 generalize listB f m = lb at h206 hv
 obtain ⟨k, q, t, nl, l⟩ := f
 simp only [Fm.kids, Fm.nl, enc] at hl h206 h165 h164 h211 hv ⊢
 simp only [slV, Fm.kids, Fm.nl] at h206
 have hL := w_lenE hO l
 have gL := w_getE hO l
 obtain ⟨L, eL⟩ : ∃ L : Int, L = l.length := ⟨_, rfl⟩
 rw [← eL] at hL
 have rL := encs_refsB (frameS H n O hO []).ok l
 generalize encs l = xs at hL gL rL h206 ⊢
 cases lb
 ·simp only [cond_false] at hv
  subst hv
  (try cbv;repeat (simp only [w_same hO];try cbv))
  refine Throws.go (h206 _) ?_
  (try cbv;repeat (simp only [w_same hO];try cbv))
  (intro i k x hx;have hne:=WFS.ne hw i k x hx;first|exact hx|(simp (disch:=assumption) only [w_upd2_ne hO];exact hx))
 simp only [cond_true] at hv
 (try cbv;repeat (simp only [w_same hO];try cbv))
 refine Throws.go (h206 _) ?_
 (try cbv;repeat (simp only [w_same hO,hL];try cbv))
 refine AW_loopT (A := Nat × Int) (fun a => [(5, keyS ((l.take a.1).map fun p => (fstF p).text)), (11, .sl nl 4 xs), (12, .int .i64 L), (13, .int .i64 a.2)]) (fun _ => frameS H n O hO [])
  (fun a => a.2 = a.1 ∧ a.1 ≤ l.length ∧ (l.take a.1).all (typedB N) = true) (fun a => l.length - a.1) (0, 0) ⟨rfl, Nat.zero_le _, rfl⟩
  (Drops.tab hw (Nat.le_refl _) [] (fun i k hne => by simp (disch := first | exact hne | decide) only [upd2_above hO]; rfl) trivial (by simp only [tabOk]; exact ⟨.inl rfl, keyS_refs _ _, .inl rfl, rL, .inl rfl, trivial, .inl rfl, trivial, trivial⟩)) ?_
 rintro ⟨i, j⟩ ⟨hj, hi, hall⟩ K hK
 simp only at hj hi hall hK ⊢
 replace hj : j = (i : Int) := hj
 replace eL : L = (l.length : Int) := eL
 by_cases hlt : i < l.length
 ·have e1 : O.ilt j L = true := w_ilt_t hO (by omega)
  have g1 : O.get xs j = some (enc l[i]) := gL i j hj hlt
  have hx := h164 l[i] (List.getElem_mem hlt)
  have hp := h165 l[i] (List.getElem_mem hlt)
  have hd := h211 l[i] (List.getElem_mem hlt)
  have hmem : l[i] ∈ l := List.getElem_mem hlt
  have htk : ((l.take (i + 1)).map fun p => (fstF p).text) = ((l.take i).map fun p => (fstF p).text) ++ [(fstF l[i]).text] := by rw [List.take_add_one, List.getElem?_eq_getElem hlt]; simp only [Option.toList_some, List.map_append, List.map_cons, List.map_nil]
  have hall' : typedB N l[i] = true → (l.take (i + 1)).all (typedB N) = true := fun h => by
   rw [List.take_add_one, List.getElem?_eq_getElem hlt]
   simp only [Option.toList_some, List.all_append, hall, List.all_cons, h, List.all_nil, Bool.and_self]
  have hbad : typedB N l[i] = false → v = .error 4 := fun h => by
   rw [hv]
   have : l.all (typedB N) = false := by
    rw [List.all_eq_false]
    exact ⟨l[i], hmem, by rw [h]; simp⟩
   rw [this]; rfl
  have hlen : ((l.take i).map fun p => (fstF p).text).length ≤ 1000000000 := by simp; omega
  have hKn := fun σ' S' a' h1 h2 hal h3 => hK σ' S' (i + 1, a') (show l.length - (i + 1) < l.length - i by omega) ⟨h1, h2, hall' hal⟩ h3
  simp only [htk] at hKn
  clear hK gL htk h165 h164 h211 h206 hall hall' hmem hv
  generalize l[i] = f at g1 hp hx hd hKn hbad
  generalize ((l.take i).map fun p => (fstF p).text) = ks at hlen hKn ⊢
  have et : typedB N f = (exactB f 2 && (nameFB N (fstF f) && kindB (sndF f))) := rfl
  rw [et] at hbad hKn
  clear et
  obtain ⟨j', hj'⟩ : ∃ j', j' = j + 1 := ⟨_, rfl⟩
  have hadd := w_add hO (a := j) (b := 1) (by omega) (by omega)
  rw [← hj'] at hadd
  cases hex : exactB f 2
  ·rw [hex] at hx hbad
   have ev := hbad rfl
   subst ev
   obtain ⟨fk, fm, ft, fn, fl⟩ := f
   simp only [enc, slV, Fm.kids, Fm.nl] at g1 hx
   generalize encs fl = us at g1 hx
   clear hp hd hKn hbad
   cases ks with
   | nil =>
    simp only [keyS]
    (try cbv;repeat (simp only [w_same hO,e1,g1];try cbv))
    refine Throws.go (hx _) ?_
    (try cbv;repeat (simp only [w_same hO];try cbv))
    (intro i k x hx;have hne:=WFS.ne hw i k x hx;first|exact hx|(simp (disch:=assumption) only [w_upd2_ne hO];exact hx))
   | cons k0 kr =>
    simp only [keyS]
    generalize (k0 :: kr).map V.str = kx
    (try cbv;repeat (simp only [w_same hO,e1,g1];try cbv))
    refine Throws.go (hx _) ?_
    (try cbv;repeat (simp only [w_same hO];try cbv))
    (intro i k x hx;have hne:=WFS.ne hw i k x hx;first|exact hx|(simp (disch:=assumption) only [w_upd2_ne hO];exact hx))
  rw [hex] at hx hbad hKn
  simp only [Bool.true_and] at hbad hKn
  have hl2 := exactB_len (m := 2) hex
  obtain ⟨fk, fm, ft, fn, fl⟩ := f
  simp only [Fm.kids] at hl2
  obtain ⟨g, y, r, hfl⟩ := two_kids (show 1 < fl.length by omega)
  subst hfl
  have hpg := hp g (by simp [Fm.kids])
  have hdy := hd y (by simp [Fm.kids])
  have ef : fstF (.mk fk fm ft fn (g :: y :: r)) = g := rfl
  have es : sndF (.mk fk fm ft fn (g :: y :: r)) = y := rfl
  rw [ef, es] at hbad hKn
  clear hp hd ef es hex hl2
  generalize nameFB N g = nb at hpg hbad hKn
  generalize kindB y = kb at hdy hbad hKn
  simp only [enc, encs, slV, Fm.kids, Fm.nl] at g1 hx
  obtain ⟨gk, gm, gt, gn, gl⟩ := g
  obtain ⟨yk, ym, yt, yn, yl⟩ := y
  simp only [enc, Fm.text] at g1 hx hpg hdy hKn
  have hsn := keyS_snoc ks gt
  have ha := w_appS hO ks gt
  have hft := w_fitS hO ks (.str gt) hlen
  have rK : (keyS (ks ++ [gt])).refsB (frameS H n O hO []).ok := keyS_refs _ _
  rw [hsn] at rK
  simp only [hsn] at hKn
  generalize (ks ++ [gt]).map V.str = kx' at ha rK hKn
  generalize encs r = rs at g1 hx
  generalize encs gl = gs at g1 hx hpg
  generalize encs yl = us at g1 hx hdy
  have g2 := w_get0 hO (.agg [.int .i64 gk, .int .i64 gm, .str gt, .sl gn 4 gs]) (.agg [.int .i64 yk, .int .i64 ym, .str yt, .sl yn 4 us] :: rs)
  have g3 := w_get1 hO (.agg [.int .i64 gk, .int .i64 gm, .str gt, .sl gn 4 gs]) (.agg [.int .i64 yk, .int .i64 ym, .str yt, .sl yn 4 us]) rs
  have hgood : O.good 1 [.str gt] = true := w_good1 hO rfl rfl (by decide)
  clear hsn
  cases nb
  ·have ev := hbad rfl
   subst ev
   cases ks with
   | nil =>
    simp only [keyS]
    (try cbv;repeat (simp only [w_same hO,e1,g1];try cbv))
    refine Throws.go (hx _) ?_
    (try cbv;repeat (simp only [w_same hO,g2];try cbv))
    refine Throws.go (hpg _) ?_
    (try cbv;repeat (simp only [w_same hO];try cbv))
    (intro i k x hx;have hne:=WFS.ne hw i k x hx;first|exact hx|(simp (disch:=assumption) only [w_upd2_ne hO];exact hx))
   | cons k0 kr =>
    simp only [keyS]
    generalize (k0 :: kr).map V.str = kx
    (try cbv;repeat (simp only [w_same hO,e1,g1];try cbv))
    refine Throws.go (hx _) ?_
    (try cbv;repeat (simp only [w_same hO,g2];try cbv))
    refine Throws.go (hpg _) ?_
    (try cbv;repeat (simp only [w_same hO];try cbv))
    (intro i k x hx;have hne:=WFS.ne hw i k x hx;first|exact hx|(simp (disch:=assumption) only [w_upd2_ne hO];exact hx))
  cases ks with
  | nil =>
   simp only [List.map_nil] at ha hft
   simp only [keyS]
   (try cbv;repeat (simp only [w_same hO,e1,g1];try cbv))
   refine Throws.go (hx _) ?_
   (try cbv;repeat (simp only [w_same hO,g2];try cbv))
   refine Throws.go (hpg _) ?_
   (try cbv;repeat (simp only [w_same hO,hgood,ha,hft,w_emp_c hO,g3];try cbv))
   refine Throws.go (hdy _) ?_
   cases kb
   ·have ev := hbad rfl
    subst ev
    (try cbv;repeat (simp only [w_same hO];try cbv))
    (intro i k x hx;have hne:=WFS.ne hw i k x hx;first|exact hx|(simp (disch:=assumption) only [w_upd2_ne hO];exact hx))
   (try cbv;repeat (simp only [w_same hO,hadd];try cbv))
   replace hj' : j' = j + 1 := hj'
   replace hj : j = (i : Int) := hj
   refine hKn _ _ j' (by omega : j' = ((i + 1 : Nat) : Int)) (by omega) rfl (Drops.tab hw (Nat.le_refl _) [] (fun i k hne => ?_) trivial (by simp only [tabOk]; exact ⟨.inl rfl, rK, .inl rfl, rL, .inl rfl, trivial, .inl rfl, trivial, trivial⟩))
   simp (disch := first | exact hne | decide) only [upd2_above hO]; rfl
  | cons k0 kr =>
   simp only [keyS]
   generalize (k0 :: kr).map V.str = kx at ha hft ⊢
   (try cbv;repeat (simp only [w_same hO,e1,g1];try cbv))
   refine Throws.go (hx _) ?_
   (try cbv;repeat (simp only [w_same hO,g2];try cbv))
   refine Throws.go (hpg _) ?_
   (try cbv;repeat (simp only [w_same hO,hgood,ha,hft,g3];try cbv))
   refine Throws.go (hdy _) ?_
   cases kb
   ·have ev := hbad rfl
    subst ev
    (try cbv;repeat (simp only [w_same hO];try cbv))
    (intro i k x hx;have hne:=WFS.ne hw i k x hx;first|exact hx|(simp (disch:=assumption) only [w_upd2_ne hO];exact hx))
   (try cbv;repeat (simp only [w_same hO,hadd];try cbv))
   replace hj' : j' = j + 1 := hj'
   replace hj : j = (i : Int) := hj
   refine hKn _ _ j' (by omega : j' = ((i + 1 : Nat) : Int)) (by omega) rfl (Drops.tab hw (Nat.le_refl _) [] (fun i k hne => ?_) trivial (by simp only [tabOk]; exact ⟨.inl rfl, rK, .inl rfl, rL, .inl rfl, trivial, .inl rfl, trivial, trivial⟩))
   simp (disch := first | exact hne | decide) only [upd2_above hO]; rfl
 ·have e1 : O.ilt j L = false := w_ilt_f hO (by omega)
  have : l.take i = l := List.take_of_length_le (by omega)
  rw [this] at hall ⊢
  rw [hall] at hv
  simp only [cond_true] at hv
  subst hv
  generalize (l.map fun p => (fstF p).text) = ks
  cases ks with
  | nil =>
   simp only [keyS]
   (try cbv;repeat (simp only [w_same hO,e1];try cbv))
   (intro i k x hx;have hne:=WFS.ne hw i k x hx;first|exact hx|(simp (disch:=assumption) only [w_upd2_ne hO];exact hx))
  | cons k0 kr =>
   simp only [keyS]
   generalize (k0 :: kr).map V.str = kx
   (try cbv;repeat (simp only [w_same hO,e1];try cbv))
   (intro i k x hx;have hne:=WFS.ne hw i k x hx;first|exact hx|(simp (disch:=assumption) only [w_upd2_ne hO];exact hx))
end Go.Pl.Z
end
section
open Go Go.Pl Go.Proofs
namespace Go.Pl.Z
set_option maxRecDepth 100000
def hOf : List UInt8 := [111, 102]
def ofX (nl : Bool) : List Fm → Except Int V
 | [] => .ok (.sl nl 4 [])
 | f :: r => bif decide (headF f = hOf) then (bif listB f 2 then bif (f.kids.drop 1).all kindB then .ok (.sl nl 4 (encs r)) else .error 4 else .error 4) else .ok (.sl nl 4 (encs (f :: r)))
set_option maxHeartbeats 1000000 in
theorem w170 (P : Program) (nl : Bool) (l : List Fm) (hl : ∀ f ∈ l, f.kids.length ≤ 1000000000) (h28 : ∀ f ∈ l, ∀ S, Pl.Pure P 28 [enc f] S (.str (headF f)))
  (h206 : ∀ f ∈ l, ∀ S, Throws 95 P 206 [enc f, .int .i64 2] S (wantV (listB f 2) (slV f))) (h211 : ∀ f ∈ l, ∀ g ∈ f.kids, ∀ S, Throws 95 P 211 [enc g] S (wantV (kindB g) (.tup []))) :
  WalksT 95 P F170 [.sl nl 4 (encs l)] (ofX nl l) := by
 intro H n b' c O hO hw
 have hL := w_lenE hO l
 obtain ⟨L, eL⟩ : ∃ L : Int, L = l.length := ⟨_, rfl⟩
 rw [← eL] at hL
 cases l with
 | nil =>
  simp only [ofX]
  have e1 : O.ilt 0 L = false := w_ilt_f hO (by simp at eL; omega)
  simp only [encs] at hL ⊢
  (try cbv;repeat (simp only [w_same hO,hL,e1];try cbv))
  (intro i k x hx;have hne:=WFS.ne hw i k x hx;first|exact hx|(simp (disch:=assumption) only [w_upd2_ne hO];exact hx))
 | cons f r =>
  have hv : ofX nl (f :: r) = bif decide (headF f = hOf) then (bif listB f 2 then bif (f.kids.drop 1).all kindB then .ok (.sl nl 4 (encs r)) else .error 4 else .error 4) else .ok (.sl nl 4 (encs (f :: r))) := rfl
  generalize ofX nl (f :: r) = v at hv ⊢
  have e1 : O.ilt 0 L = true := w_ilt_t hO (by simp at eL; omega)
  have hc := v_cutE hO (f :: r) 1 L 1 rfl eL (by simp)
  simp only [List.drop_succ_cons, List.drop_zero] at hc
  have q28 := h28 f List.mem_cons_self
  have q206 := h206 f List.mem_cons_self
  have q211 := h211 f List.mem_cons_self
  have ql := hl f List.mem_cons_self
  have g0 := w_getE hO (f :: r) 0 0 rfl (by simp)
  simp only [List.getElem_cons_zero] at g0
  have rL := encs_refsB (frameS H n O hO []).ok (f :: r)
  clear h28 h206 h211 hl
  generalize encs (f :: r) = xs at hL hc g0 rL hv ⊢
  generalize encs r = rs at hc hv
  have t1 := v_seq hO (headF f) hOf
  generalize headF f = hd at q28 t1 hv
  obtain ⟨fk, fm, ft, fn, fl⟩ := f
  simp only [Fm.kids] at ql q211 hv
  simp only [slV, Fm.nl, Fm.kids] at q206
  simp only [enc] at g0 q28 q206
  generalize decide (hd = hOf) = d at t1 hv
  unfold hOf at t1
  cases d
  ·simp only [cond_false] at hv
   subst hv
   generalize encs fl = us at g0 q28
   (try cbv;repeat (simp only [w_same hO,hL,e1,g0];try cbv))
   refine Pure.go (q28 _) ?_
   (try cbv;repeat (simp only [w_same hO,t1];try cbv))
   (intro i k x hx;have hne:=WFS.ne hw i k x hx;first|exact hx|(simp (disch:=assumption) only [w_upd2_ne hO];exact hx))
  simp only [cond_true] at hv
  have hlist : listB (.mk fk fm ft fn fl) 2 = true → 2 ≤ fl.length := fun h => by
   have h2 := of_decide_eq_true ((Bool.and_eq_true _ _).mp h).2
   simp only [Fm.kids] at h2
   omega
  generalize listB (.mk fk fm ft fn fl) 2 = lb at q206 hv hlist
  have lU := w_lenE hO fl
  obtain ⟨LU, eLU⟩ : ∃ L : Int, L = fl.length := ⟨_, rfl⟩
  rw [← eLU] at lU
  have cU : 1 ≤ fl.length → O.cut (encs fl) 1 LU = some (encs (fl.drop 1)) := fun h => v_cutE hO fl 1 LU 1 rfl eLU h
  generalize encs fl = us at g0 q28 q206 lU cU
  cases lb
  ·simp only [cond_false] at hv
   subst hv
   (try cbv;repeat (simp only [w_same hO,hL,e1,g0];try cbv))
   refine Pure.go (q28 _) ?_
   (try cbv;repeat (simp only [w_same hO,t1,g0];try cbv))
   refine Throws.go (q206 _) ?_
   (try cbv;repeat (simp only [w_same hO];try cbv))
   (intro i k x hx;have hne:=WFS.ne hw i k x hx;first|exact hx|(simp (disch:=assumption) only [w_upd2_ne hO];exact hx))
  simp only [cond_true] at hv
  have cu := cU (by have := hlist rfl; omega)
  clear cU hlist
  have q211' : ∀ g ∈ fl.drop 1, ∀ S, Throws 95 P 211 [enc g] S (wantV (kindB g) (.tup [])) := fun g hg => q211 g (List.mem_of_mem_drop hg)
  have ql' : (fl.drop 1).length ≤ 1000000000 := by simp; omega
  clear q211 ql eLU
  generalize fl.drop 1 = ks at cu q211' ql' hv
  have lK := w_lenE hO ks
  have gK := w_getE hO ks
  obtain ⟨LK, eLK⟩ : ∃ L : Int, L = ks.length := ⟨_, rfl⟩
  rw [← eLK] at lK
  have rK := encs_refsB (frameS H n O hO []).ok ks
  generalize encs ks = ys at cu lK gK rK
  (try cbv;repeat (simp only [w_same hO,hL,e1,g0];try cbv))
  refine Pure.go (q28 _) ?_
  (try cbv;repeat (simp only [w_same hO,t1,g0];try cbv))
  refine Throws.go (q206 _) ?_
  (try cbv;repeat (simp only [w_same hO,lU,cu,lK];try cbv))
  refine AW_loopT (A := Nat × Int) (fun a => [(0, .sl nl 4 xs), (19, .sl fn 4 ys), (20, .int .i64 LK), (21, .int .i64 a.2)]) (fun _ => frameS H n O hO [])
   (fun a => a.2 = a.1 ∧ a.1 ≤ ks.length ∧ (ks.take a.1).all kindB = true) (fun a => ks.length - a.1) (0, 0) ⟨rfl, Nat.zero_le _, rfl⟩
   (Drops.tab hw (Nat.le_refl _) [] (fun i k hne => rfl) trivial (by simp only [tabOk, V.refsB]; exact ⟨.inl rfl, rL, .inl rfl, rK, .inl rfl, trivial, .inl rfl, trivial, trivial⟩)) ?_
  rintro ⟨i, j⟩ ⟨hj, hi, hall⟩ K hK
  simp only at hj hi hall hK ⊢
  replace hj : j = (i : Int) := hj
  replace eLK : LK = (ks.length : Int) := eLK
  by_cases hlt : i < ks.length
  ·have e2 : O.ilt j LK = true := w_ilt_t hO (by omega)
   have g1 : O.get ys j = some (enc ks[i]) := gK i j hj hlt
   have hp := q211' ks[i] (List.getElem_mem hlt)
   have hmem : ks[i] ∈ ks := List.getElem_mem hlt
   have hall' : kindB ks[i] = true → (ks.take (i + 1)).all kindB = true := fun h => by
    rw [List.take_add_one, List.getElem?_eq_getElem hlt]
    simp only [Option.toList_some, List.all_append, hall, List.all_cons, h, List.all_nil, Bool.and_self]
   have hbad : kindB ks[i] = false → v = .error 4 := fun h => by
    rw [hv]
    have : ks.all kindB = false := by
     rw [List.all_eq_false]
     exact ⟨ks[i], hmem, by rw [h]; simp⟩
    rw [this]; rfl
   clear gK q211' q206 q28 hmem hv hall
   generalize ks[i] = g at g1 hp hall' hbad
   generalize kindB g = kb at hp hall' hbad
   obtain ⟨gk, gm, gt, gn, gl⟩ := g
   simp only [enc] at g1 hp
   generalize encs gl = gs at g1 hp
   obtain ⟨j', hj'⟩ : ∃ j', j' = j + 1 := ⟨_, rfl⟩
   have hadd := w_add hO (a := j) (b := 1) (by omega) (by omega)
   rw [← hj'] at hadd
   cases kb
   ·have ev := hbad rfl
    subst ev
    (try cbv;repeat (simp only [w_same hO,e2,g1];try cbv))
    refine Throws.go (hp _) ?_
    (try cbv;repeat (simp only [w_same hO];try cbv))
    (intro i k x hx;have hne:=WFS.ne hw i k x hx;first|exact hx|(simp (disch:=assumption) only [w_upd2_ne hO];exact hx))
   ·(try cbv;repeat (simp only [w_same hO,e2,g1];try cbv))
    refine Throws.go (hp _) ?_
    (try cbv;repeat (simp only [w_same hO,hadd];try cbv))
    replace hj' : j' = j + 1 := hj'
    replace hj : j = (i : Int) := hj
    refine hK _ _ (i + 1, j') (by show ks.length - (i + 1) < ks.length - i; omega) ⟨(by omega : j' = ((i + 1 : Nat) : Int)), (by omega : i + 1 ≤ ks.length), hall' rfl⟩
     (Drops.tab hw (Nat.le_refl _) [] (fun i k hne => ?_) trivial (by simp only [tabOk, V.refsB]; exact ⟨.inl rfl, rL, .inl rfl, rK, .inl rfl, trivial, .inl rfl, trivial, trivial⟩))
    simp (disch := first | exact hne | decide) only [upd2_above hO]; rfl
  ·have e2 : O.ilt j LK = false := w_ilt_f hO (by omega)
   have : ks.take i = ks := List.take_of_length_le (by omega)
   rw [this] at hall
   rw [hall] at hv
   simp only [cond_true] at hv
   subst hv
   (try cbv;repeat (simp only [w_same hO,e2,hL,hc];try cbv))
   (intro i k x hx;have hne:=WFS.ne hw i k x hx;first|exact hx|(simp (disch:=assumption) only [w_upd2_ne hO];exact hx))
end Go.Pl.Z
end
