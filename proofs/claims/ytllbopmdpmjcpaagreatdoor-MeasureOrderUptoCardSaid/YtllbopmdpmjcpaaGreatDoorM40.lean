import Derived.Test.YtllbopmdpmjcpaaGreatDoorM27
import Derived.Test.YtllbopmdpmjcpaaGreatDoorM39
set_option linter.unusedSimpArgs false
set_option linter.unusedVariables false
set_option linter.unusedSectionVars false
section
open Go Go.Pl Go.Pl.Z
namespace Go.Pl.L
mutual
def LeafAll : Fm → Prop
 | .mk k n t b l => leafB (.mk k n t b l) = true ∧ LeafsAll l
def LeafsAll : List Fm → Prop
 | [] => True
 | f :: r => LeafAll f ∧ LeafsAll r
end
theorem LeafsAll.of : ∀ {l : List Fm}, (∀ f ∈ l, LeafAll f) → LeafsAll l
 | [], _ => trivial
 | _ :: _, h => ⟨h _ (by simp), LeafsAll.of fun f hf => h f (by simp [hf])⟩
theorem LeafsAll.mem : ∀ {l : List Fm}, LeafsAll l → ∀ f ∈ l, LeafAll f
 | a :: r, h, f, hf => by
  simp only [LeafsAll] at h
  rcases List.mem_cons.1 hf with rfl | hf
  ·exact h.1
  ·exact h.2.mem f hf
theorem LeafAll.kid {f g : Fm} (h : LeafAll f) (hg : g ∈ f.kids) : LeafAll g := by
 obtain ⟨k, n, t, b, l⟩ := f
 simp only [LeafAll] at h
 exact h.2.mem g hg
theorem LeafAll.leaf {f : Fm} (h : LeafAll f) : leafB f = true := by
 obtain ⟨k, n, t, b, l⟩ := f
 simp only [LeafAll] at h
 exact h.1
theorem leaf_noKids {f : Fm} (h : leafB f = true) (hk : f.kind ≠ 3) : f.kids = [] := by
 unfold leafB at h
 have e : ∀ {x : Fm}, noKids x = true → x.kids = [] := fun {x} h => by
  unfold noKids at h
  simp only [decide_eq_true_eq] at h
  exact List.eq_nil_of_length_eq_zero (by omega)
 split at h
 ·simp only [Bool.and_eq_true] at h; exact e h.1.1.2
 split at h
 ·simp only [Bool.and_eq_true] at h; exact e h.2
 split at h
 ·simp only [Bool.and_eq_true] at h; exact e h.2
 cases h
mutual
theorem validF_all : ∀ (f : Fm) (p d : Int), (validF p d f).1 = true → LeafAll f
 | .mk k n t b l, p, d, h => by
  simp only [validF] at h
  split at h
  ·cases h
  ·rename_i hc
   simp only [LeafAll]
   exact ⟨by cases e : leafB (.mk k n t b l) with
    | true => rfl
    | false => exact (hc (.inr (.inr e))).elim, validL_all l _ _ h⟩
theorem validL_all : ∀ (l : List Fm) (p d : Int), (validL p d l).1 = true → LeafsAll l
 | [], _, _, _ => trivial
 | f :: r, p, d, h => by
  simp only [validL] at h
  split at h
  ·rename_i hf
   exact ⟨validF_all f p d hf, validL_all r _ _ h⟩
  ·cases h
end
mutual
theorem validF_same : ∀ {f g : Fm} (p d : Int), LeafAll f → LeafAll g → Same f g → validF p d f = validF p d g
 | .mk k n t b l, .mk k' n' t' b' l', p, d, h1, h2, h => by
  obtain ⟨e1, e2, e3, e4⟩ := (same_iff ..).1 h
  subst e1
  have a1 := h1.leaf
  have a2 := h2.leaf
  simp only [validF, a1, a2]
  by_cases hk : k = 3
  ·simp only [LeafAll] at h1 h2
   rw [validL_same _ _ h1.2 h2.2 (e4 hk)]
  ·have b1 := leaf_noKids a1 hk
   have b2 := leaf_noKids a2 hk
   simp only [Fm.kids] at b1 b2
   rw [b1, b2]
theorem validL_same : ∀ {l m : List Fm} (p d : Int), LeafsAll l → LeafsAll m → Sames l m → validL p d l = validL p d m
 | [], [], _, _, _, _, _ => rfl
 | [], b :: s, _, _, _, _, h => absurd h (sames_nc b s)
 | a :: r, [], _, _, _, _, h => absurd h (sames_cn a r)
 | a :: r, b :: s, p, d, h1, h2, h => by
  obtain ⟨e1, e2⟩ := (sames_cons ..).1 h
  simp only [LeafsAll] at h1 h2
  simp only [validL, validF_same p d h1.1 h2.1 e1, validL_same _ d h1.2 h2.2 e2]
end
theorem validB_all {f : Fm} (h : validB f = true) : LeafAll f := validF_all f _ _ h
theorem validB_same {f g : Fm} (h1 : LeafAll f) (h2 : LeafAll g) (h : Same f g) : validB f = validB g := by
 unfold validB
 rw [validF_same _ _ h1 h2 h]
def limB (f : Fm) : Bool := decide (sizeF f ≤ 2000) && validB f
theorem isOk_v {f : Fm} (h : isOk fnG f = true) : validB f = true ∧ Vl f := by
 unfold isOk at h
 exact (Bool.and_eq_true _ _).mp h
theorem bagL_of {f : Fm} (h : Vl f) (hh : headF f = hBag) : BagL (f.kids.drop 1) := by
 obtain ⟨h1, h2⟩ := bag_pairs hh h.x
 unfold pairsB at h1
 simp only [Bool.and_eq_true] at h1
 have ha := asc_lt _ h1.2
 rw [List.pairwise_map] at ha
 refine ⟨ha, fun p hp => ?_⟩
 obtain ⟨k, l2⟩ := pairsB_pair (bag_pairs hh h.x).1 p hp
 have hb := h2 p hp
 unfold bagBad at hb
 simp only [Bool.or_eq_false_iff, Bool.not_eq_false', decide_eq_true_eq, decide_eq_false_iff_not] at hb
 match hks : p.kids, l2 with
 | [x, y], _ =>
  have e : sndF p = y := by unfold sndF; rw [hks]; rfl
  rw [e] at hb
  exact ⟨k, x, y, hks, hb.1, by omega⟩
theorem leaf_num {f : Fm} (h : leafB f = true) (hk : f.kind = 0) : -1152921504606846976 ≤ f.n ∧ f.n ≤ 1152921504606846976 := by
 unfold leafB at h
 rw [if_pos hk] at h
 simp only [Bool.and_eq_true, decide_eq_true_eq] at h
 exact ⟨h.1.2, h.2⟩
theorem leaf_numF {n : Int} (h1 : 0 ≤ n) (h2 : n ≤ 1152921504606846976) : LeafAll (numF n) := by
 refine ⟨?_, trivial⟩
 have e : leafB (.mk 0 n [] true []) = (decide (-1152921504606846976 ≤ n) && decide (n ≤ 1152921504606846976)) := rfl
 rw [e, Bool.and_eq_true, decide_eq_true_eq, decide_eq_true_eq]
 omega
theorem good_bag : goodWord bagW = true := by
 unfold goodWord
 decide
theorem leaf_bag : LeafAll (wordF bagW) := by
 refine ⟨?_, trivial⟩
 unfold leafB noKids
 simp [Fm.kind, Fm.text, Fm.kids, Fm.n]
 exact good_bag
theorem leaf_list {b : Bool} {l : List Fm} (h : ∀ f ∈ l, LeafAll f) : LeafAll (listF b l) := by
 refine ⟨?_, LeafsAll.of h⟩
 unfold leafB
 simp [Fm.kind, Fm.text, Fm.n]
theorem fst_kid {p : Fm} (h : Cnt p) : fstF p ∈ p.kids ∧ sndF p ∈ p.kids ∧ (sndF p).kind = 0 := by
 obtain ⟨k, c, e, h1, h2⟩ := h.two
 unfold fstF sndF
 rw [e]
 exact ⟨by simp, by simp, h1⟩
theorem leaf_meet {a b : List Fm} (ha : BagL a) (hb : BagL b) (la : ∀ p ∈ a, LeafAll p) (lb : ∀ p ∈ b, LeafAll p) : LeafAll (listF false (wordF bagW :: meetF a b)) := by
 refine leaf_list fun f hf => ?_
 rcases List.mem_cons.1 hf with rfl | hf
 ·exact leaf_bag
 ·obtain ⟨v, hv, hpos, rfl⟩ := meetG_mem.1 hf
  refine leaf_list fun g hg => ?_
  simp only [List.mem_cons, List.not_mem_nil, or_false] at hg
  rcases hg with rfl | rfl
  ·have := sortF_mem (compF_mem hv)
   rcases List.mem_append.1 this with h | h
   ·obtain ⟨p, hp, rfl⟩ := List.mem_map.1 h
    exact (la p hp).kid (fst_kid (ha.cnt p hp)).1
   ·obtain ⟨p, hp, rfl⟩ := List.mem_map.1 h
    exact (lb p hp).kid (fst_kid (hb.cnt p hp)).1
  ·obtain ⟨q, hq, _, e⟩ := found_of (l := a) (k := v) (by omega)
   have := fst_kid (ha.cnt q hq)
   have := leaf_num ((la q hq).kid this.2.1).leaf this.2.2
   exact leaf_numF (by omega) (by omega)
def bagT (b a : Fm) : Bool := limB (listF false (wordF bagW :: meetF (a.kids.drop 1) (b.kids.drop 1))) && (eqF (listF false (wordF bagW :: meetF (a.kids.drop 1) (b.kids.drop 1))) b && !eqF a b)
theorem bag_shape {f : Fm} (h : headF f = hBag) : f.kind = 3 ∧ ∃ g r, f.kids = g :: r ∧ Same (wordF bagW) g := by
 obtain ⟨hk, g, r, hl⟩ := headF_kids (f := f) (by rw [h]; decide)
 refine ⟨hk, g, r, hl, ?_⟩
 unfold headF at h
 rw [if_pos hk, hl] at h
 simp only at h
 by_cases h1 : g.kind = 1
 ·rw [if_pos h1] at h
  obtain ⟨k', n', t', b', l'⟩ := g
  simp only [Fm.kind, Fm.text] at h1 h
  subst h1; subst h
  exact (same_iff ..).2 ⟨rfl, fun h => by omega, fun _ => rfl, fun h => by omega⟩
 ·rw [if_neg h1] at h; exact absurd h (by decide)
theorem bag_same {b c : Fm} (hb : headF b = hBag) (hc : headF c = hBag) : Same b c ↔ Sames (b.kids.drop 1) (c.kids.drop 1) := by
 obtain ⟨kb, g, r, e, s⟩ := bag_shape hb
 obtain ⟨kc, g', r', e', s'⟩ := bag_shape hc
 constructor
 ·intro h; exact sames_drop 1 (same_kids h kb)
 ·intro h
  refine same_list kb kc ?_
  rw [e, e'] at h ⊢
  exact (sames_cons ..).2 ⟨Same.trans _ _ _ (Same.symm _ _ s) s', by simpa using h⟩
theorem bagT_iff {a b : Fm} (oa : isOk fnG a = true) (ob : isOk fnG b = true) (ha : headF a = hBag) (hb : headF b = hBag) :
  bagT b a = true ↔ sizeF b ≤ 2000 ∧ subB (b.kids.drop 1) (a.kids.drop 1) ∧ ¬ Same a b := by
 obtain ⟨va, xa⟩ := isOk_v oa
 obtain ⟨vb, xb⟩ := isOk_v ob
 have La := bagL_of xa ha
 have Lb := bagL_of xb hb
 have hm : headF (listF false (wordF bagW :: meetF (a.kids.drop 1) (b.kids.drop 1))) = hBag := by
  unfold headF
  simp [listF, wordF, Fm.kind, Fm.kids, Fm.text]
  rfl
 have la : ∀ p ∈ a.kids.drop 1, LeafAll p := fun p hp => (validB_all va).kid (List.mem_of_mem_drop hp)
 have lb : ∀ p ∈ b.kids.drop 1, LeafAll p := fun p hp => (validB_all vb).kid (List.mem_of_mem_drop hp)
 have lm := leaf_meet La Lb la lb
 have hsame : Same (listF false (wordF bagW :: meetF (a.kids.drop 1) (b.kids.drop 1))) b ↔ subB (b.kids.drop 1) (a.kids.drop 1) := by
  rw [bag_same hm hb, ← meet_sub La Lb]
  have : (listF false (wordF bagW :: meetF (a.kids.drop 1) (b.kids.drop 1))).kids.drop 1 = meetF (a.kids.drop 1) (b.kids.drop 1) := rfl
  rw [this]
 unfold bagT limB
 simp only [Bool.and_eq_true, Bool.not_eq_true', decide_eq_true_eq, eqF_iff, hsame, ← Bool.not_eq_true]
 constructor
 ·rintro ⟨⟨h1, _⟩, h2, h3⟩
  exact ⟨by rw [← sizeF_same (hsame.2 h2)]; exact h1, h2, h3⟩
 ·rintro ⟨h1, h2, h3⟩
  refine ⟨⟨by rw [sizeF_same (hsame.2 h2)]; exact h1, ?_⟩, h2, h3⟩
  rw [validB_same lm (validB_all vb) (hsame.2 h2)]; exact vb
theorem bagT_irr (a : Fm) : bagT a a = false := by
 unfold bagT
 rw [(eqF_iff a a).2 (Same.refl a)]
 simp
theorem bagT_trans {a b c : Fm} (oa : isOk fnG a = true) (ob : isOk fnG b = true) (oc : isOk fnG c = true) (ha : headF a = hBag) (hb : headF b = hBag) (hc : headF c = hBag) (h1 : bagT b a = true) (h2 : bagT c b = true) : bagT c a = true := by
 rw [bagT_iff oa ob ha hb] at h1
 rw [bagT_iff ob oc hb hc] at h2
 rw [bagT_iff oa oc ha hc]
 have La := bagL_of (isOk_v oa).2 ha
 have Lb := bagL_of (isOk_v ob).2 hb
 have Lc := bagL_of (isOk_v oc).2 hc
 refine ⟨h2.1, subB_trans h1.2.1 h2.2.1, fun s => h2.2.2 ?_⟩
 have s' := (bag_same ha hc).1 s
 have : subB (b.kids.drop 1) (c.kids.drop 1) := subB_same La.cnt Lc.cnt Lb.cnt Lb.cnt s' (Sames.refl _) h1.2.1
 exact (bag_same hb hc).2 (subB_antisymm Lb Lc h2.2.1 this)
theorem bagT_same {a a' b b' : Fm} (oa : isOk fnG a = true) (oa' : isOk fnG a' = true) (ob : isOk fnG b = true) (ob' : isOk fnG b' = true) (ha : headF a = hBag) (hb : headF b = hBag) (sa : Same a a') (sb : Same b b') (h : bagT b a = true) : bagT b' a' = true := by
 have ha' : headF a' = hBag := by rw [← head_same sa]; exact ha
 have hb' : headF b' = hBag := by rw [← head_same sb]; exact hb
 rw [bagT_iff oa ob ha hb] at h
 rw [bagT_iff oa' ob' ha' hb']
 have La := bagL_of (isOk_v oa).2 ha
 have Lb := bagL_of (isOk_v ob).2 hb
 have La' := bagL_of (isOk_v oa').2 ha'
 have Lb' := bagL_of (isOk_v ob').2 hb'
 exact ⟨by rw [← sizeF_same sb]; exact h.1, subB_same La.cnt La'.cnt Lb.cnt Lb'.cnt ((bag_same ha ha').1 sa) ((bag_same hb hb').1 sb) h.2.1, fun s => h.2.2 (Same.trans _ _ _ sa (Same.trans _ _ _ s (Same.symm _ _ sb)))⟩
end Go.Pl.L
end
section
open Go Go.Pl Go.Proofs Go.Pl.Z
namespace Go.Pl.L
set_option maxRecDepth 10000
mutual
def Wide : Fm → Prop
 | .mk _ _ t _ l => t.length ≤ 1000000000 ∧ l.length ≤ 1000000000 ∧ Wides l
def Wides : List Fm → Prop
 | [] => True
 | f :: r => Wide f ∧ Wides r
end
theorem Wides.mem : ∀ {l : List Fm}, Wides l → ∀ f ∈ l, Wide f
 | a :: r, h, f, hf => by
  simp only [Wides] at h
  rcases List.mem_cons.1 hf with rfl | hf
  ·exact h.1
  ·exact h.2.mem f hf
theorem Wides.of : ∀ {l : List Fm}, (∀ f ∈ l, Wide f) → Wides l
 | [], _ => trivial
 | _ :: _, h => ⟨h _ (by simp), Wides.of fun f hf => h f (by simp [hf])⟩
theorem Wide.text {f : Fm} (h : Wide f) : f.text.length ≤ 1000000000 := by
 obtain ⟨k, n, t, b, l⟩ := f
 exact h.1
theorem Wide.kids {f : Fm} (h : Wide f) : f.kids.length ≤ 1000000000 := by
 obtain ⟨k, n, t, b, l⟩ := f
 exact h.2.1
theorem Wide.kid {f g : Fm} (h : Wide f) (hg : g ∈ f.kids) : Wide g := by
 obtain ⟨k, n, t, b, l⟩ := f
 exact Wides.mem h.2.2 g hg
theorem fine_wide : ∀ (n : Nat) (f : Fm), fsize f ≤ n → Fine f → Wide f
 | 0, f, h, _ => by have := fs_pos f; omega
 | n + 1, .mk k m t b l, h, hf => by
  have h1 := Fine.text hf
  have h2 := Fine.kids hf
  exact ⟨h1, h2, Wides.of fun g hg => fine_wide n g (by have := fs_kid (f := .mk k m t b l) hg; omega) (Fine.kid (f := .mk k m t b l) hf hg)⟩
theorem Fine.wide (f : Fm) (h : Fine f) : Wide f := fine_wide _ f (Nat.le_refl _) h
theorem y43 (f g : Fm) (h : Wide f) (S : St) : Pl.Pure Tryz.prog 43 [enc f, enc g] S (.int .i64 (cmpF f g)) :=
 mkPure hm Tryz.func43 g43 c43 (Nat.le_of_ble_eq_true rfl) (qI _ _) (w43 _ f g p76 p77 (fun S => mkPure hm Tryz.func78 g78 c78 (Nat.le_of_ble_eq_true rfl) (qI _ _) (w78 _ f.nl g.nl f.kids g.kids h.kids (fun a ha b S => y43 a b (h.kid ha) S)) S)) S
 termination_by fsize f
 decreasing_by have := fs_kid ha; omega
theorem y20 (f g : Fm) (h : Wide f) (S : St) : Pl.Pure Tryz.prog 20 [enc f, enc g] S (.bool (decide (cmpF f g = 0))) := mkPure hm Tryz.func20 g20 c20 (Nat.le_of_ble_eq_true rfl) (qB _) (w20 _ f g (y43 f g h)) S
theorem y83 (f : Fm) (h : Wide f) (S : St) : Pl.Pure Tryz.prog 83 [enc f] S (.bool (leafB f)) :=
 mkPure hm Tryz.func83 g83 c83 (Nat.le_of_ble_eq_true rfl) (qB _) (w83 _ f h.text (p103 f.text h.text) (fun b S => p104 _ S) (p87 f.text 105 badRune e105 (fun x _ S => p105 x S))) S
theorem b50 (f : Fm) (hf : Wide f) (p d : Int) (S : St) (i : Nat) (hp : 0 ≤ p) (hp2 : p ≤ 20000) (hd : 0 ≤ d) (hd2 : d ≤ 100) (hS : S.H i 1 = some (.int .i64 p)) :
  ACalls Tryz.prog 50 [enc f, .ref i 1 0, .int .i64 d] S fun e S' => e = .ret (.bool (validF p d f).1) ∧ S' = S.set i 1 (.int .i64 (validF p d f).2) :=
 ACalls_of_vc hm Tryz.func50 g50 c50 (Nat.le_of_ble_eq_true rfl) (w50 _ f p d S i hp hp2 hd hd2 hS hf.kids (y83 f hf) (fun g hg p d S h1 h2 h3 h4 h5 => b50 g (hf.kid hg) p d S i h1 h2 h3 h4 h5))
 termination_by fsize f
 decreasing_by have := fs_kid hg; omega
theorem y26 (f : Fm) (hf : Wide f) (S : St) : Pl.Pure Tryz.prog 26 [enc f] S (.bool (validB f)) :=
 mkPure hm Tryz.func26 g26 c26 (Nat.le_of_ble_eq_true rfl) (qB _) (w26 _ f _ _ (fun S i h => b50 f hf 20000 100 S i (by decide) (by decide) (by decide) (by decide) h)) S
def kidL (f : Fm) : List Fm := if f.kind = 3 then f.kids else []
theorem kidsF_L (f : Fm) : ∃ b, kidsF f = .sl b 4 (encs (kidL f)) := by
 unfold kidsF kidL
 by_cases h : f.kind = 3
 ·exact ⟨f.nl, by rw [if_pos h, if_pos h]⟩
 ·exact ⟨true, by rw [if_neg h, if_neg h]; rfl⟩
theorem sizeF_L (f : Fm) : sizeF f = sizeL (kidL f) + 1 := by
 unfold kidL
 by_cases h : f.kind = 3
 ·rw [if_pos h, sizeF_list h]
 ·rw [if_neg h, sizeF_leaf h]; rfl
theorem kidL_mem {f g : Fm} (h : g ∈ kidL f) : g ∈ f.kids := by
 unfold kidL at h
 split at h
 ·exact h
 ·cases h
theorem sizeL_append : ∀ (l m : List Fm), sizeL (l ++ m) = sizeL l + sizeL m
 | [], m => by simp [sizeL]
 | a :: r, m => by simp only [List.cons_append, sizeL, sizeL_append r m]; omega
theorem sizeL_le {B : Nat} : ∀ {l : List Fm}, (∀ f ∈ l, sizeF f ≤ B) → sizeL l ≤ l.length * B
 | [], _ => by simp [sizeL]
 | a :: r, h => by
  have h1 := h a (by simp)
  have h2 := sizeL_le (l := r) fun f hf => h f (by simp [hf])
  simp only [sizeL, List.length_cons, Nat.add_mul]
  omega
mutual
theorem sizeF_fs : ∀ f : Fm, sizeF f ≤ fsize f
 | .mk k n t b l => by
  have := sizeL_fs l
  simp only [sizeF, fsize]
  split <;> omega
theorem sizeL_fs : ∀ l : List Fm, sizeL l ≤ fsizes l
 | [] => Nat.le_refl _
 | f :: r => by
  have := sizeF_fs f
  have := sizeL_fs r
  simp only [sizeL, fsizes]; omega
end
theorem x137 (f : Fm) (hw : Wide f) (hs : sizeF f ≤ 1000000000000000000) : Thr Tryz.prog 137 [enc f] (.ret (.int .i64 (sizeF f))) := by
 refine t137 _ _ fun S => ?_
 unfold s137
 simp [-gjn_eq]
 refine gjn_by (fun J => J (.int .i64 (sizeF f)) S) (by simp) ?_
 intro J hJ
 refine Thr.call (Thr.ofPure fun S => r58 f S) ?_
 obtain ⟨nl, e⟩ := kidsF_L f
 rw [e]
 rw [sizeF_L] at hJ hs
 have hl : (kidL f).length ≤ 1000000000 := by unfold kidL; split; exact hw.kids; simp
 have hk : ∀ g ∈ kidL f, Wide g := fun g hg => hw.kid (kidL_mem hg)
 have ih : ∀ g ∈ kidL f, Thr Tryz.prog 137 [enc g] (.ret (.int .i64 (sizeF g))) := fun g hg => x137 g (hk g hg) (by have := sizeL_mem hg; omega)
 clear e
 generalize kidL f = l at *
 simp
 unfold loop4
 intro W hW
 suffices key : ∀ (t i : Nat), i + t = l.length → W (.int .i64 ((sizeL (l.take i) : Int) + 1)) (.sl nl 4 (encs l)) (.int .i64 l.length) (.int .i64 i) S by
  have := key l.length 0 (by omega)
  simpa [sizeL] using this
 intro t
 induction t with
 | zero =>
  intro i hi
  refine hW _ _ _ _ _ ?_
  have : ¬ (i : Int) < l.length := by omega
  simp [this]
  rw [List.take_of_length_le (by omega)]
  simpa using hJ
 | succ t ih' =>
  intro i hi
  refine hW _ _ _ _ _ ?_
  have hlt : i < l.length := by omega
  have hsz : sizeL (l.take (i + 1)) = sizeL (l.take i) + sizeF l[i] := by rw [List.take_succ_eq_append_getElem hlt, sizeL_append]; simp [sizeL]
  have hle : sizeL (l.take (i + 1)) ≤ sizeL l := by
   have := sizeL_append (l.take (i + 1)) (l.drop (i + 1))
   rw [List.take_append_drop] at this
   omega
  simp [hlt]
  rw [op_iaE (Int.natCast_nonneg i) (show l[((i : Nat) : Int).toNat]? = some l[i] by simp [hlt])]
  simp
  refine Thr.call (ih l[i] (List.getElem_mem hlt)) ?_
  simp
  rw [op_add (by omega) (by omega)]; simp only [bnd_some', plain_int]
  rw [op_add (by omega) (by omega)]; simp only [bnd_some', plain_int]
  have := ih' (i + 1) (by omega)
  rw [hsz] at this
  have e : ((sizeL (l.take i) + sizeF l[i] : Nat) : Int) + 1 = (sizeL (l.take i) : Int) + 1 + sizeF l[i] := by omega
  rw [e] at this
  simpa using this
 termination_by fsize f
 decreasing_by have := fs_kid (kidL_mem hg); omega
theorem x113 (f : Fm) (hw : Wide f) (hs : sizeF f ≤ 1000000000000000000) : Thr Tryz.prog 113 [enc f] (.ret (.int .i64 (sizeF f))) := by
 refine t113 _ _ fun S => ?_
 unfold s113
 simp
 refine Thr.call (x137 f hw hs) ?_
 simp
theorem meet_wide {a b : Fm} (ha : BagOk a) (hb : BagOk b) : Wide (meetOf a b) ∧ sizeF (meetOf a b) ≤ 1000000000000000000 := by
 have la := ha.len
 have lb := hb.len
 have hv : ∀ v ∈ compF (sortF ((a.kids.drop 1).map fstF ++ (b.kids.drop 1).map fstF)), Fine v := fun v hv => (List.mem_append.1 (sortF_mem (compF_mem hv))).elim
  (fst_fine ha.pairs fun p hp => ha.fine.kid (List.mem_of_mem_drop hp)) (fst_fine hb.pairs fun p hp => hb.fine.kid (List.mem_of_mem_drop hp))
 have hll : (meetF (a.kids.drop 1) (b.kids.drop 1)).length ≤ 2097154 := by
  have h1 := meetG_len (a.kids.drop 1) (b.kids.drop 1) (compF (sortF ((a.kids.drop 1).map fstF ++ (b.kids.drop 1).map fstF)))
  have h2 := compF_len (sortF ((a.kids.drop 1).map fstF ++ (b.kids.drop 1).map fstF))
  rw [sortF_len, List.length_append, List.length_map, List.length_map, List.length_drop, List.length_drop] at h2
  unfold meetF; omega
 have hm : ∀ p ∈ meetF (a.kids.drop 1) (b.kids.drop 1), ∃ v n, Fine v ∧ p = pairF v n := fun p hp => by
  obtain ⟨v, h1, _, h2⟩ := meetG_mem.1 hp
  exact ⟨v, _, hv v h1, h2⟩
 generalize hL : meetF (a.kids.drop 1) (b.kids.drop 1) = L at *
 have e : meetOf a b = listF false (wordF bagW :: L) := by unfold meetOf; rw [hL]
 rw [e]
 have wn : ∀ n, Wide (numF n) := fun n => ⟨by simp, by simp, trivial⟩
 have ww : Wide (wordF bagW) := ⟨by decide, by simp, trivial⟩
 constructor
 ·refine ⟨by simp, by simp; omega, ww, Wides.of fun p hp => ?_⟩
  obtain ⟨v, n, h1, rfl⟩ := hm p hp
  exact ⟨by simp, by simp, Fine.wide v h1, wn n, trivial⟩
 ·have hsz := sizeL_le (B := 1048579) (l := L) fun p hp => by
   obtain ⟨v, n, h1, rfl⟩ := hm p hp
   have := sizeF_fs v
   have e2 : sizeF (pairF v n) = sizeF v + (1 + 0) + 1 := rfl
   simp only [Fine] at h1
   omega
  have e2 : sizeF (listF false (wordF bagW :: L)) = 1 + sizeL L + 1 := rfl
  have : L.length * 1048579 ≤ 2097154 * 1048579 := Nat.mul_le_mul_right _ hll
  omega
end Go.Pl.L
end
section
open Go Go.Pl Go.Proofs
namespace Go.Pl.Z
set_option maxRecDepth 100000
theorem wd112n (P : Program) (i : Nat) (S : St) (Q : St → Prop) (hq : Q S) : WalksR P F112 [.ref i 0 0, .ref i 1 0] none S Q := by
 intro hw
 obtain ⟨H, n, b, c, O, hO⟩ := S
 have hend : ∃ S', Over ⟨H, n, b, c, O, hO⟩ ⟨H, n + 1, n, 0, O, hO⟩ S' ∧ Q S' := ⟨_, Over.of rfl rfl rfl hw (fun _ _ _ => rfl), hq⟩
 generalize Q = Q' at hend ⊢
 clear hq
 (try cbv;repeat (simp only [w_same hO];try cbv))
 exact hend
theorem rE {rs : List RX} {S S1 : St} {Q : AE → St → Prop} {σ : Nat → V} {v : V} (h : ∃ S', v.refsB S'.ok ∧ Over S S1 S' ∧ Q (.ret v) S') (hr : resV σ S1 rs = some v ∧ v.isGr = false) : resEnd rs S Q σ S1 := by
 obtain ⟨S', h1, h2, h3⟩ := h
 exact ⟨v, S', hr.1, hr.2, h1, h2, h3⟩
set_option maxHeartbeats 1000000 in
theorem wd91 (P : Program) (f : Fm) (fl : Nat) (caps : List V) (vb : Bool) (sz : Int) (S : St) (hl : ∀ S, Pl.Pure P fl caps S (enc f)) (h26 : ∀ S, Pl.Pure P 26 [enc f] S (.bool vb)) (h113 : ∀ S, Pl.Pure P 113 [enc f] S (.int .i64 sz))
  (hn : ∀ i S Q, Q S → ADefers P 112 [.ref i 0 0, .ref i 1 0] none S Q) :
  WalksD P F91 [.fn fl caps] S fun e S' => S' = S ∧ e = .ret (bif decide (sz ≤ 2000) && vb then .tup [enc f, .int .i64 0] else .tup [.agg [.int .i64 0, .int .i64 0, .str [], .sl true 4 []], .int .i64 2]) := by
 intro hw
 obtain ⟨H, n, b, c, O, hO⟩ := S
 have hgt := v_ilt hO 2000 sz
 have hg : decide (sz ≤ 2000) = !decide (2000 < sz) := by by_cases h : sz ≤ 2000 <;> simp [h] <;> omega
 rw [hg]
 generalize decide (2000 < sz) = big at hgt ⊢
 obtain ⟨k, m, t, nl, l⟩ := f
 have hxs := encs_refsB (fun i k => St.ok ⟨H, n, b, c, O, hO⟩ i k) l
 simp only [enc] at hl h26 h113 ⊢
 generalize encs l = xs at hl h26 h113 hxs ⊢
 have hend : ∀ (H' : Nat → Nat → Option V) (n' b' c' : Nat) (v : V), (∀ i' k', i' < n → H' i' k' = H i' k') → v.refsB (St.ok ⟨H, n, b, c, O, hO⟩) → v = (bif !big && vb then .tup [.agg [.int .i64 k, .int .i64 m, .str t, .sl nl 4 xs], .int .i64 0] else .tup [.agg [.int .i64 0, .int .i64 0, .str [], .sl true 4 []], .int .i64 2]) →
   ∃ S', v.refsB S'.ok ∧ Over ⟨H, n, b, c, O, hO⟩ ⟨H', n', b', c', O, hO⟩ S' ∧ S' = ⟨H, n, b, c, O, hO⟩ ∧ AE.ret v = .ret (bif !big && vb then .tup [.agg [.int .i64 k, .int .i64 m, .str t, .sl nl 4 xs], .int .i64 0] else .tup [.agg [.int .i64 0, .int .i64 0, .str [], .sl true 4 []], .int .i64 2]) := by
  intro H' n' b' c' v hH hv he
  refine ⟨_, hv, ⟨Nat.le_refl _, rfl, Nat.le_refl _, fun i k x hx => ?_⟩, rfl, by rw [he]⟩
  have h1 := hw i k x hx
  have := (ok_iff _ _ _).1 h1.1
  exact ⟨by show H' i k = some x; rw [hH i k this.1]; exact hx, h1⟩
 have hv1 : V.refsB (St.ok ⟨H, n, b, c, O, hO⟩) (.tup [.agg [.int .i64 k, .int .i64 m, .str t, .sl nl 4 xs], .int .i64 0]) := by simp only [V.refsB, V.refsBs, and_true, true_and]; exact hxs
 have hv2 : V.refsB (St.ok ⟨H, n, b, c, O, hO⟩) (.tup [.agg [.int .i64 0, .int .i64 0, .str [], .sl true 4 []], .int .i64 2]) := by simp only [V.refsB, V.refsBs, and_true, true_and]
 generalize hQ : (fun e S' => S' = (⟨H, n, b, c, O, hO⟩ : St) ∧ e = AE.ret (bif !big && vb then .tup [.agg [.int .i64 k, .int .i64 m, .str t, .sl nl 4 xs], .int .i64 0] else .tup [.agg [.int .i64 0, .int .i64 0, .str [], .sl true 4 []], .int .i64 2])) = Q
 have hendQ : ∀ (H' : Nat → Nat → Option V) (n' b' c' : Nat) (v : V), (∀ i' k', i' < n → H' i' k' = H i' k') → v.refsB (St.ok ⟨H, n, b, c, O, hO⟩) → v = (bif !big && vb then .tup [.agg [.int .i64 k, .int .i64 m, .str t, .sl nl 4 xs], .int .i64 0] else .tup [.agg [.int .i64 0, .int .i64 0, .str [], .sl true 4 []], .int .i64 2]) →
   ∃ S', v.refsB S'.ok ∧ Over ⟨H, n, b, c, O, hO⟩ ⟨H', n', b', c', O, hO⟩ S' ∧ Q (.ret v) S' := by subst hQ; exact hend
 clear hend hQ
 (try cbv;repeat (simp only [w_same hO];try cbv))
 refine Pure.go (hl _) ?_
 (try cbv;repeat (simp only [w_same hO];try cbv))
 refine Pure.go (h113 _) ?_
 (try cbv;repeat (simp only [w_same hO,hgt];try cbv))
 cases big
 ·(try cbv;repeat (simp only [w_same hO];try cbv))
  refine Pure.go (h26 _) ?_
  cases vb
  ·(try cbv;repeat (simp only [w_same hO];try cbv))
   refine hn n _ _ ?_
   refine rE (hendQ _ _ _ _ (.tup [.agg [.int .i64 0, .int .i64 0, .str [], .sl true 4 []], .int .i64 2]) (fun i' k' h => by simp only [upd2_ne hO (Nat.ne_of_lt h)]) hv2 rfl) ?_
   (try cbv;repeat (simp only [w_same hO];try cbv))
  ·(try cbv;repeat (simp only [w_same hO];try cbv))
   refine hn n _ _ ?_
   refine rE (hendQ _ _ _ _ (.tup [.agg [.int .i64 k, .int .i64 m, .str t, .sl nl 4 xs], .int .i64 0]) (fun i' k' h => by simp only [upd2_ne hO (Nat.ne_of_lt h)]) hv1 rfl) ?_
   (try cbv;repeat (simp only [w_same hO];try cbv))
 ·(try cbv;repeat (simp only [w_same hO];try cbv))
  refine hn n _ _ ?_
  refine rE (hendQ _ _ _ _ (.tup [.agg [.int .i64 0, .int .i64 0, .str [], .sl true 4 []], .int .i64 2]) (fun i' k' h => by simp only [upd2_ne hO (Nat.ne_of_lt h)]) hv2 rfl) ?_
  (try cbv;repeat (simp only [w_same hO];try cbv))
end Go.Pl.Z
end
section
open Go Go.Pl Go.Pl.Z
namespace Go.Pl.L
def tagF (f : Fm) : Nat :=
 if f.kind = 0 then 0 else if f.kind = 1 then 1 else if headF f = hData then 2 else if headF f = hBits then 3 else if headF f = hSeq then 4 else if headF f = hSet then 5
 else if headF f = hBag then 6 else if headF f = hMap then 7 else 8
def belT (wv bv : Bool) (a b : Fm) : Nat → Bool
 | 0 => decide (b.n < a.n) && decide (0 ≤ a.n)
 | 1 => isWordB a sTrue && isWordB b sFalse
 | 2 => wv
 | 3 => decide ((b.kids.getD 2 default).n < (a.kids.getD 2 default).n)
 | 4 => decide ((b.kids.length : Int) < (a.kids.length : Int))
 | 5 => insideB (b.kids.drop 1) (a.kids.drop 1)
 | 6 => bv
 | 7 => insideB ((b.kids.drop 1).map fstF) ((a.kids.drop 1).map fstF)
 | _ => false
theorem head_kind3 {f : Fm} (h : f.kind ≠ 3) : headF f = [] := by unfold headF; rw [if_neg h]
theorem below_tag (wv bv : Bool) (a b : Fm) : belowV wv bv a b = (decide (tagF a = tagF b) && belT wv bv a b (tagF a)) := by
 have n1 : ([] : List UInt8) ≠ hData := by decide
 have n2 : ([] : List UInt8) ≠ hBits := by decide
 have n3 : ([] : List UInt8) ≠ hSeq := by decide
 have n4 : ([] : List UInt8) ≠ hSet := by decide
 have n5 : ([] : List UInt8) ≠ hBag := by decide
 have n6 : ([] : List UInt8) ≠ hMap := by decide
 unfold belowV tagF
 by_cases a0 : a.kind = 0
 ·have ha : headF a = [] := head_kind3 (by omega)
  by_cases b0 : b.kind = 0
  ·simp [a0, b0, belT]
  ·by_cases b1 : b.kind = 1
   ·simp [a0, b1, belT, isWordB]
   ·simp only [a0, b0, b1, ha, belT]
    simp only [n1, n2, n3, n4, n5, n6, decide_true, decide_false, Bool.and_false, Bool.or_false, Bool.false_or, cond_false, if_true, if_false, Bool.false_and, Bool.true_and]
    have : (0 : Nat) ≠ (if headF b = hData then 2 else if headF b = hBits then 3 else if headF b = hSeq then 4 else if headF b = hSet then 5 else if headF b = hBag then 6 else if headF b = hMap then 7 else 8) := by
     repeat' split
     all_goals decide
    rw [decide_eq_false this]
    simp
 ·by_cases a1 : a.kind = 1
  ·by_cases b0 : b.kind = 0
   ·simp [a1, b0, belT, isWordB]
   ·by_cases b1 : b.kind = 1
    ·simp [a1, b1, belT]
    ·have : (1 : Nat) ≠ (if headF b = hData then 2 else if headF b = hBits then 3 else if headF b = hSeq then 4 else if headF b = hSet then 5 else if headF b = hBag then 6 else if headF b = hMap then 7 else 8) := by
      repeat' split
      all_goals decide
     have e : isWordB b sFalse = false := by unfold isWordB; simp [b1]
     simp only [a0, a1, b0, b1, belT, e, if_true, if_false, decide_true, decide_false, Bool.or_true, Bool.true_or, Bool.false_and, cond_false, cond_true, Bool.and_false]
     simp
  ·by_cases b0 : b.kind = 0
   ·have hb : headF b = [] := head_kind3 (by omega)
    have : (if headF a = hData then 2 else if headF a = hBits then 3 else if headF a = hSeq then 4 else if headF a = hSet then 5 else if headF a = hBag then 6 else if headF a = hMap then 7 else 8) ≠ (0 : Nat) := by
     repeat' split
     all_goals decide
    rw [if_neg a0, if_neg a1, if_pos b0, decide_eq_false this]
    simp only [a0, a1, b0, hb, n1, n2, n3, n4, n5, n6, decide_true, decide_false, Bool.false_and, Bool.or_false, cond_false, Bool.and_false, Bool.false_or]
    by_cases q : headF a = []
    ·rw [q]; simp [n1, n2, n3, n4, n5, n6]
    ·simp [q]
   ·by_cases b1 : b.kind = 1
    ·have : (if headF a = hData then 2 else if headF a = hBits then 3 else if headF a = hSeq then 4 else if headF a = hSet then 5 else if headF a = hBag then 6 else if headF a = hMap then 7 else 8) ≠ (1 : Nat) := by
      repeat' split
      all_goals decide
     rw [if_neg a0, if_neg a1, if_neg b0, if_pos b1, decide_eq_false this]
     have e : isWordB a sTrue = false := by unfold isWordB; simp [a1]
     simp [a0, a1, b1, e]
    ·rw [if_neg a0, if_neg a1, if_neg b0, if_neg b1]
     simp only [a0, a1, b0, b1, decide_false, Bool.false_and, Bool.or_false, cond_false]
     generalize headF a = x
     generalize headF b = y
     by_cases q : x = y
     ·subst q
      by_cases q1 : x = hData
      ·subst q1; simp [belT]
      rw [if_neg q1, decide_eq_false q1]
      by_cases q2 : x = hBits
      ·subst q2; simp [belT]
      rw [if_neg q2, decide_eq_false q2]
      by_cases q3 : x = hSeq
      ·subst q3; simp [belT]
      rw [if_neg q3, decide_eq_false q3]
      by_cases q4 : x = hSet
      ·subst q4; simp [belT]
      rw [if_neg q4, decide_eq_false q4]
      by_cases q5 : x = hBag
      ·subst q5; simp [belT]
      rw [if_neg q5, decide_eq_false q5]
      by_cases q6 : x = hMap
      ·subst q6; simp [belT]
      rw [if_neg q6, decide_eq_false q6]
      simp [belT]
     ·have q' : ¬ x = y := q
      by_cases q1 : x = hData
      ·subst q1
       have q2 : ¬ y = hData := fun e => q e.symm
       have : (2 : Nat) ≠ (if y = hData then 2 else if y = hBits then 3 else if y = hSeq then 4 else if y = hSet then 5 else if y = hBag then 6 else if y = hMap then 7 else 8) := by
        rw [if_neg q2]
        repeat' split
        all_goals decide
       rw [if_pos rfl, decide_eq_false this]
       simp [q2]
      rw [decide_eq_false q1, decide_eq_false q]
      simp only [cond_false, Bool.not_false, cond_true]
      rw [if_neg q1]
      by_cases e8 : (if x = hBits then 3 else if x = hSeq then 4 else if x = hSet then 5 else if x = hBag then 6 else if x = hMap then 7 else 8) = 8
      ·rw [e8]; simp [belT]
      ·have : (if x = hBits then 3 else if x = hSeq then 4 else if x = hSet then 5 else if x = hBag then 6 else if x = hMap then 7 else 8) ≠ (if y = hData then 2 else if y = hBits then 3 else if y = hSeq then 4 else if y = hSet then 5 else if y = hBag then 6 else if y = hMap then 7 else 8) := by
        clear n1 n2 n3 n4 n5 n6
        intro e
        repeat' split at e
        all_goals first
         | omega
         | (rename_i h1 h2; exact q (by simp_all))
         | (apply q; simp_all)
       rw [decide_eq_false this]; rfl
theorem tag_head (f : Fm) : (tagF f = 2 → headF f = hData) ∧ (tagF f = 3 → headF f = hBits) ∧ (tagF f = 4 → headF f = hSeq) ∧ (tagF f = 5 → headF f = hSet) ∧ (tagF f = 6 → headF f = hBag) ∧ (tagF f = 7 → headF f = hMap) ∧ (tagF f = 0 → f.kind = 0) := by
 unfold tagF
 repeat' split
 all_goals refine ⟨fun h => ?_, fun h => ?_, fun h => ?_, fun h => ?_, fun h => ?_, fun h => ?_, fun h => ?_⟩
 all_goals first
  | assumption
  | (exact absurd h (by decide))
theorem tag_same {f g : Fm} (h : Same f g) : tagF f = tagF g := by
 unfold tagF
 rw [same_kind h, head_same h]
def belowB (a b : Fm) : Bool := belowV (wiB b a) (bagT b a) a b
theorem below_iff (a b : Fm) : belowB a b = true ↔ tagF a = tagF b ∧ belT (wiB b a) (bagT b a) a b (tagF a) = true := by
 unfold belowB
 rw [below_tag, Bool.and_eq_true, decide_eq_true_eq]
theorem tag_cases (n : Nat) (P : Nat → Prop) (h0 : n = 0 → P 0) (h1 : n = 1 → P 1) (h2 : n = 2 → P 2) (h3 : n = 3 → P 3) (h4 : n = 4 → P 4) (h5 : n = 5 → P 5) (h6 : n = 6 → P 6) (h7 : n = 7 → P 7) (h8 : ∀ m, n = m → 8 ≤ m → P m) : P n := by
 match n, h0, h1, h2, h3, h4, h5, h6, h7, h8 with
 | 0, h, _, _, _, _, _, _, _, _ => exact h rfl
 | 1, _, h, _, _, _, _, _, _, _ => exact h rfl
 | 2, _, _, h, _, _, _, _, _, _ => exact h rfl
 | 3, _, _, _, h, _, _, _, _, _ => exact h rfl
 | 4, _, _, _, _, h, _, _, _, _ => exact h rfl
 | 5, _, _, _, _, _, h, _, _, _ => exact h rfl
 | 6, _, _, _, _, _, _, h, _, _ => exact h rfl
 | 7, _, _, _, _, _, _, _, h, _ => exact h rfl
 | m + 8, _, _, _, _, _, _, _, _, h => exact h _ rfl (by omega)
theorem belT_8 {wv bv : Bool} {a b : Fm} {m : Nat} (h : 8 ≤ m) : belT wv bv a b m = false := by
 match m, h with
 | m + 8, _ => rfl
theorem word_tf {f : Fm} (h1 : isWordB f sTrue = true) (h2 : isWordB f sFalse = true) : False := by
 unfold isWordB at h1 h2
 simp only [Bool.and_eq_true, decide_eq_true_eq] at h1 h2
 have := h1.2.symm.trans h2.2
 exact absurd this (by decide)
theorem word_same {f g : Fm} {s : List UInt8} (h : Same f g) (hw : isWordB f s = true) : isWordB g s = true := by
 unfold isWordB at *
 simp only [Bool.and_eq_true, decide_eq_true_eq] at *
 exact ⟨by rw [← same_kind h]; exact hw.1, by rw [← same_text h hw.1]; exact hw.2⟩
abbrev Ok (f : Fm) : Prop := isOk fnG f = true
theorem below_irr {a : Fm} (oa : Ok a) : belowB a a = false := by
 have va := (isOk_v oa).2
 rw [← Bool.not_eq_true, below_iff]
 rintro ⟨_, h⟩
 refine tag_cases (tagF a) (fun n => belT (wiB a a) (bagT a a) a a n = true → False) (fun _ h => ?_) (fun _ h => ?_) (fun _ h => ?_) (fun _ h => ?_) (fun _ h => ?_) (fun _ h => ?_) (fun _ h => ?_) (fun _ h => ?_) (fun m _ hm h => ?_) h
 ·simp [belT] at h
 ·simp only [belT, Bool.and_eq_true] at h; exact word_tf h.1 h.2
 ·simp only [belT, wiB_irr va] at h; cases h
 ·simp [belT] at h
 ·simp [belT] at h
 ·simp only [belT, insideB_irrefl] at h; cases h
 ·simp only [belT, bagT_irr] at h; cases h
 ·simp only [belT, insideB_irrefl] at h; cases h
 ·rw [belT_8 hm] at h; cases h
theorem below_trans {a b c : Fm} (oa : Ok a) (ob : Ok b) (oc : Ok c) (h1 : belowB a b = true) (h2 : belowB b c = true) : belowB a c = true := by
 have va := (isOk_v oa).2
 have vb := (isOk_v ob).2
 rw [below_iff] at h1 h2 ⊢
 obtain ⟨e1, h1⟩ := h1
 obtain ⟨e2, h2⟩ := h2
 refine ⟨e1.trans e2, ?_⟩
 rw [← e1] at h2
 have ta := tag_head a
 have tb := tag_head b
 have tc := tag_head c
 rw [← e2, ← e1] at tc
 rw [← e1] at tb
 clear e1 e2
 generalize tagF a = n at *
 revert h1 h2
 refine tag_cases n (fun n => belT (wiB b a) (bagT b a) a b n = true → belT (wiB c b) (bagT c b) b c n = true → belT (wiB c a) (bagT c a) a c n = true) (fun _ h1 h2 => ?_) (fun _ h1 h2 => ?_) (fun _ h1 h2 => ?_) (fun _ h1 h2 => ?_) (fun _ h1 h2 => ?_) (fun _ h1 h2 => ?_) (fun e h1 h2 => ?_) (fun _ h1 h2 => ?_) (fun m _ hm h1 h2 => ?_)
 ·simp only [belT, Bool.and_eq_true, decide_eq_true_eq] at *; omega
 ·simp only [belT, Bool.and_eq_true] at *; exact (word_tf h2.1 h1.2).elim
 ·simp only [belT] at *; exact wiB_trans va vb h1 h2
 ·simp only [belT, decide_eq_true_eq] at *; omega
 ·simp only [belT, decide_eq_true_eq] at *; omega
 ·simp only [belT] at *; exact insideB_trans h1 h2
 ·simp only [belT] at *; exact bagT_trans oa ob oc (ta.2.2.2.2.1 e) (tb.2.2.2.2.1 e) (tc.2.2.2.2.1 e) h1 h2
 ·simp only [belT] at *; exact insideB_trans h1 h2
 ·rw [belT_8 hm] at h1; cases h1
theorem below_same1 {a a' b b' : Fm} (oa : Ok a) (oa' : Ok a') (ob : Ok b) (ob' : Ok b') (sa : Same a a') (sb : Same b b') (h : belowB a b = true) : belowB a' b' = true := by
 have va := (isOk_v oa).2
 have va' := (isOk_v oa').2
 have vb := (isOk_v ob).2
 rw [below_iff] at h ⊢
 obtain ⟨e, h⟩ := h
 refine ⟨by rw [← tag_same sa, ← tag_same sb]; exact e, ?_⟩
 rw [← tag_same sa]
 have ta := tag_head a
 have tb := tag_head b
 rw [← e] at tb
 clear e
 generalize tagF a = n at *
 have ks : headF a ≠ [] → Sames a.kids a'.kids := fun hd => same_kids sa (headF_kids hd).1
 have ks' : headF b ≠ [] → Sames b.kids b'.kids := fun hd => same_kids sb (headF_kids hd).1
 have ne : ∀ {f : Fm} {w : List UInt8}, headF f = w → w ≠ [] → headF f ≠ [] := fun e h => by rw [e]; exact h
 revert h
 refine tag_cases n (fun n => belT (wiB b a) (bagT b a) a b n = true → belT (wiB b' a') (bagT b' a') a' b' n = true) (fun e h => ?_) (fun _ h => ?_) (fun _ h => ?_) (fun e h => ?_) (fun e h => ?_) (fun e h => ?_) (fun e h => ?_) (fun e h => ?_) (fun m _ hm h => ?_)
 ·simp only [belT, Bool.and_eq_true, decide_eq_true_eq] at *
  rw [← same_num sa (ta.2.2.2.2.2.2 e), ← same_num sb (tb.2.2.2.2.2.2 e)]; exact h
 ·simp only [belT, Bool.and_eq_true] at *; exact ⟨word_same sa h.1, word_same sb h.2⟩
 ·simp only [belT] at *; exact wiB_same va va' sa sb h
 ·have ha := ta.2.1 e
  have hb := tb.2.1 e
  simp only [belT, decide_eq_true_eq] at *
  have s1 := sames_getD 2 default (ks (ne ha (by decide)))
  have s2 := sames_getD 2 default (ks' (ne hb (by decide)))
  rw [← same_num s1 (bits_two ha va.x), ← same_num s2 (bits_two hb vb.x)]; exact h
 ·have ha := ta.2.2.1 e
  have hb := tb.2.2.1 e
  simp only [belT, decide_eq_true_eq] at *
  rw [← Sames.length _ _ (ks (ne ha (by decide))), ← Sames.length _ _ (ks' (ne hb (by decide)))]; exact h
 ·have ha := ta.2.2.2.1 e
  have hb := tb.2.2.2.1 e
  simp only [belT] at *
  exact insideB_same (sames_drop 1 (ks (ne ha (by decide)))) (sames_drop 1 (ks' (ne hb (by decide)))) h
 ·simp only [belT] at *; exact bagT_same oa oa' ob ob' (ta.2.2.2.2.1 e) (tb.2.2.2.2.1 e) sa sb h
 ·have ha := ta.2.2.2.2.2.1 e
  have hb := tb.2.2.2.2.2.1 e
  simp only [belT] at *
  exact insideB_same (sames_map (fun p hp q e => fst_same (pairsB_pair (map_pairs ha va.x) p hp).1 e) (sames_drop 1 (ks (ne ha (by decide))))) (sames_map (fun p hp q e => fst_same (pairsB_pair (map_pairs hb vb.x) p hp).1 e) (sames_drop 1 (ks' (ne hb (by decide))))) h
 ·rw [belT_8 hm] at h; cases h
theorem below_same {a a' b b' : Fm} (oa : Ok a) (oa' : Ok a') (ob : Ok b) (ob' : Ok b') (sa : Same a a') (sb : Same b b') : belowB a b = belowB a' b' :=
 Bool.eq_iff_iff.2 ⟨below_same1 oa oa' ob ob' sa sb, below_same1 oa' oa ob' ob (Same.symm _ _ sa) (Same.symm _ _ sb)⟩
theorem below_law : Below' Ok belowB where
 irr _ h := below_irr h
 trans _ _ _ h1 h2 h3 := below_trans h1 h2 h3
 left _ _ _ h1 h2 h3 s := below_same h1 h2 h3 h3 s (Same.refl _)
 right _ _ _ h1 h2 h3 s := below_same h1 h1 h2 h3 (Same.refl _) s
end Go.Pl.L
end
