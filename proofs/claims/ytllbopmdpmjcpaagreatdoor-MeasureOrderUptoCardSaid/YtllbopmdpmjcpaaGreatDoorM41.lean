import Derived.Test.YtllbopmdpmjcpaaGreatDoorM25
import Derived.Test.YtllbopmdpmjcpaaGreatDoorM27
import Derived.Test.YtllbopmdpmjcpaaGreatDoorM40
set_option linter.unusedSimpArgs false
set_option linter.unusedVariables false
set_option linter.unusedSectionVars false
open Go Go.Pl Go.Proofs Go.Pl.Z
namespace Go.Pl.L
set_option maxRecDepth 100000
theorem h112 (i : Nat) (S : St) (Q : St → Prop) (hq : Q S) : ADefers Tryz.prog 112 [.ref i 0 0, .ref i 1 0] none S Q :=
 ADefers_of_R hm Tryz.func112 g112 c112 (Nat.le_of_ble_eq_true rfl) (fun _ h => by cases h) (wd112n _ i S Q hq)
def caughtX (f : Fm) : Fm := bif limB f then f else .mk 0 0 [] true []
def caughtE (f : Fm) : Int := bif limB f then 0 else 2
theorem caught_eq (f : Fm) : (bif decide ((sizeF f : Int) ≤ 2000) && validB f then V.tup [enc f, .int .i64 0] else V.tup [.agg [.int .i64 0, .int .i64 0, .str [], .sl true 4 []], .int .i64 2]) = V.tup [enc (caughtX f), .int .i64 (caughtE f)] := by
 have e : decide ((sizeF f : Int) ≤ 2000) = decide (sizeF f ≤ 2000) := by by_cases h : sizeF f ≤ 2000 <;> simp [h] <;> omega
 rw [e]
 unfold caughtX caughtE limB
 cases decide (sizeF f ≤ 2000) && validB f <;> rfl
theorem a91 (f : Fm) (fl : Nat) (caps : List V) (hw : Wide f) (hs : sizeF f ≤ 1000000000000000000) (hl : ∀ S, Pl.Pure Tryz.prog fl caps S (enc f)) (S : St) :
  ACalls Tryz.prog 91 [.fn fl caps] S fun e S' => S' = S ∧ e = .ret (.tup [enc (caughtX f), .int .i64 (caughtE f)]) := by
 rw [← caught_eq]
 exact ACalls_of_D hm Tryz.func91 g91 c91 (Nat.le_of_ble_eq_true rfl) (wd91 _ f fl caps (validB f) (sizeF f) S hl (y26 f hw) (fun S => (x113 f hw hs).pure S) h112)
theorem x91 {a b : Fm} (ha : BagOk a) (hb : BagOk b) (nl : Bool) : Thr Tryz.prog 91 [.fn 92 [.ro (.str meetW), .ro (.sl nl 4 (encs [a, b]))]] (.ret (.tup [enc (caughtX (meetOf a b)), .int .i64 (caughtE (meetOf a b))])) := fun S =>
 (a91 (meetOf a b) 92 _ (meet_wide ha hb).1 (meet_wide ha hb).2 (fun S => (x92 nl ha hb).pure S) S).mono fun _ _ h => ⟨h.2, h.1⟩
theorem bagB_T {a b : Fm} : bagB (caughtX (meetOf a b)) (caughtE (meetOf a b)) b a = bagT b a := by
 have e : listF false (wordF bagW :: meetF (a.kids.drop 1) (b.kids.drop 1)) = meetOf a b := rfl
 unfold bagB bagT caughtX caughtE eqF
 rw [e]
 cases limB (meetOf a b) <;> rfl
theorem y32 {a b : Fm} (fa : Fine a) (fb : Fine b) (oa : Ok a) (ob : Ok b) (ha : headF a = hBag) (hb : headF b = hBag) : Thr Tryz.prog 32 [enc b, enc a] (.ret (.bool (bagT b a))) := by
 have ka := bagOk_of fa oa ha
 have kb := bagOk_of fb ob hb
 have h := x32 ka kb oa ob (x91 ka kb false) (fun he => Thr.ofPure fun S => y20 (caughtX (meetOf a b)) b (by
  unfold caughtE at he
  unfold caughtX
  cases hl : limB (meetOf a b) with
  | false => rw [hl] at he; cases he
  | true => exact (meet_wide ka kb).1) S)
 rw [bagB_T] at h
 exact h
theorem fsize_fst (p : Fm) : fsize (fstF p) ≤ fsize p := by
 unfold fstF
 cases hk : p.kids with
 | nil => have e : fsize ([].getD 0 default : Fm) = 5 := rfl; have := fs_pos p; rw [e]; exact this
 | cons a r => have := fs_kid (f := p) (g := a) (by rw [hk]; simp); simp; omega
theorem fsizes_fst : ∀ (l : List Fm), fsizes (l.map fstF) ≤ fsizes l
 | [] => Nat.le_refl _
 | p :: r => by
  have h1 := fsizes_fst r
  have := fsize_fst p
  simp only [List.map_cons, fsizes]
  omega
theorem fsizes_drop {f : Fm} (h : Fine f) (i : Nat) : fsizes (f.kids.drop i) ≤ 1048576 := by
 obtain ⟨k, q, t, nl, l⟩ := f
 simp only [Fine, fsize] at h
 have e : ∀ (i : Nat) (l : List Fm), fsizes (l.drop i) ≤ fsizes l := by
  intro i
  induction i with
  | zero => intro l; simp
  | succ i ih =>
   intro l
   cases l with
   | nil => simp [fsizes]
   | cons a r => simp only [List.drop_succ_cons, fsizes]; have := ih r; omega
 have := e i l
 show fsizes (l.drop i) ≤ 1048576
 omega
theorem keyP_sl (l : List Fm) : keyP l = .sl l.isEmpty 4 (encs l) := by cases l <;> rfl
theorem p15 {a b : Fm} (fa : Fine a) (fb : Fine b) (oa : Ok a) (ob : Ok b) (S : St) : Pl.Pure Tryz.prog 15 [enc a, enc b] S (.bool (belowB a b)) := by
 have va := (isOk_v oa).2
 have vb := (isOk_v ob).2
 have mp : ∀ {f : Fm}, Fine f → Vl f → headF f = hMap → ∀ p ∈ f.kids.drop 1, p.kids.length = 2 := fun _ v h p hp => (pairsB_pair (map_pairs h v.x) p hp).2
 refine mkPure hm Tryz.func15 g15 c15 (Nat.le_of_ble_eq_true rfl) (qB _) (w15 _ (wiB b a) (bagT b a) a b (belowOk_of va.x) (belowOk_of vb.x) (r28 a) (r28 b) (p29 a _) (p29 b _) (fun _ _ S => p30 fnG_congr b _ a (Nat.le_refl _) fa va S)
  (fun ha hb S => (y32 fa fb oa ob ha hb).pure S) (fun S => p31 _ _ _ _ (fsizes_drop fb 1) (fsizes_drop fa 1) S)
  (fun S => by rw [keyP_sl, keyP_sl]; exact p31 _ _ _ _ (Nat.le_trans (fsizes_fst _) (fsizes_drop fb 1)) (Nat.le_trans (fsizes_fst _) (fsizes_drop fa 1)) S)
  (fun h S => p33 a.nl _ (by have := fa.kids; simp; omega) (fun p hp => by have := mp fa va h p hp; omega) S) (fun h S => p33 b.nl _ (by have := fb.kids; simp; omega) (fun p hp => by have := mp fb vb h p hp; omega) S)) S
theorem bothV_refs (v t : Bool) (p : Nat → Nat → Bool) : (bothV v t).refsB p := by simp only [bothV, V.refsB, V.refsBs, and_true]
theorem p6 {a b : Fm} (fa : Fine a) (fb : Fine b) (S : St) : Pl.Pure Tryz.prog 6 [enc a, enc b] S (bothV (isOk fnG a && isOk fnG b) (belowB a b)) :=
 mkPure hm Tryz.func6 g6 c6 (Nat.le_of_ble_eq_true rfl) (bothV_refs _ _) (w6 _ a b (isOk fnG a) (isOk fnG b) (belowB a b) (x14 a fa) (x14 b fb) (fun oa ob S => p15 fa fb oa ob S)) S
def allOk (x : List Fm) : Bool := !x.any fun f => !isOk fnG f
theorem allOk_mem {x : List Fm} (h : allOk x = true) : ∀ f ∈ x, Ok f := fun f hf => by
 unfold allOk at h
 rw [Bool.not_eq_true', List.any_eq_false] at h
 simpa using h f hf
theorem fine_mem {x : List Fm} (h : fsizes x ≤ 1048576) : ∀ f ∈ x, Fine f := fun f hf => by have := fs_mem hf; simp only [Fine]; omega
theorem y19 {x : List Fm} (nx : Bool) (h : fsizes x ≤ 1048576) (S : St) : Pl.Pure Tryz.prog 19 [.sl nx 4 (encs x), .fn 18 []] S (.bool (!allOk x)) := by
 unfold allOk
 rw [Bool.not_not]
 refine Z.p19 nx x 18 [] (fun f => !isOk fnG f) (by have := fs_len x; omega) S (by simp only [V.refsBs]) fun f hf => ?_
 exact mkPure hm Tryz.func18 g18 c18 (Nat.le_of_ble_eq_true rfl) (qB _) (w18 _ f (isOk fnG f) (x14 f (fine_mem h f hf))) S
theorem p8 {x y : List Fm} (nx ny : Bool) (hx : fsizes x ≤ 1048576) (hy : fsizes y ≤ 1048576) (S : St) : Pl.Pure Tryz.prog 8 [.sl nx 4 (encs x), .sl ny 4 (encs y)] S (bothV (allOk x && allOk y) (fallsB belowB x y)) :=
 mkPure hm Tryz.func8 g8 c8 (Nat.le_of_ble_eq_true rfl) (bothV_refs _ _) (w8 _ belowB nx ny x y (allOk x) (allOk y) (by have := fs_len x; omega) (by have := fs_len y; omega) (y19 nx hx) (y19 ny hy) (fun a ha b S => p20 a b (fine_mem hx a ha) S)
  (fun ox oy a ha b hb S => p15 (fine_mem hx a ha) (fine_mem hy b hb) (allOk_mem ox a ha) (allOk_mem oy b hb) S)) S
theorem p4 {a b c : Fm} {x y z : List Fm} (nx ny nz : Bool) (fa : Fine a) (fb : Fine b) (fc : Fine c) (hx : fsizes x ≤ 1048576) (hy : fsizes y ≤ 1048576) (hz : fsizes z ≤ 1048576) (S : St) :
  Pl.Pure Tryz.prog 4 [enc a, enc b, enc c, .sl nx 4 (encs x), .sl ny 4 (encs y), .sl nz 4 (encs z)] S (.bool true) := by
 refine mkPure hm Tryz.func4 g4 c4 (Nat.le_of_ble_eq_true rfl) (qB _) (w4 _ a b c nx ny nz (encs x) (encs y) (encs z) _ _ _ _ _ _ _ _ _ _ _ _ _ _ _ _ ?_ ?_ ?_ ?_ (p6 fa fa) (p6 fa fb) (p6 fb fc) (p6 fa fc) (p8 nx nx hx hx) (p8 nx ny hx hy) (p8 ny nz hy hz) (p8 nx nz hx hz) Z.p10) S
 ·cases h : isOk fnG a with
  | false => rfl
  | true => rw [below_irr h]; rfl
 ·intro h1 h2
  simp only [Bool.and_eq_true] at *
  exact ⟨⟨h1.1.1, h2.1.2⟩, below_trans h1.1.1 h1.1.2 h2.1.2 h1.2 h2.2⟩
 ·rw [falls_irrefl]; simp
 ·intro h1 h2
  simp only [Bool.and_eq_true] at *
  exact ⟨⟨h1.1.1, h2.1.2⟩, falls_trans below_law x y z (allOk_mem h1.1.1) (allOk_mem h1.1.2) (allOk_mem h2.1.2) h1.2 h2.2⟩
end Go.Pl.L
