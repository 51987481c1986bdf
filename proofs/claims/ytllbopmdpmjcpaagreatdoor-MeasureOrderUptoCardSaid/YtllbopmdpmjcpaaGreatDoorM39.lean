import Derived.Test.YtllbopmdpmjcpaaGreatDoorM27
import Derived.Test.YtllbopmdpmjcpaaGreatDoorM34
import Derived.Test.YtllbopmdpmjcpaaGreatDoorM35
import Derived.Test.YtllbopmdpmjcpaaGreatDoorM37
import Derived.Test.YtllbopmdpmjcpaaGreatDoorM38
import Derived.Sort.Walk0
set_option linter.unusedSimpArgs false
set_option linter.unusedVariables false
set_option linter.unusedSectionVars false
section
open Go Go.Pl Go.Proofs Go.Pl.Z Go.Shelf
namespace Go.Proofs
set_option maxRecDepth 100000
def Tryz.lClS_ren : Go.Shelf.Ren := ⟨fun | 41 => 210 | n => n, fun | 22 => 75 | 23 => 9 | 4 => 4 | n => n, fun | n => n⟩
theorem Tryz.lClS : Go.Proofs.SlLaysE0.n41 Tryz.prog Tryz.lClS_ren := {
 mixed := by kernel_rfl,
 f41 := ⟨Tryz.f210.name, by decide, Tryz.func210.trans (congrArg some (by kernel_rfl))⟩,
 t4 := Tryz.underlying4,
 a4 := Tryz.isAgg4,
 z4 := Tryz.sizeOf4,
 v4 := Tryz.zeroValue4,
 t22 := Tryz.underlying75,
 a22 := Tryz.isAgg75,
 z22 := Tryz.sizeOf75,
 v22 := Tryz.zeroValue75 }
end Go.Proofs
namespace Go.Pl.Z
set_option maxRecDepth 100000
noncomputable def tiS : TypeInfo := (Tryz.prog.info? 9).getD default
theorem tiS_eq : Tryz.prog.info? 9 = some tiS := by kernel_rfl
theorem p210_nil (S : St) : Pl.Pure Tryz.prog 210 [.sl true 1 []] S (.sl true 1 []) := cClone_nil (P := Tryz.prog) Tryz.lClS (by kernel_rfl) 1 S
theorem k210 (l : List (List UInt8)) (hl : l.length ≤ 16777216) (S : St) :
  ACalls Tryz.prog 210 [.sl false 1 (strs l)] S fun e S' => e = .ret (.bs S.n 0 1 0 (strs l).length) ∧ S' = S.one (.rows 1 (strs l)) := by
 refine cClone (P := Tryz.prog) Tryz.lClS (by kernel_rfl) tiS (.string ⟨#[]⟩) 1 16 tiS_eq (by kernel_rfl) (by kernel_rfl) (by kernel_rfl) (by kernel_rfl) (by omega) (fun w => ?_) (strs l) (fun x hx => ?_) ?_ ?_ S
 ·kernel_rfl
 ·simp only [strs, List.mem_map] at hx
  obtain ⟨f, -, rfl⟩ := hx
  exact ⟨rfl, rfl⟩
 ·simp [maxLen]; omega
 ·simp; omega
theorem le_bl (x y : List UInt8) : x ≤ y ↔ Op.bytesLess y x = false := by
 rw [bytesLess_eq]; simp
theorem bl_le_trans {x y z : List UInt8} (h1 : Op.bytesLess y x = false) (h2 : Op.bytesLess z y = false) : Op.bytesLess z x = false := by
 cases h : Op.bytesLess z x with
 | false => rfl
 | true =>
  cases h3 : Op.bytesLess x y with
  | true => have := bl_trans _ _ _ h h3; rw [h2] at this; cases this
  | false =>
   have := bl_total x y h3 h1
   subst this
   rw [h] at h2; cases h2
theorem bl_le_total (x y : List UInt8) : Op.bytesLess y x = false ∨ Op.bytesLess x y = false := by
 cases h1 : Op.bytesLess y x with
 | false => exact .inl rfl
 | true =>
  cases h2 : Op.bytesLess x y with
  | false => exact .inr rfl
  | true => have := bl_trans _ _ _ h1 h2; rw [bl_irr] at this; cases this
theorem sortS_sorted (l : List (List UInt8)) : (sortS l).Pairwise fun x y => Op.bytesLess y x = false := by
 have := List.pairwise_mergeSort (le := fun x y : List UInt8 => decide (x ≤ y)) (fun a b c h1 h2 => by
  simp only [decide_eq_true_eq, le_bl] at *; exact bl_le_trans h1 h2) (fun a b => by
  simp only [Bool.or_eq_true, decide_eq_true_eq, le_bl]; exact bl_le_total a b) l
 refine this.imp fun {a b} h => ?_
 rw [← le_bl]; simpa using h
theorem sortS_perm (l : List (List UInt8)) : (sortS l).Perm l := List.mergeSort_perm l _
theorem compT_le : ∀ (r : List (List UInt8)) (u : List UInt8), (compT u r).length ≤ r.length
 | [], _ => Nat.le_refl _
 | v :: r, u => by
  have := compT_le r v
  simp only [compT]
  split <;> simp <;> omega
theorem compT_len : ∀ (r : List (List UInt8)) (u : List UInt8), (u :: r).Pairwise (fun x y => Op.bytesLess y x = false) → ((compT u r).length = r.length ↔ (u :: r).Nodup)
 | [], u, _ => by simp [compT]
 | v :: r, u, h => by
  obtain ⟨h1, h2⟩ := List.pairwise_cons.1 h
  have ih := compT_len r v h2
  simp only [compT]
  by_cases e : v = u
  ·subst e
   have := compT_le r v
   simp
   omega
  ·rw [if_neg e]
   simp only [List.length_cons, Nat.add_right_cancel_iff, ih]
   constructor
   ·intro hn
    refine List.nodup_cons.2 ⟨fun hu => ?_, hn⟩
    rcases List.mem_cons.1 hu with hu | hu
    ·exact e hu.symm
    ·have k1 := (List.pairwise_cons.1 h2).1 u hu
     have k2 := h1 v (by simp)
     exact e (bl_total v u (by simpa using k2) (by simpa using k1))
   ·exact fun hn => (List.nodup_cons.1 hn).2
theorem compS_len (l : List (List UInt8)) (h : l.Pairwise (fun x y => Op.bytesLess y x = false)) : (compS l).length = l.length ↔ l.Nodup := by
 cases l with
 | nil => simp [compS]
 | cons x l => rw [← compT_len l x h]; simp [compS]
end Go.Pl.Z
namespace Go.Pl.L
set_option maxRecDepth 10000
theorem x208 (v : V) (hv : v.plain = v) (hd : v.data = true) : Thr Tryz.prog 208 [v] (.ret (.fn 225 [.ro v])) := by
 refine t208 _ _ fun S => ?_
 unfold s208
 simp [hv, hd]
theorem x209_nil : Thr Tryz.prog 209 [.sl true 1 []] (.ret (.sl true 1 [])) := by
 refine t209 _ _ (fun p => trivial) fun S => ?_
 unfold s209
 simp [Own.refl]
end Go.Pl.L
end
section
open Go Go.Pl Go.Proofs Go.Pl.Z Go.Shelf
namespace Go.Pl.L
set_option maxRecDepth 10000
theorem over_one {S : St} (hw : WFS S) {x : V} {l : List (List UInt8)} : Over S ((S.enter.one x).rwt S.enter.n 0 l) S := by
 refine ⟨Nat.le_refl _, rfl, Nat.le_refl _, fun i k y hy => ⟨?_, hw i k y hy⟩⟩
 have hne : ¬ (i = S.enter.n ∧ k = 0) := fun e => by
  have := ((ok_iff S i k).1 (hw i k y hy).1).1
  simp only [St.enter] at e
  omega
 simp only [St.rwt, St.set, St.one, upd2_eq S.enter.hO]
 rw [if_neg hne, if_neg hne]; exact hy
theorem x168 (l : List (List UInt8)) (hl : l.length ≤ 16777216) : Thr Tryz.prog 168 [(keyS l).plain] (endX (onceX l)) := by
 cases l with
 | nil =>
  refine t168 _ _ fun S => ?_
  unfold s168
  simp [keyS]
  refine Thr.call (x208 _ rfl rfl) ?_
  simp
  refine Thr.call (Thr.ofPure fun S => p207n true 4 S) ?_
  simp
  refine Thr.call (Thr.ofPure fun S => p210_nil S) ?_
  simp
  refine Thr.call x209_nil ?_
  simp [onceX]
 | cons x l =>
  generalize hz : x :: l = zs at *
  have hk : (keyS zs).plain = .sl false 1 (zs.map .str) := by rw [← hz]; rfl
  have he : zs.isEmpty = false := by rw [← hz]; rfl
  rw [hk]
  intro S
  refine u168 _ S _ fun hw => ?_
  unfold s168
  simp
  refine Thr.call (x208 _ rfl rfl) ?_
  simp
  refine Thr.call (Thr.ofPure fun S => p207 false zs hl S) ?_
  simp [he]
  have hsl : (sortS zs).length = zs.length := (sortS_perm zs).length_eq
  refine (k210 (sortS zs) (by rw [hsl]; exact hl) S.enter).mono ?_
  rintro e S1 ⟨rfl, rfl⟩
  simp only [callE, pl_bs, strs_length]
  refine (x209 (sortS zs) (sortS zs).length rfl (by rw [hsl]; exact hl) (S.enter.one (.rows 1 (strs (sortS zs)))) S.enter.n 0 one_H).mono ?_
  rintro e S2 ⟨Q, R, rfl, rfl, hQ⟩
  simp only [callE, pl_bs]
  have hnd : Q.length = (sortS zs).length ↔ zs.Nodup := by
   rw [hQ, compS_len _ (sortS_sorted zs)]; exact (sortS_perm zs).nodup_iff
  simp
  refine br (fun hne => ?_) (fun heq => ?_)
  ·simp at hne
   have hno : ¬ zs.Nodup := fun h => hne (by have := hnd.2 h; omega)
   have ho : onceX zs = some 7 := by simp [onceX, hno]
   have e1 : ∀ S : St, opV S (M.mk [V.int IntKind.i64 0] [(0, 1, X.k (V.int IntKind.i64 7))]) = some (.agg [.int .i64 7]) := fun S => rfl
   have e2 : ∀ S : St, opV S (M.mki 95 (X.k (.agg [.int .i64 7]))) = some (.iface 95 (.agg [.int .i64 7])) := fun S => op_mki rfl
   rw [e1]
   simp only [bnd_some', plain_agg]
   rw [e2]
   exact ⟨S, by simp [V.refsB, V.refsBs], over_one hw, by rw [ho]; rfl, rfl⟩
  ·simp at heq
   have hyes : zs.Nodup := hnd.1 (by omega)
   have ho : onceX zs = none := by simp [onceX, hyes]
   exact ⟨S, trivial, over_one hw, by rw [ho]; rfl, rfl⟩
end Go.Pl.L
end
section
open Go Go.Pl Go.Proofs Go.Pl.Z
namespace Go.Pl.L
set_option maxRecDepth 100000
def exprN : Nat → Fm → Option Int
 | 0, _ => none
 | n + 1, f => exprX reservedB (exprN n) f
theorem x111N : ∀ (n : Nat) (f : Fm), fsize f ≤ n → Fine f → Thr Tryz.prog 111 [enc f] (endX (exprN n f)) := by
 intro n
 induction n with
 | zero => intro f h; have := fs_pos f; omega
 | succ n ih =>
  intro f h hf
  exact x111 reservedB (exprN n) f hf (fun g hg => ih g (by omega) (by simp only [Fine] at *; omega)) (Thr.ofPure fun S => p86 f.text S) fun l hl => x168 l (by omega)
def exprV (f : Fm) : Option Int := exprN (fsize f) f
def exprC (f : Fm) : Int := if validB f then (exprV f).getD 0 else 1
theorem x89 (f : Fm) (hf : Fine f) (S : St) : Pl.Pure Tryz.prog 89 [enc f] S (.int .i64 (exprC f)) :=
 p89 f hf (exprV f) (fun S => Thr.throws (tid := 95) (x111N _ f (Nat.le_refl _) hf) S) S
def fnG (W : Fm → Bool) (r : List Fm) : Bool := fnB exprC W r
theorem kd_mem {k : List Fm} {i : Nat} (h : i < k.length) : kd k i ∈ k := by
 unfold kd
 rw [List.getD_eq_getElem?_getD, List.getElem?_eq_getElem h]
 exact List.getElem_mem h
theorem capsB_congr {W W' : Fm → Bool} : ∀ (r : List Fm) (last : List UInt8), (∀ p ∈ r, ∀ g ∈ p.kids, W g = W' g) → capsB W last r = capsB W' last r
 | [], _, _ => rfl
 | p :: r, last, h => by
  simp only [capsB]
  by_cases h2 : (p.kids.length : Int) = 2
  ·have e := h p (by simp) (kd p.kids 1) (kd_mem (by omega))
   rw [e, capsB_congr r _ fun q hq => h q (by simp [hq])]
  ·simp [h2]
theorem fnG_congr (W W' : Fm → Bool) (r : List Fm) (h : ∀ g, fsize g < fsizes r + 5 → W g = W' g) : fnG W r = fnG W' r := by
 unfold fnG fnB
 split
 ·rename_i a e ps
  rw [capsB_congr ps [] fun p hp g hg => h g (by
   have h1 := fs_mem hp
   have h2 := fs_kid hg
   simp only [fsizes]; omega)]
 ·rfl
theorem x27 (f : Fm) (hf : Fine f) (S : St) : Pl.Pure Tryz.prog 27 [enc f] S (.bool (isV fnG f)) :=
 p27 fnG_congr (fun nl r hr h27 S => (x57 exprC (isV fnG) nl r hr (fun e he => Thr.ofPure fun S => x89 e (by have := fs_mem he; simp only [Fine]; omega) S) (fun s => Thr.ofPure fun S => p56 s S)
  (fun p hp g hg => Thr.ofPure fun S => h27 g (by have := fs_mem hp; have := fs_kid hg; omega) (by have := fs_mem hp; have := fs_kid hg; simp only [Fine]; omega) S)).pure S) _ f (Nat.le_refl _) hf S
theorem x14 (f : Fm) (hf : Fine f) (S : St) : Pl.Pure Tryz.prog 14 [enc f] S (.bool (isOk fnG f)) := p14 f hf (x27 f hf) S
end Go.Pl.L
end
section
open Go Go.Pl Go.Proofs Go.Pl.Z
namespace Go.Pl.L
set_option maxRecDepth 10000
theorem x93 {a b : Fm} (nl : Bool) (ha : BagOk a) (hb : BagOk b) : Thr Tryz.prog 93 [.str meetW, .sl nl 4 (encs [a, b])] (.ret (enc (meetOf a b))) := by
 refine t93 _ _ _ (fun p => enc_own _ p) fun S => ?_
 unfold s93
 have m1 : (meetW = [43]) = False := eq_false (by decide)
 have m2 : (meetW = [45]) = False := eq_false (by decide)
 have m3 : (meetW = [42]) = False := eq_false (by decide)
 have m4 : (meetW = [100, 105, 118]) = False := eq_false (by decide)
 have m5 : (meetW = [109, 111, 100]) = False := eq_false (by decide)
 have m6 : (meetW = [60]) = False := eq_false (by decide)
 have m7 : (meetW = [60, 61]) = False := eq_false (by decide)
 have m8 : (meetW = [110, 101, 103]) = False := eq_false (by decide)
 have m9 : (meetW = [61]) = False := eq_false (by decide)
 have n1 : (meetW = [110, 111, 116]) = False := eq_false (by decide)
 have n2 : (meetW = [97, 110, 100]) = False := eq_false (by decide)
 have n3 : (meetW = [111, 114]) = False := eq_false (by decide)
 have n4 : (meetW = [61, 62]) = False := eq_false (by decide)
 have n5 : (meetW = [105, 102, 102]) = False := eq_false (by decide)
 have n6 : (meetW = [98, 97, 110, 100]) = False := eq_false (by decide)
 have n7 : (meetW = [98, 111, 114]) = False := eq_false (by decide)
 have n8 : (meetW = [98, 120, 111, 114]) = False := eq_false (by decide)
 have n9 : (meetW = [98, 97, 100, 100]) = False := eq_false (by decide)
 have o1 : (meetW = [98, 110, 117, 109]) = False := eq_false (by decide)
 simp [-gjn_eq]
 refine ⟨?_⟩
 simp [-gjn_eq, m1, m2, m3, m4, m5, m6, m7, m8, m9, n1, n2, n3, n4, n5, n6, n7, n8, n9, o1]
 refine ⟨?_⟩
 simp [-gjn_eq, n4, n5, n6, n7, n8, n9, o1]
 refine ⟨?_⟩
 simp [-gjn_eq, n4, n5, n6, n7, n8, n9, o1]
 refine ⟨?_⟩
 simp [-gjn_eq, n4, n5, n6, n7, n8, n9, o1]
 refine Thr.call (x121 nl ha hb) ?_
 simp
 exact box_enc _
theorem x92 {a b : Fm} (nl : Bool) (ha : BagOk a) (hb : BagOk b) : Thr Tryz.prog 92 [.ro (.str meetW), .ro (.sl nl 4 (encs [a, b]))] (.ret (enc (meetOf a b))) := by
 refine t92 _ _ _ (fun p => enc_own _ p) fun S => ?_
 unfold s92
 simp
 refine Thr.call (x93 nl ha hb) ?_
 simp
 exact box_enc _
theorem x90 (f : Fm) (hf : Fine f) : Thr Tryz.prog 90 [enc f] (.ret (.bool (!isOk fnG f))) := by
 refine t90 _ _ fun S => ?_
 unfold s90
 simp
 refine Thr.call (Thr.ofPure fun S => x14 f hf S) ?_
 simp
end Go.Pl.L
end
section
open Go Go.Pl Go.Proofs Go.Pl.Z
namespace Go.Pl.L
set_option maxRecDepth 10000
theorem x64 {a b x : Fm} {e : Int} (nl : Bool) (ha : BagOk a) (hb : BagOk b) (oa : isOk fnG a = true) (ob : isOk fnG b = true) (h91 : Thr Tryz.prog 91 [.fn 92 [.ro (.str meetW), .ro (.sl nl 4 (encs [a, b]))]] (.ret (.tup [enc x, .int .i64 e]))) :
  Thr Tryz.prog 64 [.str meetW, .sl nl 4 (encs [a, b])] (.ret (.tup [enc x, .int .i64 e])) := by
 refine t64 _ _ _ (fun p => ?_) fun S => ?_
 ·have := enc_own x p
  simp only [AE.refsB, V.refsB, V.refsBs, and_true] at this ⊢
  exact this
 unfold s64
 simp
 have h19 : Thr Tryz.prog 19 [.sl nl 4 (encs [a, b]), .fn 90 []] (.ret (.bool ([a, b].any fun f => !isOk fnG f))) := Thr.ofPure fun S =>
  p19 nl [a, b] 90 [] (fun f => !isOk fnG f) (by simp) S (by simp only [V.refsBs]) (fun f hf => (x90 f (by
   simp at hf
   rcases hf with rfl | rfl
   ·exact ha.fine
   ·exact hb.fine)).pure S)
 refine Thr.call h19 ?_
 simp [oa, ob]
 refine Thr.call h91 ?_
 simp
 exact box_enc _
def bagB (x : Fm) (e : Int) (b a : Fm) : Bool := decide (e = 0) && (decide (cmpF x b = 0) && !decide (cmpF a b = 0))
theorem x32 {a b x : Fm} {e : Int} (ha : BagOk a) (hb : BagOk b) (oa : isOk fnG a = true) (ob : isOk fnG b = true) (h91 : Thr Tryz.prog 91 [.fn 92 [.ro (.str meetW), .ro (.sl false 4 (encs [a, b]))]] (.ret (.tup [enc x, .int .i64 e])))
  (h20 : e = 0 → Thr Tryz.prog 20 [enc x, enc b] (.ret (.bool (decide (cmpF x b = 0))))) : Thr Tryz.prog 32 [enc b, enc a] (.ret (.bool (bagB x e b a))) := by
 refine t32 _ _ _ fun S => ?_
 unfold s32
 simp
 refine eff_mks2 ⟨enc_data _, enc_cells_length _⟩ ⟨enc_data _, enc_cells_length _⟩ (by omega) ?_
 simp only [plain_gr]
 refine Thr.call (x64 false ha hb oa ob h91) ?_
 by_cases he : e = 0
 ·simp [he]
  refine Thr.call (h20 he) ?_
  cases h : decide (cmpF x b = 0) with
  | false => simp [bagB, h]
  | true =>
   simp
   refine Thr.call (thr20 a b ha.fine) ?_
   simp [bagB, h, he]
 ·simp [he, bagB]
end Go.Pl.L
end
section
open Go Go.Pl Go.Proofs Go.Pl.Z
namespace Go.Pl.L
theorem asc_lt : ∀ (l : List Fm), ascB l = true → l.Pairwise fun a b => cmpF a b < 0
 | [], _ => List.Pairwise.nil
 | [a], _ => List.pairwise_singleton _ _
 | a :: b :: r, h => by
  simp only [ascB] at h
  by_cases h0 : 0 ≤ cmpF a b
  ·simp [h0] at h
  ·simp [h0] at h
   have ih := asc_lt (b :: r) h
   refine List.pairwise_cons.2 ⟨fun x hx => ?_, ih⟩
   rcases List.mem_cons.1 hx with rfl | hx
   ·omega
   ·have := (List.pairwise_cons.1 ih).1 x hx
    exact cmpF_lt_le (by omega : cmpF a b < 0) (by omega)
theorem srtK_of {l : List Fm} (h : ascB (l.map fstF) = true) : SrtdK l := by
 have := asc_lt _ h
 rw [List.pairwise_map] at this
 exact this.imp fun h => by omega
theorem head_kind {f : Fm} (h : headF f = bagW) : f.kind = 3 ∧ f.kids ≠ [] := by
 unfold headF at h
 by_cases hk : f.kind = 3
 ·refine ⟨hk, fun e => ?_⟩
  rw [if_pos hk, e] at h
  exact absurd h (by decide)
 ·rw [if_neg hk] at h
  exact absurd h (by decide)
theorem bagOk_of {f : Fm} (hf : Fine f) (h : isOk fnG f = true) (hh : headF f = bagW) : BagOk f := by
 obtain ⟨hk, hne⟩ := head_kind hh
 have h2 : isV fnG f = true := by
  unfold isOk at h
  simp at h
  exact h.2
 rw [isV_eq fnG_congr] at h2
 have hp : pairsB (isV fnG) (f.kids.drop 1) = true := by
  unfold isX at h2
  have c0 : decide (f.kind = 0) = false := by simp [hk]
  have c1 : decide (f.kind = 1) = false := by simp [hk]
  have c2 : decide (f.kind = 2) = false := by simp [hk]
  rw [c0, c1, c2, hh] at h2
  simp only [cond_false] at h2
  cases hks : f.kids with
  | nil => exact (hne hks).elim
  | cons a r =>
   rw [hks] at h2
   simp only [kidsX, headX] at h2
   rw [show decide (bagW = hBits) = false by decide, show decide (bagW = hSeq) = false by decide, show decide (bagW = hSet) = false by decide, show decide (bagW = hBag) = true by decide] at h2
   simp only [cond_false, cond_true, Bool.and_eq_true] at h2
   exact h2.1
 unfold pairsB at hp
 simp only [Bool.and_eq_true] at hp
 refine ⟨hh, hne, fun p hpm => ?_, hf, srtK_of hp.2⟩
 have := List.all_eq_true.1 hp.1 p hpm
 unfold pairB at this
 simp only [Bool.and_eq_true, decide_eq_true_eq] at this
 have := this.2.1
 omega
end Go.Pl.L
end
section
open Go Go.Pl Go.Pl.Z
namespace Go.Pl.L
theorem compG_asc : ∀ (r : List Fm) (u : Fm), Srtd (u :: r) → (u :: compG u r).Pairwise fun a b => cmpF a b < 0
 | [], u, _ => List.pairwise_singleton _ _
 | v :: r, u, h => by
  obtain ⟨h1, h2⟩ := List.pairwise_cons.1 h
  have ih := compG_asc r v h2
  have huv := h1 v (by simp)
  have hfl := cmpF_flip u v
  simp only [compG]
  by_cases e : cmpF v u = 0
  ·rw [if_pos e]
   obtain ⟨i1, i2⟩ := List.pairwise_cons.1 ih
   exact List.pairwise_cons.2 ⟨fun x hx => cmpF_le_lt huv (i1 x hx), i2⟩
  ·rw [if_neg e]
   have hlt : cmpF u v < 0 := by omega
   refine List.pairwise_cons.2 ⟨fun x hx => ?_, ih⟩
   rcases List.mem_cons.1 hx with rfl | hx
   ·exact hlt
   ·have := (List.pairwise_cons.1 ih).1 x hx
    exact cmpF_lt_le hlt (by omega)
theorem compF_asc (l : List Fm) (h : Srtd l) : (compF l).Pairwise fun a b => cmpF a b < 0 := by
 cases l with
 | nil => exact List.Pairwise.nil
 | cons x r => exact compG_asc r x h
theorem sort_asc (l : List Fm) : (compF (sortF l)).Pairwise fun a b => cmpF a b < 0 := compF_asc _ (sortF_spec l).2
theorem compG_has : ∀ (r : List Fm) (u f : Fm), f ∈ u :: r → ∃ g ∈ u :: compG u r, cmpF g f = 0
 | [], u, f, h => by simp at h; subst h; exact ⟨f, by simp, Same.refl f⟩
 | v :: r, u, f, h => by
  simp only [compG]
  rcases List.mem_cons.1 h with rfl | h
  ·exact ⟨f, by simp, Same.refl f⟩
  ·obtain ⟨g, hg, he⟩ := compG_has r v f h
   by_cases e : cmpF v u = 0
   ·rw [if_pos e]
    rcases List.mem_cons.1 hg with rfl | hg
    ·exact ⟨u, by simp, Same.trans u g f (Same.symm _ _ e) he⟩
    ·exact ⟨g, by simp [hg], he⟩
   ·rw [if_neg e]
    exact ⟨g, by simp at hg ⊢; rcases hg with h | h <;> simp [h], he⟩
theorem sort_has (l : List Fm) {f : Fm} (h : f ∈ l) : ∃ g ∈ compF (sortF l), cmpF g f = 0 := by
 have h2 : f ∈ sortF l := (sortF_spec l).1.mem.1 h
 cases e : sortF l with
 | nil => rw [e] at h2; cases h2
 | cons x r => rw [e] at h2; exact compG_has r x f h2
def AscK (l : List Fm) : Prop := l.Pairwise fun p q => cmpF (fstF p) (fstF q) < 0
theorem ascK_get {l : List Fm} (h : AscK l) {i j : Nat} {x y : Fm} (hx : l[i]? = some x) (hy : l[j]? = some y) (hij : i < j) : cmpF (fstF x) (fstF y) < 0 := by
 obtain ⟨h1, rfl⟩ := List.getElem?_eq_some_iff.1 hx
 obtain ⟨h2, rfl⟩ := List.getElem?_eq_some_iff.1 hy
 exact (List.pairwise_iff_getElem.1 h) i j h1 h2 hij
theorem posF_at {l : List Fm} (h : AscK l) {i : Nat} {p k : Fm} (hp : l[i]? = some p) (he : cmpF (fstF p) k = 0) : posF l k = i := by
 have hi := (List.getElem?_eq_some_iff.1 hp).1
 refine takeWhile_len l i (by omega) (fun j x hj hx => ?_) (fun x hx => ?_)
 ·have := cmpF_lt_le (ascK_get h hx hp hj) (show cmpF (fstF p) k ≤ 0 by omega)
  simpa using this
 ·rw [hp] at hx
  cases hx
  simp [he]
theorem timesF_at {l : List Fm} (h : AscK l) {p k : Fm} (hp : p ∈ l) (he : cmpF (fstF p) k = 0) : timesF l k = (sndF p).n := by
 obtain ⟨i, hi⟩ := List.mem_iff_getElem?.1 hp
 have hpos := posF_at h hi he
 have hf : foundB l k = true := by unfold foundB; rw [hpos, hi]; simp [he]
 unfold timesF
 rw [hf, hpos, hi]; rfl
end Go.Pl.L
end
section
open Go Go.Pl Go.Pl.Z
namespace Go.Pl.L
structure Cnt (p : Fm) : Prop where
 kind : p.kind = 3
 two : ∃ k c, p.kids = [k, c] ∧ c.kind = 0 ∧ 1 ≤ c.n
theorem same_kind {f g : Fm} (h : Same f g) : f.kind = g.kind := by
 obtain ⟨k, n, t, b, l⟩ := f
 obtain ⟨k', n', t', b', l'⟩ := g
 exact ((same_iff ..).1 h).1
theorem same_num {f g : Fm} (h : Same f g) (hk : f.kind = 0) : f.n = g.n := by
 obtain ⟨k, n, t, b, l⟩ := f
 obtain ⟨k', n', t', b', l'⟩ := g
 exact ((same_iff ..).1 h).2.1 hk
theorem same_text {f g : Fm} (h : Same f g) (hk : f.kind = 1) : f.text = g.text := by
 obtain ⟨k, n, t, b, l⟩ := f
 obtain ⟨k', n', t', b', l'⟩ := g
 exact ((same_iff ..).1 h).2.2.1 (.inl hk)
theorem same_kids {f g : Fm} (h : Same f g) (hk : f.kind = 3) : Sames f.kids g.kids := by
 obtain ⟨k, n, t, b, l⟩ := f
 obtain ⟨k', n', t', b', l'⟩ := g
 exact ((same_iff ..).1 h).2.2.2 hk
theorem same_list {f g : Fm} (hf : f.kind = 3) (hg : g.kind = 3) (h : Sames f.kids g.kids) : Same f g := by
 obtain ⟨k, n, t, b, l⟩ := f
 obtain ⟨k', n', t', b', l'⟩ := g
 simp only [Fm.kind] at hf hg
 subst hf; subst hg
 exact (same_iff ..).2 ⟨rfl, fun h => by omega, fun h => by omega, fun _ => h⟩
theorem same_ofNum {f g : Fm} (hf : f.kind = 0) (hg : g.kind = 0) (h : f.n = g.n) : Same f g := by
 obtain ⟨k, n, t, b, l⟩ := f
 obtain ⟨k', n', t', b', l'⟩ := g
 simp only [Fm.kind] at hf hg
 subst hf; subst hg
 exact (same_iff ..).2 ⟨rfl, fun _ => h, fun h => by omega, fun h => by omega⟩
theorem Cnt.pos {p : Fm} (h : Cnt p) : 1 ≤ (sndF p).n := by
 obtain ⟨k, c, e, h1, h2⟩ := h.two
 unfold sndF; rw [e]; exact h2
theorem cnt_same {p q : Fm} (hp : Cnt p) (hq : Cnt q) : Same p q ↔ Same (fstF p) (fstF q) ∧ (sndF p).n = (sndF q).n := by
 obtain ⟨k, c, e, h1, h2⟩ := hp.two
 obtain ⟨k', c', e', h1', h2'⟩ := hq.two
 have f1 : fstF p = k := by unfold fstF; rw [e]; rfl
 have f2 : sndF p = c := by unfold sndF; rw [e]; rfl
 have f3 : fstF q = k' := by unfold fstF; rw [e']; rfl
 have f4 : sndF q = c' := by unfold sndF; rw [e']; rfl
 rw [f1, f2, f3, f4]
 constructor
 ·intro h
  have := same_kids h hp.kind
  rw [e, e', sames_cons, sames_cons] at this
  exact ⟨this.1, same_num this.2.1 h1⟩
 ·rintro ⟨h3, h4⟩
  refine same_list hp.kind hq.kind ?_
  rw [e, e', sames_cons, sames_cons]
  exact ⟨h3, same_ofNum h1 h1' h4, sames_nil⟩
theorem lt_same_r {a b b' : Fm} (h : Same b b') (hl : cmpF a b < 0) : cmpF a b' < 0 := cmpF_lt_le hl (by unfold Same at h; omega)
theorem lt_not_same {a b : Fm} (h : Same a b) (hl : cmpF a b < 0) : False := by unfold Same at h; omega
theorem asc_ext : ∀ {l m : List Fm}, AscK l → AscK m → (∀ p ∈ l, Cnt p) → (∀ p ∈ m, Cnt p) → (∀ p ∈ l, ∃ q ∈ m, Same p q) → (∀ q ∈ m, ∃ p ∈ l, Same p q) → Sames l m
 | [], [], _, _, _, _, _, _ => sames_nil
 | [], q :: m, _, _, _, _, _, h => by obtain ⟨p, hp, _⟩ := h q (by simp); cases hp
 | p :: l, [], _, _, _, _, h, _ => by obtain ⟨q, hq, _⟩ := h p (by simp); cases hq
 | p :: l, q :: m, al, am, cl, cm, h1, h2 => by
  obtain ⟨al1, al2⟩ := List.pairwise_cons.1 al
  obtain ⟨am1, am2⟩ := List.pairwise_cons.1 am
  have ks : ∀ {x y : Fm}, x ∈ p :: l → y ∈ q :: m → Same x y → Same (fstF x) (fstF y) := fun hx hy h => ((cnt_same (cl _ hx) (cm _ hy)).1 h).1
  have hpq : Same p q := by
   obtain ⟨q1, hq1, e1⟩ := h1 p (by simp)
   rcases List.mem_cons.1 hq1 with rfl | hq1'
   ·exact e1
   obtain ⟨p1, hp1, e2⟩ := h2 q (by simp)
   rcases List.mem_cons.1 hp1 with rfl | hp1'
   ·exact e2
   have a1 := am1 q1 hq1'
   have a2 := al1 p1 hp1'
   have k1 := ks (by simp) hq1 e1
   have k2 := ks hp1 (by simp) e2
   have b1 := lt_same_r (Same.symm _ _ k1) a1
   have b2 := lt_same_r k2 a2
   exact (lt_not_same (Same.refl (fstF q)) (cmpF_lt_le b1 (by omega))).elim
  have hk := ks (by simp) (by simp) hpq
  refine (sames_cons ..).2 ⟨hpq, asc_ext al2 am2 (fun x hx => cl x (by simp [hx])) (fun x hx => cm x (by simp [hx])) (fun x hx => ?_) (fun y hy => ?_)⟩
  ·obtain ⟨y, hy, e⟩ := h1 x (by simp [hx])
   rcases List.mem_cons.1 hy with rfl | hy
   ·have := al1 x hx
    exact (lt_not_same (Same.trans _ _ _ hk (Same.symm _ _ (ks (by simp [hx]) (by simp) e))) this).elim
   ·exact ⟨y, hy, e⟩
  ·obtain ⟨x, hx, e⟩ := h2 y (by simp [hy])
   rcases List.mem_cons.1 hx with rfl | hx
   ·have := am1 y hy
    exact (lt_not_same (Same.trans _ _ _ (Same.symm _ _ hk) (ks (by simp) (by simp [hy]) e)) this).elim
   ·exact ⟨x, hx, e⟩
structure BagL (l : List Fm) : Prop where
 asc : AscK l
 cnt : ∀ p ∈ l, Cnt p
theorem found_of {l : List Fm} {k : Fm} (h : 0 < timesF l k) : ∃ p ∈ l, Same (fstF p) k ∧ timesF l k = (sndF p).n := by
 unfold timesF at h
 cases hf : foundB l k with
 | false => rw [hf] at h; simp at h
 | true =>
  unfold foundB at hf
  split at hf
  ·rename_i p hp
   refine ⟨p, List.mem_of_getElem? hp, by unfold Same; simpa using hf, ?_⟩
   unfold timesF
   have : foundB l k = true := by unfold foundB; rw [hp]; exact hf
   rw [this, hp]; rfl
  ·cases hf
theorem fst_pair (v : Fm) (n : Int) : fstF (pairF v n) = v := rfl
theorem snd_pair (v : Fm) (n : Int) : sndF (pairF v n) = numF n := rfl
theorem cnt_pair {v : Fm} {n : Int} (h : 1 ≤ n) : Cnt (pairF v n) := ⟨rfl, v, numF n, rfl, rfl, h⟩
theorem meetG_mem {x y : List Fm} {p : Fm} : ∀ {l : List Fm}, p ∈ meetG x y l ↔ ∃ v ∈ l, 0 < min (timesF x v) (timesF y v) ∧ p = pairF v (min (timesF x v) (timesF y v))
 | [] => by simp [meetG]
 | v :: l => by
  simp only [meetG]
  have ih := meetG_mem (x := x) (y := y) (p := p) (l := l)
  split
  ·rename_i h
   simp only [List.mem_cons, ih]
   constructor
   ·rintro (rfl | ⟨w, hw, h1, h2⟩)
    ·exact ⟨v, .inl rfl, h, rfl⟩
    ·exact ⟨w, .inr hw, h1, h2⟩
   ·rintro ⟨w, rfl | hw, h1, h2⟩
    ·exact .inl h2
    ·exact .inr ⟨w, hw, h1, h2⟩
  ·rename_i h
   rw [ih]
   constructor
   ·rintro ⟨w, hw, h1, h2⟩; exact ⟨w, by simp [hw], h1, h2⟩
   ·rintro ⟨w, hw, h1, h2⟩
    rcases List.mem_cons.1 hw with rfl | hw
    ·exact (h h1).elim
    ·exact ⟨w, hw, h1, h2⟩
theorem meetG_asc {x y : List Fm} : ∀ {l : List Fm}, l.Pairwise (fun a b => cmpF a b < 0) → AscK (meetG x y l)
 | [], _ => List.Pairwise.nil
 | v :: l, h => by
  obtain ⟨h1, h2⟩ := List.pairwise_cons.1 h
  simp only [meetG]
  split
  ·refine List.pairwise_cons.2 ⟨fun q hq => ?_, meetG_asc h2⟩
   obtain ⟨w, hw, _, rfl⟩ := meetG_mem.1 hq
   exact h1 w hw
  ·exact meetG_asc h2
theorem meetF_bag (x y : List Fm) : BagL (meetF x y) := ⟨meetG_asc (sort_asc _), fun p hp => by
 obtain ⟨v, _, h, rfl⟩ := meetG_mem.1 hp
 exact cnt_pair (by omega)⟩
def subB (b a : List Fm) : Prop := ∀ p ∈ b, ∃ q ∈ a, Same (fstF q) (fstF p) ∧ (sndF p).n ≤ (sndF q).n
theorem subB_trans {a b c : List Fm} (h1 : subB b a) (h2 : subB c b) : subB c a := fun p hp => by
 obtain ⟨q, hq, e, l⟩ := h2 p hp
 obtain ⟨r, hr, e', l'⟩ := h1 q hq
 exact ⟨r, hr, Same.trans _ _ _ e' e, by omega⟩
theorem key_uniq {a : List Fm} (ha : AscK a) {p q : Fm} (hp : p ∈ a) (hq : q ∈ a) (h : Same (fstF p) (fstF q)) : p = q := by
 obtain ⟨i, hi⟩ := List.mem_iff_getElem?.1 hp
 obtain ⟨j, hj⟩ := List.mem_iff_getElem?.1 hq
 rcases Nat.lt_trichotomy i j with c | c | c
 ·exact (lt_not_same h (ascK_get ha hi hj c)).elim
 ·subst c; rw [hi] at hj; exact Option.some.inj hj
 ·exact (lt_not_same (Same.symm _ _ h) (ascK_get ha hj hi c)).elim
theorem subB_antisymm {a b : List Fm} (ha : BagL a) (hb : BagL b) (h1 : subB b a) (h2 : subB a b) : Sames a b := by
 have one : ∀ {a b : List Fm}, BagL a → BagL b → subB b a → subB a b → ∀ p ∈ a, ∃ q ∈ b, Same p q := by
  intro a b ha hb h1 h2 p hp
  obtain ⟨q, hq, e, l⟩ := h2 p hp
  obtain ⟨r, hr, e', l'⟩ := h1 q hq
  have : r = p := key_uniq ha.asc hr hp (Same.trans _ _ _ e' e)
  subst this
  exact ⟨q, hq, (cnt_same (ha.cnt _ hp) (hb.cnt _ hq)).2 ⟨e', by omega⟩⟩
 refine asc_ext ha.asc hb.asc ha.cnt hb.cnt (one ha hb h1 h2) (fun q hq => ?_)
 obtain ⟨p, hp, e⟩ := one hb ha h2 h1 q hq
 exact ⟨p, hp, Same.symm _ _ e⟩
theorem subB_same {a a' b b' : List Fm} (ha : ∀ p ∈ a, Cnt p) (ha' : ∀ p ∈ a', Cnt p) (hb : ∀ p ∈ b, Cnt p) (hb' : ∀ p ∈ b', Cnt p) (h1 : Sames a a') (h2 : Sames b b') (h : subB b a) : subB b' a' := fun p hp => by
 obtain ⟨p0, hp0, e0⟩ := sames_mem (Sames.symm _ _ h2) p hp
 obtain ⟨q0, hq0, e1, l⟩ := h p0 hp0
 obtain ⟨q, hq, e2⟩ := sames_mem h1 q0 hq0
 have k0 := (cnt_same (hb' _ hp) (hb _ hp0)).1 e0
 have k2 := (cnt_same (ha _ hq0) (ha' _ hq)).1 e2
 exact ⟨q, hq, Same.trans _ _ _ (Same.symm _ _ k2.1) (Same.trans _ _ _ e1 (Same.symm _ _ k0.1)), by omega⟩
theorem meet_sub {a b : List Fm} (ha : BagL a) (hb : BagL b) : Sames (meetF a b) b ↔ subB b a := by
 have hm := meetF_bag a b
 constructor
 ·intro h p hp
  obtain ⟨m, hmm, e⟩ := sames_mem (Sames.symm _ _ h) p hp
  obtain ⟨v, hv, hpos, rfl⟩ := meetG_mem.1 hmm
  have k := (cnt_same (hb.cnt _ hp) (hm.cnt _ hmm)).1 e
  rw [fst_pair, snd_pair] at k
  obtain ⟨q, hq, e', hn⟩ := found_of (l := a) (k := v) (by omega)
  refine ⟨q, hq, Same.trans _ _ _ e' (Same.symm _ _ k.1), ?_⟩
  have : (numF (min (timesF a v) (timesF b v))).n = min (timesF a v) (timesF b v) := rfl
  omega
 ·intro h
  refine asc_ext hm.asc hb.asc hm.cnt hb.cnt (fun m hmm => ?_) (fun p hp => ?_)
  ·obtain ⟨v, hv, hpos, rfl⟩ := meetG_mem.1 hmm
   obtain ⟨p, hp, e, hn⟩ := found_of (l := b) (k := v) (by omega)
   obtain ⟨q, hq, e', hl⟩ := h p hp
   have ht := timesF_at ha.asc (k := v) hq (Same.trans _ _ _ e' e)
   refine ⟨p, hp, (cnt_same (hm.cnt _ hmm) (hb.cnt _ hp)).2 ⟨Same.symm _ _ e, ?_⟩⟩
   show min (timesF a v) (timesF b v) = (sndF p).n
   omega
  ·obtain ⟨q, hq, e', hl⟩ := h p hp
   obtain ⟨v, hv, e⟩ := sort_has (a.map fstF ++ b.map fstF) (f := fstF p) (by simp; exact .inr ⟨p, hp, rfl⟩)
   have tb := timesF_at hb.asc (k := v) hp (Same.symm _ _ e)
   have ta := timesF_at ha.asc (k := v) hq (Same.trans _ _ _ e' (Same.symm _ _ e))
   have hpos := (hb.cnt p hp).pos
   have hmin : min (timesF a v) (timesF b v) = (sndF p).n := by omega
   have hmm : pairF v (min (timesF a v) (timesF b v)) ∈ meetF a b := meetG_mem.2 ⟨v, hv, by omega, rfl⟩
   exact ⟨_, hmm, (cnt_same (hm.cnt _ hmm) (hb.cnt _ hp)).2 ⟨e, hmin⟩⟩
end Go.Pl.L
end
section
open Go Go.Pl Go.Pl.Z
namespace Go.Pl.L
mutual
def sizeF : Fm → Nat
 | .mk k _ _ _ l => if k = 3 then sizeL l + 1 else 1
def sizeL : List Fm → Nat
 | [] => 0
 | f :: r => sizeF f + sizeL r
end
theorem sizeF_list {f : Fm} (h : f.kind = 3) : sizeF f = sizeL f.kids + 1 := by
 obtain ⟨k, n, t, b, l⟩ := f
 simp only [Fm.kind] at h
 simp only [sizeF, if_pos h, Fm.kids]
theorem sizeF_leaf {f : Fm} (h : f.kind ≠ 3) : sizeF f = 1 := by
 obtain ⟨k, n, t, b, l⟩ := f
 simp only [Fm.kind] at h
 simp only [sizeF, if_neg h]
theorem sizeL_mem : ∀ {l : List Fm} {g : Fm}, g ∈ l → sizeF g ≤ sizeL l
 | a :: r, g, h => by
  simp only [sizeL]
  rcases List.mem_cons.1 h with rfl | h
  ·omega
  ·have := sizeL_mem h; omega
theorem sizeF_kid {f g : Fm} (h : f.kind = 3) (hg : g ∈ f.kids) : sizeF g < sizeF f := by
 have := sizeL_mem hg
 rw [sizeF_list h]; omega
mutual
theorem sizeF_same : ∀ {f g : Fm}, Same f g → sizeF f = sizeF g
 | .mk k n t b l, .mk k' n' t' b' l', h => by
  obtain ⟨h1, h2, h3, h4⟩ := (same_iff ..).1 h
  subst h1
  simp only [sizeF]
  by_cases hk : k = 3
  ·rw [if_pos hk, if_pos hk, sizeL_same (h4 hk)]
  ·rw [if_neg hk, if_neg hk]
theorem sizeL_same : ∀ {l m : List Fm}, Sames l m → sizeL l = sizeL m
 | [], [], _ => rfl
 | [], b :: s, h => absurd h (sames_nc b s)
 | a :: r, [], h => absurd h (sames_cn a r)
 | a :: r, b :: s, h => by
  obtain ⟨h1, h2⟩ := (sames_cons ..).1 h
  simp only [sizeL, sizeF_same h1, sizeL_same h2]
end
theorem sames_drop : ∀ {l m : List Fm} (i : Nat), Sames l m → Sames (l.drop i) (m.drop i)
 | _, _, 0, h => by simpa using h
 | [], [], i + 1, h => by simpa using h
 | [], b :: s, _, h => absurd h (sames_nc b s)
 | a :: r, [], _, h => absurd h (sames_cn a r)
 | a :: r, b :: s, i + 1, h => by
  have := ((sames_cons ..).1 h).2
  simpa using sames_drop i this
theorem sames_getD : ∀ {l m : List Fm} (i : Nat) (d : Fm), Sames l m → Same (l.getD i d) (m.getD i d)
 | [], [], i, d, _ => by simpa using Same.refl d
 | [], b :: s, _, _, h => absurd h (sames_nc b s)
 | a :: r, [], _, _, h => absurd h (sames_cn a r)
 | a :: r, b :: s, 0, d, h => by simpa using ((sames_cons ..).1 h).1
 | a :: r, b :: s, i + 1, d, h => by simpa using sames_getD i d ((sames_cons ..).1 h).2
theorem sames_map {F : Fm → Fm} : ∀ {l m : List Fm}, (∀ p ∈ l, ∀ q, Same p q → Same (F p) (F q)) → Sames l m → Sames (l.map F) (m.map F)
 | [], [], _, _ => sames_nil
 | [], b :: s, _, h => absurd h (sames_nc b s)
 | a :: r, [], _, h => absurd h (sames_cn a r)
 | a :: r, b :: s, hF, h => by
  obtain ⟨h1, h2⟩ := (sames_cons ..).1 h
  exact (sames_cons ..).2 ⟨hF a (by simp) b h1, sames_map (fun p hp => hF p (by simp [hp])) h2⟩
theorem fst_same {p q : Fm} (hk : p.kind = 3) (h : Same p q) : Same (fstF p) (fstF q) := sames_getD 0 _ (same_kids h hk)
theorem snd_same {p q : Fm} (hk : p.kind = 3) (h : Same p q) : Same (sndF p) (sndF q) := sames_getD 1 _ (same_kids h hk)
theorem head_same {f g : Fm} (h : Same f g) : headF f = headF g := by
 have hk := same_kind h
 unfold headF
 rw [← hk]
 by_cases h3 : f.kind = 3
 ·rw [if_pos h3, if_pos h3]
  have hs := same_kids h h3
  generalize f.kids = l at hs
  generalize g.kids = m at hs
  cases l with
  | nil => cases m with
   | nil => rfl
   | cons b s => exact absurd hs (sames_nc b s)
  | cons a r => cases m with
   | nil => exact absurd hs (sames_cn a r)
   | cons b s =>
    have h1 := ((sames_cons ..).1 hs).1
    simp only
    rw [← same_kind h1]
    by_cases k1 : a.kind = 1
    ·rw [if_pos k1, if_pos k1, same_text h1 k1]
    ·rw [if_neg k1, if_neg k1]
 ·rw [if_neg h3, if_neg h3]
theorem pairsB_pair {W : Fm → Bool} {l : List Fm} (h : pairsB W l = true) : ∀ p ∈ l, p.kind = 3 ∧ p.kids.length = 2 := fun p hp => by
 have h1 := List.all_eq_true.1 ((Bool.and_eq_true _ _).mp h).1 p hp
 unfold pairB at h1
 simp only [Bool.and_eq_true, decide_eq_true_eq] at h1
 exact ⟨h1.1, by have := h1.2.1; omega⟩
theorem isX_tail {W : Fm → Bool} {G : List Fm → Bool} {f : Fm} (h : headF f ≠ []) (hv : isX W G f = true) : headX W G (headF f) (f.kids.drop 1) = true := by
 obtain ⟨g, r, hl, hx⟩ := isX_head h hv
 rw [hl]; simpa using hx
theorem bag_pairs {W : Fm → Bool} {G : List Fm → Bool} {f : Fm} (h : headF f = hBag) (hv : isX W G f = true) : pairsB W (f.kids.drop 1) = true ∧ ∀ p ∈ f.kids.drop 1, bagBad p = false := by
 have hx := isX_tail (by rw [h]; decide) hv
 rw [h] at hx
 have e : headX W G hBag (f.kids.drop 1) = (pairsB W (f.kids.drop 1) && !(f.kids.drop 1).any bagBad) := by
  unfold headX
  simp [show ¬ hBag = hBits by decide, show ¬ hBag = hSeq by decide, show ¬ hBag = hSet by decide]
 rw [e, Bool.and_eq_true, Bool.not_eq_true', List.any_eq_false] at hx
 exact ⟨hx.1, fun p hp => by simpa using hx.2 p hp⟩
theorem map_pairs {W : Fm → Bool} {G : List Fm → Bool} {f : Fm} (h : headF f = hMap) (hv : isX W G f = true) : pairsB W (f.kids.drop 1) = true := by
 have hx := isX_tail (by rw [h]; decide) hv
 rw [h] at hx
 have e : headX W G hMap (f.kids.drop 1) = pairsB W (f.kids.drop 1) := by
  unfold headX
  simp [show ¬ hMap = hBits by decide, show ¬ hMap = hSeq by decide, show ¬ hMap = hSet by decide, show ¬ hMap = hBag by decide]
 rwa [e] at hx
theorem bits_two {W : Fm → Bool} {G : List Fm → Bool} {f : Fm} (h : headF f = hBits) (hv : isX W G f = true) : (f.kids.getD 2 default).kind = 0 := by
 obtain ⟨g, r, hl, hx⟩ := isX_head (by rw [h]; decide) hv
 rw [h] at hx
 have e : headX W G hBits r = bitsB r := by
  unfold headX
  simp
 rw [e] at hx
 rw [hl]
 match r, hx with
 | [x, y], hx =>
  unfold bitsB at hx
  simp only [Bool.and_eq_true, decide_eq_true_eq] at hx
  exact hx.2.1
theorem inner_at {W : Fm → Bool} {G : List Fm → Bool} {a x : Fm} (hv : isX W G a = true) (h : x ∈ innerOf a) : a.kind = 3 ∧ (x ∈ a.kids ∨ ∃ p ∈ a.kids, p.kind = 3 ∧ x ∈ p.kids) := by
 have hd : headF a ≠ [] := fun e => by
  unfold innerOf at h
  rw [e] at h
  simp [show ¬ ([] : List UInt8) = hData by decide, show ¬ ([] : List UInt8) = hSeq by decide, show ¬ ([] : List UInt8) = hSet by decide, show ¬ ([] : List UInt8) = hBag by decide, show ¬ ([] : List UInt8) = hMap by decide] at h
 refine ⟨(headF_kids hd).1, ?_⟩
 have pr : ∀ {F : Fm → Fm}, (∀ p, p.kids.length = 2 → F p ∈ p.kids) → (∀ p ∈ a.kids.drop 1, p.kind = 3 ∧ p.kids.length = 2) → x ∈ (a.kids.drop 1).map F → ∃ p ∈ a.kids, p.kind = 3 ∧ x ∈ p.kids := by
  intro F hF hp hx
  obtain ⟨p, hpm, rfl⟩ := List.mem_map.1 hx
  exact ⟨p, List.mem_of_mem_drop hpm, (hp p hpm).1, hF p (hp p hpm).2⟩
 have two : ∀ {p : Fm}, p.kids.length = 2 → ∃ y g, p.kids = [y, g] := fun {p} h => by
  match p.kids, h with
  | [y, g], _ => exact ⟨y, g, rfl⟩
 unfold innerOf at h
 by_cases q1 : headF a = hData
 ·rw [decide_eq_true q1] at h; simp only [cond_true] at h; exact .inl (List.mem_of_mem_drop h)
 rw [decide_eq_false q1] at h
 simp only [cond_false] at h
 by_cases q2 : (decide (headF a = hSeq) || decide (headF a = hSet)) = true
 ·rw [q2] at h; simp only [cond_true] at h; exact .inl (List.mem_of_mem_drop h)
 rw [Bool.not_eq_true] at q2
 rw [q2] at h
 simp only [cond_false] at h
 by_cases q3 : headF a = hBag
 ·rw [decide_eq_true q3] at h
  simp only [cond_true] at h
  exact .inr (pr (fun p e => by obtain ⟨y, g, hk⟩ := two e; unfold fstF; rw [hk]; simp) (pairsB_pair (bag_pairs q3 hv).1) h)
 rw [decide_eq_false q3] at h
 simp only [cond_false] at h
 by_cases q4 : headF a = hMap
 ·rw [decide_eq_true q4] at h
  simp only [cond_true] at h
  exact .inr (pr (fun p e => by obtain ⟨y, g, hk⟩ := two e; unfold sndF; rw [hk]; simp) (pairsB_pair (map_pairs q4 hv)) h)
 rw [decide_eq_false q4] at h
 simp at h
theorem inner_less {W : Fm → Bool} {G : List Fm → Bool} {a x : Fm} (hv : isX W G a = true) (h : x ∈ innerOf a) : sizeF x < sizeF a ∧ fsize x < fsize a := by
 obtain ⟨hk, h1 | ⟨p, hp, h1, h2⟩⟩ := inner_at hv h
 ·exact ⟨sizeF_kid hk h1, by have := fs_kid h1; omega⟩
 ·have e1 := sizeF_kid hk hp
  have e2 := sizeF_kid h1 h2
  have e3 := fs_kid hp
  have e4 := fs_kid h2
  omega
theorem inner_same {W : Fm → Bool} {G : List Fm → Bool} {a a' : Fm} (hv : isX W G a = true) (h : Same a a') : Sames (innerOf a) (innerOf a') := by
 unfold innerOf
 rw [← head_same h]
 have hks : headF a ≠ [] → Sames a.kids a'.kids := fun hd => same_kids h (headF_kids hd).1
 by_cases q1 : headF a = hData
 ·rw [decide_eq_true q1]; simp only [cond_true]; exact sames_drop 2 (hks (by rw [q1]; decide))
 rw [decide_eq_false q1]
 simp only [cond_false]
 by_cases q2 : (decide (headF a = hSeq) || decide (headF a = hSet)) = true
 ·rw [q2]; simp only [cond_true]
  refine sames_drop 1 (hks ?_)
  simp only [Bool.or_eq_true, decide_eq_true_eq] at q2
  rcases q2 with q | q <;> rw [q] <;> decide
 rw [Bool.not_eq_true] at q2
 rw [q2]
 simp only [cond_false]
 by_cases q3 : headF a = hBag
 ·rw [decide_eq_true q3]
  simp only [cond_true]
  exact sames_map (fun p hp q e => fst_same (pairsB_pair (bag_pairs q3 hv).1 p hp).1 e) (sames_drop 1 (hks (by rw [q3]; decide)))
 rw [decide_eq_false q3]
 simp only [cond_false]
 by_cases q4 : headF a = hMap
 ·rw [decide_eq_true q4]
  simp only [cond_true]
  exact sames_map (fun p hp q e => snd_same (pairsB_pair (map_pairs q4 hv) p hp).1 e) (sames_drop 1 (hks (by rw [q4]; decide)))
 rw [decide_eq_false q4]
 exact sames_nil
abbrev Vl (f : Fm) : Prop := isV fnG f = true
theorem Vl.x {f : Fm} (h : Vl f) : isX (isV fnG) (fnG (isV fnG)) f = true := by
 unfold Vl at h
 rwa [isV_eq fnG_congr] at h
theorem Vl.inner {a x : Fm} (h : Vl a) (hx : x ∈ innerOf a) : Vl x := isX_inner h.x hx
theorem wi_step {k : Nat} {b a : Fm} : withinN (k + 1) b a = true ↔ ∃ x ∈ innerOf a, Same x b ∨ withinN k b x = true := by
 simp only [withinN, List.any_eq_true, Bool.or_eq_true, eqF_iff]
theorem wi_fuel : ∀ (k m : Nat) {b a : Fm}, Vl a → withinN k b a = true → fsize a ≤ m → withinN m b a = true
 | 0, _, _, _, _, h, _ => by simp [withinN] at h
 | k + 1, 0, _, a, _, _, h => by have := fs_pos a; omega
 | k + 1, m + 1, b, a, v, h, hm => by
  rw [wi_step] at h ⊢
  obtain ⟨x, hx, e⟩ := h
  refine ⟨x, hx, e.imp id fun e => wi_fuel k m (v.inner hx) e ?_⟩
  have := (inner_less v.x hx).2
  omega
theorem wi_less : ∀ (k : Nat) {b a : Fm}, Vl a → withinN k b a = true → sizeF b < sizeF a
 | 0, _, _, _, h => by simp [withinN] at h
 | k + 1, b, a, v, h => by
  obtain ⟨x, hx, e⟩ := wi_step.1 h
  have := (inner_less v.x hx).1
  rcases e with e | e
  ·rw [← sizeF_same e]; exact this
  ·have := wi_less k (v.inner hx) e; omega
theorem wi_left : ∀ (k : Nat) {b b' a : Fm}, Same b b' → withinN k b a = true → withinN k b' a = true
 | 0, _, _, _, _, h => by simp [withinN] at h
 | k + 1, b, b', a, s, h => by
  rw [wi_step] at h ⊢
  obtain ⟨x, hx, e⟩ := h
  exact ⟨x, hx, e.imp (fun e => Same.trans _ _ _ e s) fun e => wi_left k s e⟩
theorem wi_right : ∀ (k : Nat) {b a a' : Fm}, Vl a → Same a a' → withinN k b a = true → withinN k b a' = true
 | 0, _, _, _, _, _, h => by simp [withinN] at h
 | k + 1, b, a, a', v, s, h => by
  rw [wi_step] at h ⊢
  obtain ⟨x, hx, e⟩ := h
  obtain ⟨y, hy, e2⟩ := sames_mem (inner_same v.x s) x hx
  exact ⟨y, hy, e.imp (fun e => Same.trans _ _ _ (Same.symm _ _ e2) e) fun e => wi_right k (v.inner hx) e2 e⟩
theorem wi_trans : ∀ (k m : Nat) {c b a : Fm}, Vl a → Vl b → withinN k b a = true → withinN m c b = true → ∃ j, withinN j c a = true
 | 0, _, _, _, _, _, _, h, _ => by simp [withinN] at h
 | k + 1, m, c, b, a, va, vb, h, h2 => by
  obtain ⟨x, hx, e⟩ := wi_step.1 h
  rcases e with e | e
  ·exact ⟨m + 1, wi_step.2 ⟨x, hx, .inr (wi_right m vb (Same.symm _ _ e) h2)⟩⟩
  ·obtain ⟨j, hj⟩ := wi_trans k m (va.inner hx) vb e h2
   exact ⟨j + 1, wi_step.2 ⟨x, hx, .inr hj⟩⟩
def wiB (b a : Fm) : Bool := withinN (fsize a) b a
theorem wiB_of {k : Nat} {b a : Fm} (v : Vl a) (h : withinN k b a = true) : wiB b a = true := wi_fuel k _ v h (Nat.le_refl _)
theorem wiB_irr {a : Fm} (v : Vl a) : wiB a a = false := by
 rw [← Bool.not_eq_true]
 intro h
 have := wi_less _ v h
 omega
theorem wiB_trans {a b c : Fm} (va : Vl a) (vb : Vl b) (h1 : wiB b a = true) (h2 : wiB c b = true) : wiB c a = true := by
 obtain ⟨j, hj⟩ := wi_trans _ _ va vb h1 h2
 exact wiB_of va hj
theorem wiB_same {a a' b b' : Fm} (va : Vl a) (va' : Vl a') (ha : Same a a') (hb : Same b b') (h : wiB b a = true) : wiB b' a' = true :=
 wiB_of va' (wi_left _ hb (wi_right _ va ha h))
end Go.Pl.L
end
