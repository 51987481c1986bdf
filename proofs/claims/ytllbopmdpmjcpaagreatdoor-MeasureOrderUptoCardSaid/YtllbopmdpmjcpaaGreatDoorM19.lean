import Derived.Test.YtllbopmdpmjcpaaGreatDoorM10
import Derived.Test.YtllbopmdpmjcpaaGreatDoorM14
import Derived.Test.YtllbopmdpmjcpaaGreatDoorM18
import Derived.Shelf.SlicesE.Clone
import Derived.Defers
import Derived.Recover
set_option linter.unusedSimpArgs false
set_option linter.unusedVariables false
set_option linter.unusedSectionVars false
section
open Go Go.Pl
namespace Go.Pl.Z
def Srtd (l : List Fm) : Prop := l.Pairwise fun a b => cmpF a b ≤ 0
structure StS (l m : List Fm) : Prop where
 perm : l.Perm m
 cls : ∀ c, l.filter (fun z => decide (cmpF c z = 0)) = m.filter (fun z => decide (cmpF c z = 0))
theorem StS.refl (l : List Fm) : StS l l := ⟨.refl _, fun _ => rfl⟩
theorem StS.symm {l m : List Fm} (h : StS l m) : StS m l := ⟨h.perm.symm, fun c => (h.cls c).symm⟩
theorem StS.trans {l m n : List Fm} (h : StS l m) (k : StS m n) : StS l n := ⟨h.perm.trans k.perm, fun c => (h.cls c).trans (k.cls c)⟩
theorem StS.append {l m l' m' : List Fm} (h : StS l m) (k : StS l' m') : StS (l ++ l') (m ++ m') := ⟨h.perm.append k.perm, fun c => by rw [List.filter_append, List.filter_append, h.cls, k.cls]⟩
theorem StS.length {l m : List Fm} (h : StS l m) : l.length = m.length := h.perm.length_eq
theorem StS.mem {l m : List Fm} (h : StS l m) {x : Fm} : x ∈ l ↔ x ∈ m := h.perm.mem_iff
theorem StS.swap {A B : List Fm} (h : ∀ y ∈ B, ∀ x ∈ A, cmpF y x < 0) : StS (A ++ B) (B ++ A) := by
 refine ⟨List.perm_append_comm, fun c => ?_⟩
 rw [List.filter_append, List.filter_append]
 by_cases hA : A.filter (fun z => decide (cmpF c z = 0)) = []
 ·rw [hA]; simp
 ·have hB : B.filter (fun z => decide (cmpF c z = 0)) = [] := by
   obtain ⟨x, hx⟩ := List.exists_mem_of_ne_nil _ hA
   rw [List.mem_filter] at hx
   refine List.filter_eq_nil_iff.2 fun y hy hc => ?_
   have h1 := h y hy x hx.1
   have h2 : cmpF c x = 0 := by simpa using hx.2
   have h3 : cmpF c y = 0 := by simpa using hc
   have := Same.trans y c x (Same.symm _ _ h3) h2
   unfold Same at this
   omega
  rw [hB]; simp
theorem Srtd.append {A B : List Fm} (hA : Srtd A) (hB : Srtd B) (h : ∀ x ∈ A, ∀ y ∈ B, cmpF x y ≤ 0) : Srtd (A ++ B) := List.pairwise_append.2 ⟨hA, hB, h⟩
theorem Srtd.of_append {A B : List Fm} (h : Srtd (A ++ B)) : Srtd A ∧ Srtd B ∧ ∀ x ∈ A, ∀ y ∈ B, cmpF x y ≤ 0 := List.pairwise_append.1 h
theorem Srtd.nil : Srtd [] := List.Pairwise.nil
theorem Srtd.one (x : Fm) : Srtd [x] := List.pairwise_singleton _ _
theorem merge_step {A1 A2 B1 B2 M1 M2 : List Fm} (hA : Srtd (A1 ++ A2)) (hB : Srtd (B1 ++ B2)) (hAB : ∀ x ∈ A1, ∀ y ∈ B2, cmpF x y ≤ 0) (hBA : ∀ y ∈ B1, ∀ x ∈ A2, cmpF y x < 0)
  (h1 : StS (A1 ++ B1) M1) (s1 : Srtd M1) (h2 : StS (A2 ++ B2) M2) (s2 : Srtd M2) : StS ((A1 ++ A2) ++ (B1 ++ B2)) (M1 ++ M2) ∧ Srtd (M1 ++ M2) := by
 obtain ⟨-, -, a12⟩ := hA.of_append
 obtain ⟨-, -, b12⟩ := hB.of_append
 constructor
 ·have e1 : (A1 ++ A2) ++ (B1 ++ B2) = A1 ++ ((A2 ++ B1) ++ B2) := by simp
  have e2 : A1 ++ ((B1 ++ A2) ++ B2) = (A1 ++ B1) ++ (A2 ++ B2) := by simp
  rw [e1]
  refine ((StS.refl A1).append ((StS.swap hBA).append (.refl B2))).trans ?_
  rw [e2]; exact h1.append h2
 ·refine s1.append s2 fun x hx y hy => ?_
  rw [← h1.mem] at hx
  rw [← h2.mem] at hy
  rcases List.mem_append.1 hx with hx | hx <;> rcases List.mem_append.1 hy with hy | hy
  ·exact a12 x hx y hy
  ·exact hAB x hx y hy
  ·have := hBA x hx y hy; omega
  ·exact b12 x hx y hy
def insF (x : Fm) : List Fm → List Fm
 | [] => [x]
 | y :: l => if cmpF x y ≤ 0 then x :: y :: l else y :: insF x l
def sortF : List Fm → List Fm
 | [] => []
 | x :: l => insF x (sortF l)
theorem insF_spec (x : Fm) : ∀ l, Srtd l → StS (x :: l) (insF x l) ∧ Srtd (insF x l)
 | [], _ => ⟨.refl _, .one x⟩
 | y :: l, h => by
  unfold insF
  split
  ·rename_i hxy
   refine ⟨.refl _, List.pairwise_cons.2 ⟨fun z hz => ?_, h⟩⟩
   rcases List.mem_cons.1 hz with rfl | hz
   ·exact hxy
   ·exact cmpF_trans hxy ((List.pairwise_cons.1 h).1 z hz)
  ·rename_i hxy
   obtain ⟨h1, h2⟩ := List.pairwise_cons.1 h
   obtain ⟨k1, k2⟩ := insF_spec x l h2
   have hyx : cmpF y x < 0 := by have := cmpF_flip x y; omega
   constructor
   ·have : StS ([x] ++ [y]) ([y] ++ [x]) := .swap (by simpa using hyx)
    exact (this.append (.refl l)).trans ((StS.refl [y]).append k1)
   ·refine List.pairwise_cons.2 ⟨fun z hz => ?_, k2⟩
    rw [← k1.mem] at hz
    rcases List.mem_cons.1 hz with rfl | hz
    ·omega
    ·exact h1 z hz
theorem sortF_spec : ∀ l, StS l (sortF l) ∧ Srtd (sortF l)
 | [] => ⟨.refl _, .nil⟩
 | x :: l => by
  obtain ⟨h1, h2⟩ := sortF_spec l
  obtain ⟨k1, k2⟩ := insF_spec x _ h2
  exact ⟨((StS.refl [x]).append h1).trans k1, k2⟩
theorem sorted_one : ∀ (l m : List Fm), StS l m → Srtd l → Srtd m → l = m
 | [], m, h, _, _ => (List.length_eq_zero_iff.1 h.length.symm).symm
 | x :: l, [], h, _, _ => by have := h.length; simp at this
 | x :: l, y :: m, h, hl, hm => by
  obtain ⟨l1, l2⟩ := List.pairwise_cons.1 hl
  obtain ⟨m1, m2⟩ := List.pairwise_cons.1 hm
  have hxy : cmpF x y = 0 := by
   have h1 : y ∈ x :: l := h.mem.2 (by simp)
   have h2 : x ∈ y :: m := h.mem.1 (by simp)
   have k1 : cmpF x y ≤ 0 := by
    rcases List.mem_cons.1 h1 with e | h1
    ·rw [e]; have := Same.refl x; unfold Same at this; omega
    ·exact l1 y h1
   have k2 : cmpF y x ≤ 0 := by
    rcases List.mem_cons.1 h2 with e | h2
    ·rw [← e]; have := Same.refl x; unfold Same at this; omega
    ·exact m1 x h2
   have := cmpF_flip x y
   omega
  have hxx : cmpF x x = 0 := Same.refl x
  have e := h.cls x
  rw [List.filter_cons_of_pos (by simpa using hxx), List.filter_cons_of_pos (by simpa using hxy)] at e
  obtain ⟨rfl, e2⟩ := List.cons.inj e
  congr 1
  refine sorted_one l m ⟨(List.perm_cons x).1 h.perm, fun c => ?_⟩ l2 m2
  have := h.cls c
  by_cases hc : cmpF c x = 0
  ·rw [List.filter_cons_of_pos (by simpa using hc), List.filter_cons_of_pos (by simpa using hc)] at this
   exact (List.cons.inj this).2
  ·rw [List.filter_cons_of_neg (by simpa using hc), List.filter_cons_of_neg (by simpa using hc)] at this
   exact this
theorem sorted_sortF {l m : List Fm} (h : StS l m) (hm : Srtd m) : m = sortF l := sorted_one m _ (h.symm.trans (sortF_spec l).1) hm (sortF_spec l).2
end Go.Pl.Z
end
section
namespace Go.Pl
open Go.RowKit Go.Shelf Go.Proofs
theorem SimW.addBoxB {g : Gh} {S S' : St} {w w' : World} (h₀ : SimW g S w) (hbel : Below w.heap.size w w') {b₀ : Nat} (hlt : w.heap.size ≤ b₀) (i l : Nat) (x : V) (hf : g.loc i l = none) (hH : S'.H = upd2 S.O S.H i l x) (hk : S'.ok i l = true) (hn : ∀ j m, S'.ok j m = false → S.ok j m = false)
  (o : Obj) (ho : w'.heap[b₀]? = some o) (hr : ObjRep g x o) : SimW (g.addBox i l b₀) S' w' := by
 have hle : Le g (g.addBox i l b₀) := Le.addBox hf
 have h := h₀.below hbel
 have hnew : ∀ i' l', g.loc i' l' ≠ some b₀ := fun i' l' e => by have := h₀.locB i' l' b₀ e; omega
 constructor
 ·exact h.mem
 ·intro j m y hy
  rw [hH, upd2_eq S.hO] at hy
  by_cases hi : j = i ∧ m = l
  ·obtain ⟨rfl, rfl⟩ := hi
   simp only [and_self, if_true, Option.some.injEq] at hy
   subst hy
   exact ⟨b₀, o, by simp [Gh.addBox], ho, hr.mono hle⟩
  ·rw [if_neg hi] at hy
   obtain ⟨b, c, h1, h2, h3⟩ := h.box j m y hy
   exact ⟨b, c, hle.loc _ _ _ h1, h2, h3.mono hle⟩
 ·intro j m j' m' b hi hj
  simp only [Gh.addBox] at hi hj
  split at hi <;> split at hj
  ·rename_i e1 e2; exact ⟨e1.1.trans e2.1.symm, e1.2.trans e2.2.symm⟩
  ·simp only [Option.some.injEq] at hi; subst hi; exact (hnew _ _ hj).elim
  ·simp only [Option.some.injEq] at hj; subst hj; exact (hnew _ _ hi).elim
  ·exact h.inj j m j' m' b hi hj
 ·intro j m b hi o
  simp only [Gh.addBox] at hi
  split at hi
  ·simp only [Option.some.injEq] at hi
   cases hm : g.M b o with
   | none => exact hm
   | some v => have := World.block_lt_of_cell? _ _ (h₀.mem b o v hm); simp at this; omega
  ·exact h.boxM j m b hi o
 ·intro j m b hi
  simp only [Gh.addBox] at hi
  split at hi
  ·simp only [Option.some.injEq] at hi; subst hi
   exact (Array.getElem?_eq_some_iff.1 ho).1
  ·exact h.locB j m b hi
 ·intro j m hi
  simp only [Gh.addBox]
  rw [if_neg (fun e => by rw [e.1, e.2, hk] at hi; cases hi)]; exact h.fresh j m (hn j m hi)
theorem Ext.addBoxB {g : Gh} {w w' : World} (hb : Below w.heap.size w w') {b₀ : Nat} (hlt : w.heap.size ≤ b₀) {i l : Nat} (hf : g.loc i l = none) (hk : g.top ≤ i) : Ext g w (g.addBox i l b₀) w' where
 le := Le.addBox hf
 os := hb.os
 tape := hb.tape
 output := hb.output
 size := hb.size
 block b hlt _ := hb.block b hlt
 newLoc j m b hi := by
  simp only [Gh.addBox] at hi
  split at hi
  ·simp only [Option.some.injEq] at hi; exact .inr (by omega)
  ·exact .inl hi
 newM _ _ _ h := .inl h
 top := rfl
 newName j m hi hn := by
  simp only [Gh.addBox]
  rw [if_neg (by omega)]; exact hn
def St.one (S : St) (x : V) : St := { S with H := upd2 S.O S.H S.n 0 x, n := S.n + 1, c := if S.b = S.n then S.c + 1 else S.c }
variable {P : Program} {ρ : Ren}
set_option maxHeartbeats 2000000 in
set_option maxRecDepth 100000 in
theorem clone_empty (L : SlLaysE0.n41 P ρ) (i0 : TypeInfo) (z : Value) (size bytes : Nat) (hi : P.info? (ρ.t 23) = some i0) (hz0 : i0.zero = some z) (hz1 : i0.size = size) (hz2 : i0.bytes = bytes) (hzs : z.cells.size = size) (hsz : 0 < size)
  (z23 : ∀ w, (Go.sizeOf (ρ.t 23)).run P w = .ok size w) (ad : Addr) (c : Nat) (w : World) :
  Calls P (ρ.f 41) #[.slice (some ad) 0 c] w fun e w' => ∃ v', e = .returned v' ∧ w'.ownsRow w.heap.size (ρ.t 23) size v' 0 [] ∧ v' ≠ .slice none 0 0 ∧ Below w.heap.size w w' := by
 have mixed := L.mixed; have t4 := L.t4; have a4 := L.a4; have z4 := L.z4; have v4 := L.v4; have t22 := L.t22; have a22 := L.a22; have z22 := L.z22; have v22 := L.v22
 have q22 : ∀ (w : World) (a : Option Addr) (n c n' c' : Nat), (binOp .eql (ρ.t 22) (.slice a n c) (.slice none n' c')).run P w = .ok (.bool a.isNone) w := fun w a n c n' c' => Lib.run_eql_slice_nil w _ _ a n c n' c' L.t22
 have u22 : ∀ w, Sem.run P (underlying (ρ.t 22)) w = .ok (TypeDesc.slice (ρ.t 23)) w := run_underlying t22
 obtain ⟨_, _, FG⟩ := L.f41
 go_enter FG, SlBodyN.n41_ntmps ρ
 go_wp2_with (at_builtin; refine wpList_append_own _ rfl _ _ (ρ.t 22) rfl w.heap.size (ρ.t 23) i0 z size bytes t22 hi hz0 hz1 hz2 hzs hsz _ _ _ rfl (World.ownsRow_made w #[] 0 (Nat.le_refl _) (Nat.zero_le _) (by simp)) ad 0 c [] rfl (by simp) (by simp) (by simp) (by simp) (by simp) (by simp) ?_)
 intro v' w1 hown hgrow hnil
 go_wp2
 go_ret
 refine ⟨v', rfl, by simpa using hown, ?_, ?_⟩
 ·simpa using hnil
 ·exact ((Below.refl _ w).alloc (Nat.le_refl _) _).grown hgrow (by simp) (by intro k hk; simp [Value.ownBlock] at hk; omega)
theorem cClone_nil (L : SlLaysE0.n41 P ρ) (hgo : isGo P (ρ.f 41) = true) (sz : Nat) (S : St) : Pure P (ρ.f 41) [.sl true sz []] S (.sl true sz []) := by
 refine Pure_shelf hgo rfl (fun g S w vals hs' ht hr => ?_) S
 obtain ⟨v, rfl, hv⟩ := reps1 hr
 cases hv
 refine (AnyE.slices_Clone_nil L 0 0 w).mono ?_
 rintro e w' ⟨rfl, rfl⟩
 exact ⟨_, rfl, .slNil _, .refl _ _⟩
theorem cClone (L : SlLaysE0.n41 P ρ) (hgo : isGo P (ρ.f 41) = true) (i0 : TypeInfo) (z : Value) (size bytes : Nat) (hi : P.info? (ρ.t 23) = some i0) (hz0 : i0.zero = some z) (hz1 : i0.size = size) (hz2 : i0.bytes = bytes) (hzs : z.cells.size = size) (hsz : 0 < size)
  (z23 : ∀ w, (Go.sizeOf (ρ.t 23)).run P w = .ok size w) (xs : List V) (hx : ∀ x ∈ xs, x.data = true ∧ x.cells.length = size) (hn : xs.length ≤ maxLen) (hbig : xs.length * bytes ≤ 140737488355328) (S : St) :
  ACalls P (ρ.f 41) [.sl false size xs] S fun e S' => e = .ret (.bs S.n 0 size 0 xs.length) ∧ S' = S.one (.rows size xs) := by
 refine ⟨hgo, fun g w vals hs hB hr => ?_⟩
 obtain ⟨v, rfl, hv⟩ := reps1 hr
 have fin : ∀ (news : List Value) (e : Ending) (w' : World), (∀ (i : Nat) (x : V) (j : Nat) (y : V), xs[i]? = some x → x.cells[j]? = some y → ∃ c, news[i * size + j]? = some c ∧ Rep g y c ∧ c.oneCell' = true) →
   (∃ v', e = .returned v' ∧ w'.ownsRow w.heap.size (ρ.t 23) size v' xs.length news ∧ v' ≠ .slice none 0 0 ∧ Below w.heap.size w w') →
   ∃ g' S' ae, Ext g w g' w' ∧ SimW g' S' w' ∧ (S.n ≤ S'.n ∧ S'.b = S.b) ∧ RepEnd g' w' w.heap.size ae e ∧ ae = .ret (.bs S.n 0 size 0 xs.length) ∧ S' = S.one (.rows size xs) := by
  rintro news e w' hnews ⟨v', rfl, hown, hne, hbel⟩
  obtain ⟨-, hown⟩ := hown
  rcases hown with ⟨e1, -⟩ | ⟨b, cap', cur, rfl, hb, hcur, hcap, -, hsize, htake⟩
  ·exact (hne e1).elim
  have hf : g.loc S.n 0 = none := hs.fresh _ _ ((ok_not S _ _).2 (by rintro ⟨h, -⟩; omega))
  have hcc : ∀ j u, news[j]? = some u → cur[j]? = some u := fun j u hj => by
   rw [← htake] at hj
   rw [List.getElem?_take] at hj
   split at hj
   ·simpa using hj
   ·cases hj
  have harr : ArrIn g size xs cur := ⟨by rw [hsize]; exact Nat.mul_le_mul_right _ hcap, fun i x h => hx x (List.mem_of_getElem? h), fun i x j y h1 h2 => by
   obtain ⟨c, k1, k2, k3⟩ := hnews i x j y h1 h2
   exact ⟨c, hcc _ _ k1, k2, k3⟩⟩
  refine ⟨g.addBox S.n 0 b, S.one (.rows size xs), .ret (.bs S.n 0 size 0 xs.length), .addBoxB hbel hb hf (by rw [hB.top]; exact Nat.le_refl _), hs.addBoxB hbel hb S.n 0 _ hf rfl ?_ ?_ _ hcur (.rows size xs cur _ harr), ⟨Nat.le_succ _, rfl⟩, ⟨?_, .of_not rfl⟩, rfl, rfl⟩
  ·refine (ok_iff _ _ _).2 ⟨Nat.lt_succ_self _, fun e => ?_⟩
   have e' : S.b = S.n := e.symm
   simp only [St.one, e', if_true]; omega
  ·intro j m hjm
   rw [ok_not] at hjm ⊢
   intro ⟨k1, k2⟩
   refine hjm ⟨by simp only [St.one]; omega, fun e => ?_⟩
   have := k2 e
   simp only [St.one]; split <;> omega
  ·have : Rep (g.addBox S.n 0 b) (.bs S.n 0 size 0 xs.length) (.slice (some ⟨b, 0, none⟩) (Int.toNat xs.length) cap') := .bs S.n 0 size 0 xs.length b 0 cap' (by simp [Gh.addBox]) (by omega) (by omega) (fun _ => by simp) (by simpa using hcap)
   simpa using this
 have main : ∀ (a : Addr) (cap : Nat) (c : Nat → Nat → Value), v = .slice (some ⟨a.block, a.off, none⟩) xs.length cap →
   (∀ (i : Nat) (x : V) (j : Nat) (y : V), xs[i]? = some x → x.cells[j]? = some y → w.cell? ⟨a.block, a.off + i * size + j, none⟩ = some (c i j) ∧ (c i j).oneCell' = true ∧ Rep g y (c i j)) →
   Calls P (ρ.f 41) #[v] w fun e w' => ∃ g' S' ae, Ext g w g' w' ∧ SimW g' S' w' ∧ (S.n ≤ S'.n ∧ S'.b = S.b) ∧ RepEnd g' w' w.heap.size ae e ∧ ae = .ret (.bs S.n 0 size 0 xs.length) ∧ S' = S.one (.rows size xs) := by
  rintro a cap c rfl hcell
  let news := (List.range (xs.length * size)).map fun q => c (q / size) (q % size)
  have hnl : news.length = xs.length * size := by simp [news]
  have hat : ∀ j u, news[j]? = some u → ∃ x y, xs[j / size]? = some x ∧ x.cells[j % size]? = some y ∧ u = c (j / size) (j % size) := fun j u hj => by
   have hlt : j < xs.length * size := by have := (List.getElem?_eq_some_iff.1 hj).1; omega
   have h1 : j / size < xs.length := Nat.div_lt_of_lt_mul (by rw [Nat.mul_comm]; exact hlt)
   have h2 : j % size < size := Nat.mod_lt _ hsz
   have h3 : xs[j / size]? = some xs[j / size] := by simp [h1]
   have h4 := (hx _ (List.mem_of_getElem? h3)).2
   refine ⟨_, xs[j / size].cells[j % size]'(by omega), h3, by simp [h4, h2], ?_⟩
   simp only [news, List.getElem?_map, List.getElem?_range hlt, Option.map_some, Option.some.injEq] at hj
   exact hj.symm
  have hmul : ∀ i, i < xs.length → ∀ j, j < size → i * size + j < xs.length * size := fun i hi j hj => by
   have : (i + 1) * size ≤ xs.length * size := Nat.mul_le_mul_right _ hi
   rw [Nat.add_mul] at this; omega
  refine (AnyE.slices_Clone L i0 z size bytes hi hz0 hz1 hz2 hzs hsz z23 a.block a.off xs.length cap news w hnl hn hbig (fun j u hj => ?_) (fun u hu => ?_)).mono ?_
  ·obtain ⟨x, y, h1, h2, rfl⟩ := hat j u hj
   have := (hcell _ _ _ _ h1 h2).1
   rw [← this]
   congr 2
   have := Nat.div_add_mod j size
   rw [Nat.mul_comm] at this
   omega
  ·obtain ⟨j, hj'⟩ := List.mem_iff_getElem.1 hu
   have hj : news[j]? = some u := by obtain ⟨h1, h2⟩ := hj'; rw [← h2]; simp
   obtain ⟨x, y, h1, h2, rfl⟩ := hat j u hj
   exact (hcell _ _ _ _ h1 h2).2.1
  intro e w' he
  refine fin news e w' (fun i x j y h1 h2 => ?_) he
  have hi : i < xs.length := (List.getElem?_eq_some_iff.1 h1).1
  have hj : j < size := by have := (List.getElem?_eq_some_iff.1 h2).1; rw [(hx x (List.mem_of_getElem? h1)).2] at this; exact this
  obtain ⟨k1, k2, k3⟩ := hcell i x j y h1 h2
  refine ⟨c i j, ?_, k3, k2⟩
  simp only [news, List.getElem?_map, List.getElem?_range (hmul i hi j hj), Option.map_some, Option.some.injEq]
  have e1 : (i * size + j) / size = i := by rw [Nat.mul_comm, Nat.mul_add_div hsz, Nat.div_eq_of_lt hj]; omega
  have e2 : (i * size + j) % size = j := by rw [Nat.mul_comm, Nat.mul_add_mod, Nat.mod_eq_of_lt hj]
  rw [e1, e2]
 cases hv with
 | slE _ a => exact (clone_empty L i0 z size bytes hi hz0 hz1 hz2 hzs hsz z23 a 0 w).mono fun e w' he => fin [] e w' (fun i x j y h1 _ => by cases h1) he
 | sl _ _ b o cap c hcap hsz' h h1 hr' => exact main ⟨b, o, none⟩ cap c rfl fun i x j y hx hy => ⟨hs.mem _ _ _ (h i x j y hx hy), h1 i x j y hx hy, hr' i x j y hx hy⟩
end Go.Pl
end
section
namespace Go.Pl
def modeOf : Option Value → Bool → FrameMode
  | none, _ => .returning
  | some v, r => .panicking [{ v := v, recovered := r }]
def RepO (g : Gh) : Option V → Option Value → Prop
  | none, none => True
  | some x, some v => Rep g x v
  | _, _ => False
def recV : Option V → V
  | none => .niliface
  | some x => x
def recVal : Option Value → Value
  | none => .nilIface
  | some v => v
structure ADefers (P : Program) (f : Nat) (caps : List V) (x : Option V) (S : St) (Q : St → Prop) : Prop where
  go : isGo P f = true
  run : ∀ (g : Gh) (w : World) (vals : Array Value) (val : Option Value), SimW g S w → Base P g w S.n → Reps g caps vals → RepO g x val →
    CallsD P f vals (modeOf val false) w fun e u' w' => u' = modeOf val true ∧ (∃ v, e = .returned v) ∧ ∃ g' S', Ext g w g' w' ∧ SimW g' S' w' ∧ (S.n ≤ S'.n ∧ S'.b = S.b) ∧ Q S'
section
variable {P : Program} {g₀ g : Gh} {w₀ : World} {N n₀ : Nat} {S S' : St} {w : World} {σ σ' : Nat → V} {a : Act}
theorem entry_sim {args : List V} {vals : Array Value} {N : Nat} (hs : SimW g S w) (ht : g.top = S.n) (hr : Reps g args vals) (hvl : vals.size ≤ N) :
    Sim (g.def []) w N g (frame0 args) S.enter { tmps := vals ++ Array.replicate (N - vals.size) Go.undef, defers := [] } w := by
  have hse : SimW g S.enter w := ⟨hs.mem, hs.box, hs.inj, hs.boxM, hs.locB, fun i k hi => hs.fresh i k (by rw [ok_not] at hi ⊢; simp only [St.enter] at hi; omega)⟩
  have hget : ∀ t, (vals ++ Array.replicate (N - vals.size) Go.undef).getD t Go.undef = vals.getD t Go.undef := by
    intro t
    by_cases ht : t < vals.size
    · simp [Array.getElem?_append, ht]
    · have : vals.getD t Go.undef = Go.undef := by simp [Array.getElem?_eq_none (Nat.le_of_not_lt ht)]
      rw [this]
      simp only [Array.getD_eq_getD_getElem?, Array.getElem?_append, ht, if_false, Array.getElem?_replicate]
      split <;> rfl
  have hrep : ∀ t, Rep g (frame0 args t) (vals.getD t Go.undef) := fun t => by
    by_cases ht : t < args.length
    · have ht' : t < vals.size := by rw [← hr.1]; exact ht
      have := hr.2 t args[t] vals[t] (by simp [ht]) (by simp [ht'])
      simp only [frame0, List.getElem?_eq_getElem ht, Option.getD_some]
      have e : vals.getD t Go.undef = vals[t] := by simp [ht']
      rw [e]; exact this.toPlain
    · have ht' : ¬ t < vals.size := by rw [← hr.1]; exact ht
      have e : vals.getD t Go.undef = Go.undef := by simp [Array.getElem?_eq_none (Nat.le_of_not_lt ht')]
      simp only [frame0, List.getElem?_eq_none (Nat.le_of_not_lt ht), Option.getD_none]
      rw [e]
      exact .tup [] #[] rfl (by simp)
  have hng : ∀ t, (frame0 args t).isGr = false := fun t => plain_isGr _
  refine ⟨(Ext.refl g w).def, hse, by simp; omega, rfl, fun t => by rw [hget]; exact hrep t, fun t => .of_not (hng t), fun t t' b h1 _ => ?_, by simp only [St.enter, Gh.def]; omega, fun i k hi => hs.fresh i k (by rw [ok_not]; simp only [Gh.def] at hi; omega)⟩
  rw [spare_not (hng t)] at h1; cases h1
theorem Over.hok {S S' S'' : St} (hs : SimW g S w) (ho : Over S S' S'') : ∀ i k b, g.loc i k = some b → S''.ok i k = true := fun i k b hb => by
  have := (ok_iff _ _ _).1 (hs.ok_of_loc hb)
  rw [ok_iff]
  have h1 := ho.n; have h2 := ho.b; have h3 := ho.c
  exact ⟨by omega, fun e => by have := this.2 (by omega); omega⟩
def dEnd (S₀ : St) (Q : St → Prop) : AX → (Nat → V) → St → Prop
  | .normal, _, S | .ret, _, S => ∃ S', Over S₀ S S' ∧ Q S'
  | _, _, _ => False
theorem ADefers_of_vc {f : Nat} {fn : Func} {id ta tb : Nat} {ops : Array Oper} {o1 o2 : Oper} {rest : Code} {c : C} {caps : List V} {x : Option V} {Q : St → Prop}
    (hm : P.follows .mixedOrders = true) (hf : P.funcs[f]? = some fn) (hgo : isGo P f = true) (hb : fn.body = some (.seq (.region id ops false) rest)) (hres : fn.results = #[])
    (hops : ops = #[o1, o2]) (h1 : o1.op = .call { callee := .builtin .recover, args := #[], argTypes := #[] }) (d1 : o1.dst = some ta) (g1 : o1.guard = none)
    (h2 : o2.op = .assign (.tmp ta)) (d2 : o2.dst = some tb) (g2 : o2.guard = none) (ha : ta < fn.ntmps) (htb : tb < fn.ntmps) (hc : compC P fn.ntmps [] rest = some c)
    (hN : caps.length ≤ fn.ntmps) (hx : ∀ y, x = some y → y.isGr = false)
    (h : WFS S → vc P fn.ntmps S.n c (dEnd S Q) (upd (upd (frame0 caps) ta (recV x)) tb (recV x)) S.enter) : ADefers P f caps x S Q := by
  subst hops
  refine ⟨hgo, fun g w vals val hs hB hr hx' => ?_⟩
  refine callsD_of_wpS hf hb fun c₀ cs hu => ?_
  have hvl : vals.size ≤ fn.ntmps := by rw [← hr.1]; exact hN
  have hsim := entry_sim hs hB.top hr hvl
  have hrv : Rep g (recV x) (recVal val) ∧ (recV x).isGr = false := by
    cases x <;> cases val <;> simp only [RepO] at hx'
    · exact ⟨.niliface, rfl⟩
    · exact ⟨hx', hx _ rfl⟩
  have hsim1 := hsim.put ha hrv.1 hrv.2
  have hsim2 := hsim1.put htb hrv.1 hrv.2
  have hw := (vc_sound c _ _ _ (h (Sim.wfs hs))).run hm [] rest hc (g.def []) w g _ w ⟨hB.top, ⟨hB.tab.is, hB.tab.no⟩⟩ hsim2
  have hkey : ∃ cs', cs' = { c₀ with mode := modeOf val true } :: cs ∧ ((recoverD (c₀ :: cs) = none ∧ recVal val = .nilIface ∧ cs' = c₀ :: cs) ∨ recoverD (c₀ :: cs) = some (recVal val, cs')) := by
    cases val with
    | none =>
      refine ⟨_, rfl, .inl ⟨by simp only [recoverD, hu, modeOf], rfl, ?_⟩⟩
      have : c₀.mode = modeOf none true := hu
      rw [← this]
    | some v => exact ⟨_, rfl, .inr (by simp only [recoverD, hu, modeOf, recVal])⟩
  obtain ⟨cs', hcs', hrec⟩ := hkey
  apply wpS_seq
  apply wpS_region
  have r1 : ∀ (ρ : Operand → Value) (w : World), (execOp ρ o1).run P w = .ok .recover w := fun ρ w => by
    simp only [execOp, h1]; rfl
  have r2 : ∀ (a : Act) (w : World), (execOp a.eval o2).run P w = .ok (.value (a.tmps.getD ta Go.undef)) w := fun a w => by
    simp only [execOp, h2]; rfl
  have wt1 : ∀ l, Region.wanted o1 l = true := fun l => by simp [Region.wanted, g1]
  have wt2 : ∀ l, Region.wanted o2 l = true := fun l => by simp [Region.wanted, g2]
  show wpOpsS P #[o1, o2] _ [0, 1] _ _ _
  have fin : ∀ (Q' : Exit → Act → List Frame → World → Prop) (a : Act), rest.wpS P Q' (a.put (some tb) (a.tmps.getD ta Go.undef)) cs' w → wpOpsS P #[o1, o2] (Exit.thenS (rest.wpS P Q') Q') [1] a cs' w := by
    intro Q' a hk
    simp only [wpOpsS, show (#[o1, o2] : Array Oper)[1]? = some o2 from rfl, wt2, if_true, r2, Oper.upon, d2]
    exact hk
  have fin0 : ∀ (Q' : Exit → Act → List Frame → World → Prop) (a : Act), rest.wpS P Q' ((a.put (some ta) (recVal val)).put (some tb) ((a.put (some ta) (recVal val)).tmps.getD ta Go.undef)) cs' w →
      wpOpsS P #[o1, o2] (Exit.thenS (rest.wpS P Q') Q') [0, 1] a (c₀ :: cs) w := by
    intro Q' a hk
    rw [wpOpsS]
    simp only [show (#[o1, o2] : Array Oper)[0]? = some o1 from rfl, wt1, if_true, r1, d1]
    rcases hrec with ⟨e1, e2, e3⟩ | e1
    · rw [e1]
      rw [e2] at hk
      have := fin Q' _ hk
      rw [e3] at this
      exact this
    · rw [e1]
      exact fin Q' _ hk
  refine fin0 _ _ ?_
  have hget : ((({ tmps := vals ++ Array.replicate (fn.ntmps - vals.size) Go.undef, defers := [] } : Act).put (some ta) (recVal val)).tmps.getD ta Go.undef) = recVal val := by
    rw [getD_put _ _ _ _ (by simp; omega), if_pos rfl]
  rw [hget]
  refine wpS_of_wp (Go.wp_mono hw ?_)
  have finish : ∀ (a' : Act) (w' : World) (g' : Gh) (σ1 : Nat → V) (S1 : St), Sim (g.def []) w fn.ntmps g' σ1 S1 a' w' → (∃ S', Over S S1 S' ∧ Q S') →
      a'.defers = [] ∧ ∃ u', cs' = { c₀ with mode := u' } :: cs ∧ ∃ v, (results fn a'.tmps).run P w' = .ok v w' ∧ u' = modeOf val true ∧ (∃ v', Ending.returned v = .returned v') ∧
        ∃ g' S', Ext g w g' w' ∧ SimW g' S' w' ∧ (S.n ≤ S'.n ∧ S'.b = S.b) ∧ Q S' := by
    rintro a' w' g' σ1 S1 k1 ⟨S2, ho, hq⟩
    refine ⟨k1.dfr, _, hcs', .tuple #[], ?_, rfl, ⟨_, rfl⟩, g'.cut S2.ok, S2, k1.ext.undef.cut (Over.hok hs ho), k1.sim.cut ho.H, ⟨ho.n, ho.b⟩, hq⟩
    simp [results, hres]
  intro e a' w' hp
  cases e with
  | normal => obtain ⟨g', σ1, S1, k1, k2⟩ := hp; exact finish a' w' g' σ1 S1 k1 k2
  | ret => obtain ⟨g', σ1, S1, k1, k2⟩ := hp; exact finish a' w' g' σ1 S1 k1 k2
  | exit id => obtain ⟨g', σ1, S1, k1, k2⟩ := hp; exact k2.elim
  | panic chain => obtain ⟨g', σ1, S1, v, val, k1, k2, k3, k4⟩ := hp; exact k4.elim
  | goto l => exact hp.elim
  | outgrown => exact hp.elim
def vcs (P : Program) (N n₀ : Nat) (Q : AX → (Nat → V) → St → Prop) (K : (Nat → V) → St → Prop) : List C → (Nat → V) → St → Prop
  | [], σ, S => K σ S
  | c :: r, σ, S => vc P N n₀ c (AX.then (vcs P N n₀ Q K r) Q) σ S
def compCs (P : Program) (N : Nat) (rs : List Nat) : List Code → Option (List C)
  | [] => some []
  | x :: r => match compC P N rs x, compCs P N rs r with
    | some c, some l => some (c :: l)
    | _, _ => none
theorem wp_pieces (hm : P.follows .mixedOrders = true) (hB : Base P g₀ w₀ n₀) {rs : List Nat} {Q : AX → (Nat → V) → St → Prop} {K : (Nat → V) → St → Prop} {tail : Code} {Post : Exit → Act → World → Prop}
    (htail : ∀ g σ S a w, Sim g₀ w₀ N g σ S a w → K σ S → tail.wp P Post a w) (hpost : ∀ e a w, APost g₀ w₀ N Q e a w → e ≠ .normal → Post e a w) :
    ∀ (aas : List Code) (cs : List C) (g : Gh) (σ : Nat → V) (S : St) (a : Act) (w : World), compCs P N rs aas = some cs → Sim g₀ w₀ N g σ S a w → vcs P N n₀ Q K cs σ S → (aas.foldr .seq tail).wp P Post a w
  | [], cs, g, σ, S, a, w, hc, hs, h => by
    simp only [compCs, Option.some.injEq] at hc
    subst hc
    exact htail g σ S a w hs h
  | x :: r, cs, g, σ, S, a, w, hc, hs, h => by
    simp only [compCs] at hc
    split at hc <;> cases hc
    rename_i c l h1 h2
    simp only [vcs] at h
    refine wp_seq (Go.wp_mono ((vc_sound c _ σ S h).run hm rs x h1 g₀ w₀ g a w hB hs) ?_)
    intro e a' w' hp
    cases e with
    | normal => obtain ⟨g', σ', S', k1, k2⟩ := hp; exact wp_pieces hm hB htail hpost r l g' σ' S' a' w' h2 k1 k2
    | exit id => exact hpost _ _ _ (by obtain ⟨g', σ', S', k1, k2⟩ := hp; exact ⟨g', σ', S', k1, k2⟩) (by simp)
    | ret => exact hpost _ _ _ (by obtain ⟨g', σ', S', k1, k2⟩ := hp; exact ⟨g', σ', S', k1, k2⟩) (by simp)
    | panic chain => exact hpost _ _ _ (by obtain ⟨g', σ', S', v, val, k1, k2, k3, k4⟩ := hp; exact ⟨g', σ', S', v, val, k1, k2, k3, k4⟩) (by simp)
    | goto l => exact hp.elim
    | outgrown => exact hp.elim
def resEnd (rs : List RX) (S₀ : St) (Q : AE → St → Prop) (σ : Nat → V) (S : St) : Prop :=
  ∃ v S', resV σ S rs = some v ∧ v.isGr = false ∧ v.refsB S'.ok ∧ Over S₀ S S' ∧ Q (.ret v) S'
def defPost (P : Program) (fd : Nat) (caps : List V) (rs : List RX) (S₀ : St) (Q : AE → St → Prop) : AX → (Nat → V) → St → Prop
  | .normal, σ, S | .ret, σ, S => ADefers P fd caps none S (resEnd rs S₀ Q σ)
  | .pan x, σ, S => ADefers P fd caps (some x) S (resEnd rs S₀ Q σ)
  | .exit _, _, _ => False
theorem ACalls_defer {f fd : Nat} {fn : Func} {id k : Nat} {aas : List Code} {cs : List C} {o1 o2 : Oper} {ops : Array Oper} {post : Code} {cp : C} {caps : Array Operand} {xs : List X} {rs : List RX} {args : List V} {Q : AE → St → Prop}
    (hm : P.follows .mixedOrders = true) (hf : P.funcs[f]? = some fn) (hgo : isGo P f = true) (hb : fn.body = some (aas.foldr .seq (.seq (.region id ops false) post)))
    (hcs : compCs P fn.ntmps (rxTmps rs) aas = some cs) (hrs : compRXs P fn.results.toList = some rs) (hcp : compC P fn.ntmps (rxTmps rs) post = some cp)
    (hops : ops = #[o1, o2]) (h1 : o1.op = .makeFunc (.func fd) #[] caps) (d1 : o1.dst = some k) (gd1 : o1.guard = none)
    (h2 : o2.op = .defer { callee := .value (.tmp k), args := #[], argTypes := #[] }) (d2 : o2.dst = none) (gd2 : o2.guard = none) (hk : k < fn.ntmps) (hxs : compXs caps.toList = some xs)
    (hfd : isGo P fd = true) (hN : args.length ≤ fn.ntmps)
    (h : WFS S → vcs P fn.ntmps S.n (retPost rs S Q) (fun σ S1 => vc P fn.ntmps S1.n cp (defPost P fd (xs.map (·.ev σ)) rs S Q) (fun t => (upd σ k (.fn fd (xs.map (·.ev σ))) t).plain) S1.enter) cs (frame0 args) S.enter) : ACalls P f args S Q := by
  subst hops
  refine ⟨hgo, fun g w vals hs hB hr => ?_⟩
  refine calls_of_wp_defers hf hb ?_
  have hvl : vals.size ≤ fn.ntmps := by rw [← hr.1]; exact hN
  have hsim := entry_sim hs hB.top hr hvl
  have hB' : Base P (g.def []) w S.n := ⟨hB.top, ⟨hB.tab.is, hB.tab.no⟩⟩
  refine wp_pieces hm hB' (rs := rxTmps rs) (fun g1 σ S1 a w1 hs1 hk1 => ?_) (fun e a' w' hp hne => ?_) aas cs g _ _ _ w hcs hsim (h (Sim.wfs hs))
  case refine_2 =>
    cases e with
    | normal => exact absurd rfl hne
    | ret =>
      obtain ⟨g', σ, S', k1, v, S'', hv, hbb, ho, hq⟩ := hp
      have hd : a'.defers = [] := k1.dfr
      obtain ⟨val, e1, e2, e3⟩ := run_results hrs k1 hv
      show Go.Leaves P fn a'.tmps _ a'.defers _ _
      rw [hd]
      exact ⟨val, e1, g'.cut S''.ok, S'', .ret v, k1.ext.undef.cut (Over.hok hs ho), k1.sim.cut ho.H, ⟨ho.n, ho.b⟩, ⟨e2.cut _ hbb, e3.cut _⟩, hq⟩
    | exit id => obtain ⟨g', σ, S', k1, k2⟩ := hp; exact k2.elim
    | panic chain =>
      obtain ⟨g', σ, S', v, val, k1, k2, k3, S'', hbb, ho, hq⟩ := hp
      have hd : a'.defers = [] := k1.dfr
      show Go.Leaves P fn a'.tmps _ a'.defers _ _
      rw [hd]
      exact ⟨g'.cut S''.ok, S'', .pan v, k1.ext.undef.cut (Over.hok hs ho), k1.sim.cut ho.H, ⟨ho.n, ho.b⟩, ⟨val, k2, k3.cut _ hbb⟩, hq⟩
    | goto l => exact hp.elim
    | outgrown => exact hp.elim
  have hreps := compXs_reps hxs hs1.rep
  let cv : Array Value := caps.map a.eval
  have hcv : Reps g1 (xs.map (·.ev σ)) cv := ⟨by simp [cv, hreps.1], fun j y v hy hv => (hreps.2 j y v hy (by simpa [cv] using hv)).1⟩
  let d : Deferred := { target := .fn (.func fd) cv, args := #[] }
  have r1 : (execOp a.eval o1).run P w1 = .ok (.value (.func (.func fd) #[] cv)) w1 := by
    have hmf : ∀ (fn : Fn) (first cap : Array Value), (Instr.makeFunc fn first cap).run P w1 = .ok (.func fn first cap) w1 := fun _ _ _ => rfl
    simp only [execOp, h1, Sem.run_bind, hmf, Result.andThen_ok]
    simp [cv]
  have hrf : Rep g1 (.fn fd (xs.map (·.ev σ))) (.func (.func fd) #[] cv) := .fn _ _ _ hcv.1 hcv.2
  have hs2 := hs1.put hk hrf rfl
  have hget : (a.put (some k) (.func (.func fd) #[] cv)).tmps.getD k Go.undef = .func (.func fd) #[] cv := by
    rw [getD_put _ _ _ _ (by rw [hs1.size]; exact hk), if_pos rfl]
  have r2 : (execOp (a.put (some k) (.func (.func fd) #[] cv)).eval o2).run P w1 = .ok (.defer d) w1 := by
    have : (a.put (some k) (.func (.func fd) #[] cv)).eval (.tmp k) = .func (.func fd) #[] cv := hget
    simp [execOp, h2, resolve, Deferred.ofValue, this, d]
  have wt1 : ∀ l, Region.wanted o1 l = true := fun l => by simp [Region.wanted, gd1]
  have wt2 : ∀ l, Region.wanted o2 l = true := fun l => by simp [Region.wanted, gd2]
  refine wp_seq (wp_region_list ?_)
  refine wpList_step fun K hK => ?_
  rw [if_pos (wt1 _)]
  unfold Oper.wp
  rw [r1]
  simp only [Oper.upon, d1]
  refine hK _ _ ?_
  refine wpList_step fun K2 hK2 => ?_
  rw [if_pos (wt2 _)]
  unfold Oper.wp
  rw [r2]
  simp only [Oper.upon, d2]
  refine hK2 _ _ (wpList_nil ?_)
  let a2 : Act := { (a.put (some k) (.func (.func fd) #[] cv)) with defers := d :: (a.put (some k) (.func (.func fd) #[] cv)).defers }
  have hd2 : a2.defers = [d] := by
    have : (a.put (some k) (.func (.func fd) #[] cv)).defers = [] := hs2.dfr
    simp only [a2, this]
  have hlow := hs1.low
  let gg : Gh := g1.at S1.n
  have hle : Le g1 gg := Le.at g1 _
  have hsim3 : Sim (gg.def [d]) w1 fn.ntmps gg (fun t => (upd σ k (.fn fd (xs.map (·.ev σ))) t).plain) S1.enter a2 w1 := by
    refine ⟨(Ext.refl gg w1).def, ?_, hs2.size, hd2, fun t => (hs2.rep t).toPlain.mono hle, fun t => .of_not (plain_isGr _), fun t t' b h1 _ => ?_, ?_, ?_⟩
    · have := hs1.sim.at S1.n
      exact ⟨this.mem, this.box, this.inj, this.boxM, this.locB, fun i k hi => this.fresh i k (by rw [ok_not] at hi ⊢; simp only [St.enter] at hi; omega)⟩
    · rw [spare_not (plain_isGr _)] at h1; cases h1
    · simp only [St.enter, Gh.def, Gh.at, gg]; omega
    · intro i k hi
      exact hs1.sim.fresh i k (by rw [ok_not]; simp only [Gh.def, Gh.at, gg] at hi; omega)
  have hBg : Base P (gg.def [d]) w1 S1.n := by
    have := Base.at (P := P) (g := g1) (w := w1) (g₀ := g.def []) (w₀ := w) (ht := hB'.tab) hs1.ext S1.n
    exact ⟨rfl, ⟨this.tab.is, this.tab.no⟩⟩
  have hw := (vc_sound cp _ _ _ hk1).run hm (rxTmps rs) post hcp (gg.def [d]) w1 gg a2 w1 hBg hsim3
  have hback : ∀ {g' : Gh} {w' : World}, Ext (gg.def [d]) w1 g' w' → Ext g w (g'.at g1.top) w' := fun hx => hs1.ext.undef.trans (hx.undef.back hs1.low')
  have hinv' : ∀ w, (invoke (.fn (.func fd) cv) #[]).run P w = .ok (.enter fd cv) w := fun w => by
    have := callFunc_run (w := w) hfd (#[] ++ cv)
    simpa [invoke] using this
  have main : ∀ (a' : Act) (w' : World) (g' : Gh) (σ' : Nat → V) (S' : St) (x : Option V) (val : Option Value), Sim (gg.def [d]) w1 fn.ntmps g' σ' S' a' w' → RepO g' x val → ADefers P fd (xs.map (·.ev σ)) x S' (resEnd rs S Q σ') →
      Go.Leaves P fn a'.tmps (fun e w' => ∃ g' S' ae, Ext g w g' w' ∧ SimW g' S' w' ∧ (S.n ≤ S'.n ∧ S'.b = S.b) ∧ RepEnd g' w' w.heap.size ae e ∧ Q ae S') a'.defers (modeOf val false) w' := by
    intro a' w' g' σ' S' x val k1 hx hA
    have hd' : a'.defers = [d] := k1.dfr
    rw [hd']
    refine leaves_cons (f := fd) (args := cv) (by cases val <;> simp [modeOf]) (hinv' _) ?_
    haveI : Tab P (gg.def [d]) w1 := hBg.tab
    refine (hA.run (g'.at S'.n) w' cv val (k1.sim.at _) (Base.at k1.ext _) ((hcv.mono (hle.trans ⟨k1.ext.le.M, k1.ext.le.loc⟩)).mono (Le.at g' _)) ?_).mono ?_
    · cases x <;> cases val <;> simp only [RepO] at hx ⊢
      exact hx.mono (Le.at g' _)
    rintro e u' w'' ⟨rfl, ⟨v', rfl⟩, g2, S2, hx2, hs2', hn2, v, S3, hv, hng, hbb, ho, hq⟩
    have hset : settle (modeOf val true) = .returning := by cases val <;> rfl
    show Go.Leaves P fn a'.tmps _ [] (settle (modeOf val true)) w''
    rw [hset]
    have k2 := k1.called (hx2.back k1.low') (hs2'.at g'.top) hn2
    obtain ⟨vv, e1, e2, _⟩ := run_results hrs k2 hv
    have hx4 := hback k2.ext
    refine ⟨vv, e1, ((g2.at g'.top).at g1.top).cut S3.ok, S3, .ret v, hx4.cut (Over.hok hs ho), ((hs2'.at g'.top).at g1.top).cut ho.H, ⟨ho.n, ho.b⟩, ⟨(e2.mono (Le.at _ _)).cut _ hbb, .of_not hng⟩, hq⟩
  refine Go.wp_mono hw ?_
  intro e a' w' hp
  cases e with
  | normal => obtain ⟨g', σ', S', k1, k2⟩ := hp; exact main a' w' g' σ' S' none none k1 trivial k2
  | ret => obtain ⟨g', σ', S', k1, k2⟩ := hp; exact main a' w' g' σ' S' none none k1 trivial k2
  | exit id => obtain ⟨g', σ', S', k1, k2⟩ := hp; exact k2.elim
  | panic chain =>
    obtain ⟨g', σ', S', v, val, k1, rfl, k3, k4⟩ := hp
    exact main a' w' g' σ' S' (some v) (some val) k1 k3 k4
  | goto l => exact hp.elim
  | outgrown => exact hp.elim
end
structure FD where
  N : Nat
  rs : List RX
  cs : List C
  k : Nat
  fd : Nat
  xs : List X
  cp : C
  deriving Inhabited
def isDefer (k : Nat) : Op → Bool
  | .defer { callee := .value (.tmp j), args := ⟨[]⟩, argTypes := ⟨[]⟩ } => j == k
  | _ => false
def mkCaps : Op → Option (Nat × List Operand)
  | .makeFunc (.func f) ⟨[]⟩ caps => some (f, caps.toList)
  | _ => none
def splitD (b : Code) : Option (List Code × Nat × Oper × Oper × Code) := match b with
  | .seq (.region id ⟨[o1, o2]⟩ false) post => match o2.op with
    | .defer _ => some ([], id, o1, o2, post)
    | _ => match splitD post with
      | some (aas, r) => some (.region id ⟨[o1, o2]⟩ false :: aas, r)
      | none => none
  | .seq x y => match splitD y with
    | some (aas, r) => some (x :: aas, r)
    | none => none
  | _ => none
theorem splitD_eq : ∀ (b : Code) {aas : List Code} {id : Nat} {o1 o2 : Oper} {post : Code}, splitD b = some (aas, id, o1, o2, post) → b = aas.foldr .seq (.seq (.region id #[o1, o2] false) post) := by
  intro b
  fun_induction splitD b
  all_goals
    intro as' id' o1' o2' post' e
    first
      | (cases e; done)
      | (cases e; rfl)
      | (cases e
         rw [List.foldr_cons]
         congr 1
         apply_assumption
         assumption)
def compD (P : Program) (fn : Func) : Option FD :=
  match fn.body, compRXs P fn.results.toList with
  | some b, some rs => match splitD b with
    | some (aas, _, o1, o2, post) => match mkCaps o1.op, o1.dst, o1.guard, o2.dst, o2.guard with
      | some (fd, caps), some k, none, none, none => bif isDefer k o2.op && decide (k < fn.ntmps) && isGo P fd then
          match compCs P fn.ntmps (rxTmps rs) aas, compC P fn.ntmps (rxTmps rs) post, compXs caps with
          | some cs, some cp, some xs => some ⟨fn.ntmps, rs, cs, k, fd, xs, cp⟩
          | _, _, _ => none
        else none
      | _, _, _, _, _ => none
    | none => none
  | _, _ => none
theorem ACalls_of_D {P : Program} {S : St} {f : Nat} {fn : Func} {F : FD} {args : List V} {Q : AE → St → Prop} (hm : P.follows .mixedOrders = true) (hf : P.funcs[f]? = some fn) (hgo : isGo P f = true) (hc : compD P fn = some F) (hN : args.length ≤ F.N)
    (h : WFS S → vcs P F.N S.n (retPost F.rs S Q) (fun σ S1 => vc P F.N S1.n F.cp (defPost P F.fd (F.xs.map (·.ev σ)) F.rs S Q) (fun t => (upd σ F.k (.fn F.fd (F.xs.map (·.ev σ))) t).plain) S1.enter) F.cs (frame0 args) S.enter) : ACalls P f args S Q := by
  unfold compD at hc
  split at hc
  case h_2 => cases hc
  rename_i b rs hb hrs
  split at hc
  case h_2 => cases hc
  rename_i aas id o1 o2 post hsp
  split at hc
  case h_2 => cases hc
  rename_i fd caps k e1 e2 e3 e4 e5
  cases hcond : (isDefer k o2.op && decide (k < fn.ntmps) && isGo P fd) with
  | false => rw [hcond] at hc; cases hc
  | true =>
    rw [hcond] at hc
    simp only [cond_true] at hc
    split at hc
    case h_2 => cases hc
    rename_i cs cp xs k1 k2 k3
    cases hc
    simp only [Bool.and_eq_true, decide_eq_true_eq] at hcond
    obtain ⟨⟨q1, q2⟩, q3⟩ := hcond
    have h1 : ∃ cps, o1.op = .makeFunc (.func fd) #[] cps ∧ cps.toList = caps := by
      unfold mkCaps at e1
      split at e1
      · rename_i f' cps heq; cases e1; exact ⟨cps, heq, rfl⟩
      · cases e1
    obtain ⟨cps, h1, rfl⟩ := h1
    have h2 : o2.op = .defer { callee := .value (.tmp k), args := #[], argTypes := #[] } := by
      unfold isDefer at q1
      split at q1
      · rename_i j heq
        have : j = k := by simpa using q1
        subst this; exact heq
      · cases q1
    exact ACalls_defer (id := id) hm hf hgo (by rw [hb, splitD_eq b hsp]) k1 hrs k2 rfl h1 e2 e3 h2 e4 e5 q2 k3 q3 hN h
structure FR where
  N : Nat
  ta : Nat
  tb : Nat
  c : C
  deriving Inhabited
def isRecover : Op → Bool
  | .call { callee := .builtin .recover, args := ⟨[]⟩, argTypes := ⟨[]⟩ } => true
  | _ => false
def asgTmp : Op → Option Nat
  | .assign (.tmp t) => some t
  | _ => none
def compR (P : Program) (fn : Func) : Option FR :=
  match fn.body, fn.results.toList with
  | some (.seq (.region _ ⟨[o1, o2]⟩ false) rest), [] => match o1.dst, o1.guard, asgTmp o2.op, o2.dst, o2.guard with
    | some ta, none, some ta', some tb, none => bif isRecover o1.op && ta' == ta && decide (ta < fn.ntmps) && decide (tb < fn.ntmps) then
        match compC P fn.ntmps [] rest with
        | some c => some ⟨fn.ntmps, ta, tb, c⟩
        | none => none
      else none
    | _, _, _, _, _ => none
  | _, _ => none
theorem ADefers_of_R {P : Program} {S : St} {f : Nat} {fn : Func} {F : FR} {caps : List V} {x : Option V} {Q : St → Prop} (hm : P.follows .mixedOrders = true) (hf : P.funcs[f]? = some fn) (hgo : isGo P f = true) (hc : compR P fn = some F)
    (hN : caps.length ≤ F.N) (hx : ∀ y, x = some y → y.isGr = false)
    (h : WFS S → vc P F.N S.n F.c (dEnd S Q) (upd (upd (frame0 caps) F.ta (recV x)) F.tb (recV x)) S.enter) : ADefers P f caps x S Q := by
  unfold compR at hc
  split at hc
  case h_2 => cases hc
  rename_i id o1 o2 rest hb hres
  split at hc
  case h_2 => cases hc
  rename_i ta ta' tb e1 e2 e3 e4 e5
  cases hcond : (isRecover o1.op && ta' == ta && decide (ta < fn.ntmps) && decide (tb < fn.ntmps)) with
  | false => rw [hcond] at hc; cases hc
  | true =>
    rw [hcond] at hc
    simp only [cond_true] at hc
    split at hc
    case h_2 => cases hc
    rename_i c k1
    cases hc
    simp only [Bool.and_eq_true, decide_eq_true_eq, beq_iff_eq] at hcond
    obtain ⟨⟨⟨q1, rfl⟩, q3⟩, q4⟩ := hcond
    have h1 : o1.op = .call { callee := .builtin .recover, args := #[], argTypes := #[] } := by
      unfold isRecover at q1
      split at q1
      · assumption
      · cases q1
    have h2 : o2.op = .assign (.tmp ta') := by
      unfold asgTmp at e3
      split at e3
      · rename_i t heq; cases e3; exact heq
      · cases e3
    exact ADefers_of_vc hm hf hgo hb (by apply Array.ext'; simpa using hres) rfl h1 e1 e2 h2 e4 e5 q3 q4 k1 hN hx h
end Go.Pl
end
