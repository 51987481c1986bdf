import Derived.Test.YtllbopmdpmjcpaaGreatDoorM10
import Derived.Test.YtllbopmdpmjcpaaGreatDoorProg
import Derived.KernelRfl
set_option linter.unusedSimpArgs false
set_option linter.unusedVariables false
set_option linter.unusedSectionVars false
section
namespace Go.Pl
mutual
def V.frz (i k sz : Nat) (xs : List V) : V → V
 | .bs i' k' sz' off ln => if i' = i ∧ k' = k then (if sz' = sz ∧ off.toNat + ln.toNat ≤ xs.length then .sl false sz ((xs.drop off.toNat).take ln.toNat) else .any) else .bs i' k' sz' off ln
 | .eref i' k' sz' j => if i' = i ∧ k' = k then .any else .eref i' k' sz' j
 | .ref i' k' o => if i' = i ∧ k' = k then .any else .ref i' k' o
 | .mref i' k' => if i' = i ∧ k' = k then .any else .mref i' k'
 | .ro x => .ro (x.frz i k sz xs)
 | .sl n s l => .sl n s (V.frzs i k sz xs l)
 | .gr e n s l => .gr e n s (V.frzs i k sz xs l)
 | .agg l => .agg (V.frzs i k sz xs l)
 | .tup l => .tup (V.frzs i k sz xs l)
 | .fn f l => .fn f (V.frzs i k sz xs l)
 | .iface t x => .iface t (x.frz i k sz xs)
 | .rows s l => .rows s (V.frzs i k sz xs l)
 | .mapv ks vs => .mapv (V.frzs i k sz xs ks) (V.frzs i k sz xs vs)
 | .any => .any
 | .bool b => .bool b
 | .int k n => .int k n
 | .str s => .str s
 | .nilp => .nilp
 | .nilfn => .nilfn
 | .niliface => .niliface
 | .nilmap => .nilmap
def V.frzs (i k sz : Nat) (xs : List V) : List V → List V
 | [] => []
 | x :: r => x.frz i k sz xs :: V.frzs i k sz xs r
end
section
variable {i k sz : Nat} {xs : List V}
theorem frzs_map : ∀ l : List V, V.frzs i k sz xs l = l.map (V.frz i k sz xs)
 | [] => rfl
 | x :: r => by simp only [V.frzs, List.map_cons, frzs_map r]
theorem frz_isGr (x : V) : (x.frz i k sz xs).isGr = x.isGr := by
 cases x <;> simp only [V.frz] <;> (repeat' split) <;> rfl
theorem frz_isAgg (x : V) : (x.frz i k sz xs).isAgg = x.isAgg := by
 cases x <;> simp only [V.frz] <;> (repeat' split) <;> rfl
theorem frz_cells (x : V) : (x.frz i k sz xs).cells = V.frzs i k sz xs x.cells := by
 cases hx : x.isAgg with
 | true => cases x <;> first | rfl | (simp [V.isAgg] at hx)
 | false => rw [cells_one hx, cells_one (by rw [frz_isAgg]; exact hx)]; rfl
theorem frzs_get (l : List V) (j : Nat) : (V.frzs i k sz xs l)[j]? = (l[j]?).map (V.frz i k sz xs) := by rw [frzs_map]; simp
theorem frzs_length (l : List V) : (V.frzs i k sz xs l).length = l.length := by rw [frzs_map]; simp
theorem frzs_inv {l : List V} {j : Nat} {y : V} (h : (V.frzs i k sz xs l)[j]? = some y) : ∃ z, l[j]? = some z ∧ y = z.frz i k sz xs := by
 rw [frzs_get] at h
 obtain ⟨z, h1, h2⟩ := Option.map_eq_some_iff.1 h
 exact ⟨z, h1, h2.symm⟩
end
def Gh.frz (g : Gh) (i k b : Nat) (cs : Array Value) : Gh := { g with M := fun b' o => if b' = b then cs[o]? else g.M b' o, loc := fun i' k' => if i' = i ∧ k' = k then none else g.loc i' k' }
def butB (i k : Nat) : Nat → Nat → Bool := fun i' k' => !(decide (i' = i) && decide (k' = k))
theorem butB_self (i k : Nat) : butB i k i k = false := by simp [butB]
theorem butB_ne {i k i' k' : Nat} (h : butB i k i' k' = true) : ¬ (i' = i ∧ k' = k) := by
 rintro ⟨rfl, rfl⟩; rw [butB_self] at h; cases h
theorem Rep.frz0 {g : Gh} {i k b : Nat} {cs : Array Value} (hM : ∀ o, g.M b o = none) {x : V} {v : Value} (h : Rep g x v) (hx : x.refsB (butB i k)) : Rep (g.frz i k b cs) x v :=
 (h.cut _ hx).mono ⟨fun b' o c hc => by
  simp only [Gh.frz]
  rw [if_neg (by rintro rfl; rw [show (g.cut (butB i k)).M b' o = g.M b' o from rfl, hM o] at hc; cases hc)]
  exact hc, fun i' k' b' hl => by
  have := cut_some hl
  simp only [Gh.frz]; rw [if_neg (butB_ne this.1)]; exact this.2⟩
theorem Rep.frz {g : Gh} {i k b sz : Nat} {xs : List V} {cs : Array Value} (hb : g.loc i k = some b) (hM : ∀ o, g.M b o = none) (harr : ArrIn g sz xs cs) (hno : V.refsBs (butB i k) xs) {x : V} {v : Value} (h : Rep g x v) : Rep (g.frz i k b cs) (x.frz i k sz xs) v := by
 have hxs : ∀ (q : Nat) (x : V) (j : Nat) (y : V) (c : Value), xs[q]? = some x → x.cells[j]? = some y → Rep g y c → Rep (g.frz i k b cs) y c := fun q x j y c hx hy hr =>
  hr.frz0 hM (V.refsBs_get (V.refsB_cells (V.refsBs_get hno hx)) hy)
 have hMle : ∀ b' o c, g.M b' o = some c → (g.frz i k b cs).M b' o = some c := fun b' o c hc => by
  simp only [Gh.frz]
  rw [if_neg (by rintro rfl; rw [hM o] at hc; cases hc)]
  exact hc
 have hlocle : ∀ i' k' b', ¬ (i' = i ∧ k' = k) → g.loc i' k' = some b' → (g.frz i k b cs).loc i' k' = some b' := fun i' k' b' hne hl => by
  simp only [Gh.frz]; rw [if_neg hne]; exact hl
 induction h with
 | any v => exact .any v
 | bool b => exact .bool b
 | int k n => exact .int k n
 | str s => exact .str s
 | nilp => exact .nilp
 | ref i' k' off b' h =>
  simp only [V.frz]
  split
  ·exact .any _
  ·rename_i hne; exact .ref i' k' off b' (hlocle _ _ _ hne h)
 | ro x b' o c h h1 _ ih =>
  simp only [V.frz]
  refine .ro _ b' o c (fun j y hy => ?_) (fun j y hy => ?_) (fun j y hy => ?_)
  all_goals
   rw [frz_cells] at hy
   obtain ⟨z, hz, rfl⟩ := frzs_inv hy
  ·exact hMle _ _ _ (h j z hz)
  ·exact h1 j z hz
  ·exact ih j z hz
 | slNil s => exact .slNil s
 | slE s a => exact .slE s a
 | sl s l b' o cap c hcap hsz h h1 _ ih =>
  simp only [V.frz]
  have hl : (V.frzs i k sz xs l).length = l.length := frzs_length l
  rw [← hl]
  refine .sl s _ b' o cap c (by rw [hl]; exact hcap) (fun q x hx => ?_) (fun q x j y hx hy => ?_) (fun q x j y hx hy => ?_) (fun q x j y hx hy => ?_)
  all_goals
   obtain ⟨x', hx', rfl⟩ := frzs_inv hx
   try rw [frz_cells] at hy
   try obtain ⟨z, hz, rfl⟩ := frzs_inv hy
  ·rw [frz_cells, frzs_length]; exact hsz q x' hx'
  ·exact hMle _ _ _ (h q x' j z hx' hz)
  ·exact h1 q x' j z hx' hz
  ·exact ih q x' j z hx' hz
 | gr e n s l v _ ih => simp only [V.frz] at ih ⊢; exact .gr e n s _ v ih
 | agg l vs hl h1 _ ih =>
  simp only [V.frz]
  refine .agg _ vs (by rw [frzs_length]; exact hl) h1 fun j y v hy hv => ?_
  obtain ⟨z, hz, rfl⟩ := frzs_inv hy
  exact ih j z v hz hv
 | tup l vs hl _ ih =>
  simp only [V.frz]
  refine .tup _ vs (by rw [frzs_length]; exact hl) fun j y v hy hv => ?_
  obtain ⟨z, hz, rfl⟩ := frzs_inv hy
  exact ih j z v hz hv
 | fn f l vs hl _ ih =>
  simp only [V.frz]
  refine .fn f _ vs (by rw [frzs_length]; exact hl) fun j y v hy hv => ?_
  obtain ⟨z, hz, rfl⟩ := frzs_inv hy
  exact ih j z v hz hv
 | nilfn => exact .nilfn
 | iface t x v _ ih => simp only [V.frz]; exact .iface t _ v ih
 | niliface => exact .niliface
 | bs i' k' sz' off ln b' o cap h h0 h1 ho hc =>
  simp only [V.frz]
  by_cases he : i' = i ∧ k' = k
  ·rw [if_pos he]
   obtain ⟨rfl, rfl⟩ := he
   rw [hb] at h
   cases h
   split
   ·rename_i hcond
    obtain ⟨rfl, hle⟩ := hcond
    have hlen : ((xs.drop off.toNat).take ln.toNat).length = ln.toNat := by simp; omega
    have hg : ∀ (q : Nat) (x : V), ((xs.drop off.toNat).take ln.toNat)[q]? = some x → xs[off.toNat + q]? = some x ∧ q < ln.toNat := fun q x hx => by
     rw [List.getElem?_take] at hx
     split at hx
     ·rename_i hq; rw [List.getElem?_drop] at hx; exact ⟨hx, hq⟩
     ·cases hx
    have := Rep.sl (g := g.frz i' k' b cs) sz' ((xs.drop off.toNat).take ln.toNat) b o cap (fun q j => cs.getD ((off.toNat + q) * sz' + j) undef) (by rw [hlen]; exact hc) (fun q x hx => (harr.shape _ _ (hg q x hx).1).2)
     (fun q x j y hx hy => ?_) (fun q x j y hx hy => ?_) (fun q x j y hx hy => ?_)
    ·rw [hlen] at this; exact this
    all_goals
     obtain ⟨g1, g2⟩ := hg q x hx
     obtain ⟨c, c1, c2, c3⟩ := harr.cell _ _ j y g1 hy
     have e : cs.getD ((off.toNat + q) * sz' + j) undef = c := by simp [c1]
     rw [e]
    ·simp only [Gh.frz, if_true]
     have ho' := ho (by omega)
     rw [ho']
     have : off.toNat * sz' + q * sz' + j = (off.toNat + q) * sz' + j := by rw [Nat.add_mul]
     rw [this]; exact c1
    ·exact c3
    ·exact hxs _ _ j y c g1 hy c2
   ·exact .any _
  ·rw [if_neg he]
   exact .bs i' k' sz' off ln b' o cap (hlocle _ _ _ he h) h0 h1 ho hc
 | eref i' k' sz' j b' h h0 =>
  simp only [V.frz]
  split
  ·exact .any _
  ·rename_i hne; exact .eref i' k' sz' j b' (hlocle _ _ _ hne h) h0
 | mref i' k' b' h =>
  simp only [V.frz]
  split
  ·exact .any _
  ·rename_i hne; exact .mref i' k' b' (hlocle _ _ _ hne h)
 | nilmap => exact .nilmap
def St.del (S : St) (i k : Nat) : St := { S with H := fun i' k' => bif butB i k i' k' then S.H i' k' else none }
theorem butB_of {i k i' k' : Nat} (h : ¬ (i' = i ∧ k' = k)) : butB i k i' k' = true := by
 simp only [butB, Bool.not_eq_true', Bool.and_eq_false_iff, decide_eq_false_iff_not]
 by_cases h1 : i' = i
 ·exact .inr fun h2 => h ⟨h1, h2⟩
 ·exact .inl h1
theorem del_some {S : St} {i k i' k' : Nat} {y : V} (h : (S.del i k).H i' k' = some y) : S.H i' k' = some y ∧ butB i k i' k' = true := by
 simp only [St.del] at h
 cases e : butB i k i' k' with
 | true => rw [e] at h; exact ⟨h, rfl⟩
 | false => rw [e] at h; cases h
def frzA (x : V) (S : St) (K : (V → V) → St → Prop) : Prop := match x with
 | .bs i k sz _ _ => ∃ xs, S.H i k = some (.rows sz xs) ∧ S.b ≤ i ∧ V.refsBs (butB i k) xs ∧ (∀ i' k' y, S.H i' k' = some y → butB i k i' k' = true → y.refsB (butB i k)) ∧ K (V.frz i k sz xs) (S.del i k)
 | _ => K id S
theorem ObjRep.frz0 {g : Gh} {i k b : Nat} {cs : Array Value} (hM : ∀ o, g.M b o = none) {x : V} {o : Obj} (h : ObjRep g x o) (hx : x.refsB (butB i k)) : ObjRep (g.frz i k b cs) x o :=
 (h.cut _ hx).mono ⟨fun b' o c hc => by
  simp only [Gh.frz]
  rw [if_neg (by rintro rfl; rw [show (g.cut (butB i k)).M b' o = g.M b' o from rfl, hM o] at hc; cases hc)]
  exact hc, fun i' k' b' hl => by
  have := cut_some hl
  simp only [Gh.frz]; rw [if_neg (butB_ne this.1)]; exact this.2⟩
theorem frz_spare {i k sz : Nat} {xs : List V} (x : V) (v : Value) : spare (x.frz i k sz xs) v = spare x v := by
 cases x <;> simp only [V.frz] <;> (repeat' split) <;> rfl
theorem Sim.frz {g₀ g : Gh} {w₀ w : World} {N : Nat} {σ : Nat → V} {S : St} {a : Act} (h : Sim g₀ w₀ N g σ S a w) {i k sz : Nat} {xs : List V} (hH : S.H i k = some (.rows sz xs)) (hi : S.b ≤ i)
  (hno : V.refsBs (butB i k) xs) (hoth : ∀ i' k' y, S.H i' k' = some y → butB i k i' k' = true → y.refsB (butB i k)) :
  ∃ b cs, Sim g₀ w₀ N (g.frz i k b cs) (fun u => (σ u).frz i k sz xs) (S.del i k) a w := by
 obtain ⟨b, cs, e, hb, hw, harr⟩ := h.sim.arr hH
 have hM : ∀ o, g.M b o = none := h.sim.boxM i k b hb
 have htop : g₀.top ≤ i := Nat.le_trans h.low.1 hi
 have hg0 : g₀.loc i k = none := h.none0 i k htop
 have hnew : w₀.heap.size ≤ b := by
  rcases h.ext.newLoc i k b hb with h1 | h1
  ·rw [hg0] at h1; cases h1
  ·exact h1
 refine ⟨b, cs, ?_⟩
 have hloc : ∀ i' k' b', (g.frz i k b cs).loc i' k' = some b' → g.loc i' k' = some b' ∧ ¬ (i' = i ∧ k' = k) := fun i' k' b' hl => by
  simp only [Gh.frz] at hl
  by_cases he : i' = i ∧ k' = k
  ·rw [if_pos he] at hl; cases hl
  ·rw [if_neg he] at hl; exact ⟨hl, he⟩
 have hlocn : ∀ i' k', g.loc i' k' = none → (g.frz i k b cs).loc i' k' = none := fun i' k' hl => by
  simp only [Gh.frz]; split
  ·rfl
  ·exact hl
 have hcell : ∀ o v, cs[o]? = some v → w.cell? ⟨b, o, none⟩ = some v := fun o v hv => by
  simp only [World.cell?, hw]; simpa using hv
 refine ⟨?_, ⟨?_, ?_, ?_, ?_, ?_, ?_⟩, h.size, h.dfr, ?_, ?_, ?_, h.low, h.none0⟩
 ·refine ⟨⟨fun b' o v hv => ?_, fun i' k' b' hl => ?_⟩, h.ext.os, h.ext.tape, h.ext.output, h.ext.size, h.ext.block, fun i' k' b' hl => h.ext.newLoc i' k' b' (hloc _ _ _ hl).1, fun b' o v hv => ?_, h.ext.top, fun i' k' h1 h2 => hlocn _ _ (h.ext.newName i' k' h1 h2)⟩
  ·simp only [Gh.frz]
   rw [if_neg (by rintro rfl; have := h.ext.le.M _ _ _ hv; rw [hM o] at this; cases this)]
   exact h.ext.le.M _ _ _ hv
  ·simp only [Gh.frz]
   rw [if_neg (by rintro ⟨rfl, rfl⟩; rw [hg0] at hl; cases hl)]
   exact h.ext.le.loc _ _ _ hl
  ·simp only [Gh.frz] at hv
   by_cases he : b' = b
   ·subst he; exact .inr hnew
   ·rw [if_neg he] at hv; exact h.ext.newM b' o v hv
 ·intro b' o v hv
  simp only [Gh.frz] at hv
  by_cases he : b' = b
  ·subst he; rw [if_pos rfl] at hv; exact hcell o v hv
  ·rw [if_neg he] at hv; exact h.sim.mem b' o v hv
 ·intro i' k' x hx
  obtain ⟨h1, h2⟩ := del_some hx
  obtain ⟨b', o, e1, e2, e3⟩ := h.sim.box i' k' x h1
  refine ⟨b', o, ?_, e2, e3.frz0 hM (hoth i' k' x h1 h2)⟩
  simp only [Gh.frz]; rw [if_neg (butB_ne h2)]; exact e1
 ·intro i' k' j l b' h1 h2
  exact h.sim.inj i' k' j l b' (hloc _ _ _ h1).1 (hloc _ _ _ h2).1
 ·intro i' k' b' hl o
  obtain ⟨h1, h2⟩ := hloc _ _ _ hl
  simp only [Gh.frz]
  rw [if_neg (by rintro rfl; exact h2 (h.sim.inj i' k' i k b' h1 hb))]
  exact h.sim.boxM i' k' b' h1 o
 ·intro i' k' b' hl
  exact h.sim.locB i' k' b' (hloc _ _ _ hl).1
 ·intro i' k' hok
  exact hlocn i' k' (h.sim.fresh i' k' hok)
 ·intro t
  exact (h.rep t).frz hb hM harr hno
 ·intro t
  have hc := h.claim t
  cases hx : σ t with
  | gr e' nl sz' l =>
   rw [hx] at hc
   simp only [V.frz]
   simp only [Claim] at hc ⊢
   rw [frzs_length]
   refine ⟨hc.1, fun b' hb' => ⟨fun q hq => ?_, fun i' k' hl => (hc.2 b' hb').2 i' k' (hloc _ _ _ hl).1⟩⟩
   simp only [Gh.frz]
   rw [if_neg (by rintro rfl; exact (hc.2 b' hb').2 i k hb)]
   exact (hc.2 b' hb').1 q hq
  | _ => exact Claim.of_not (by rw [frz_isGr]; rfl)
 ·intro t t' b' h1 h2
  rw [frz_spare] at h1 h2
  exact h.sep t t' b' h1 h2
end Go.Pl
end
section
open Go Go.Pl Go.Proofs
namespace Go.Pl.Z
theorem hm : Tryz.prog.follows .mixedOrders = true := by kernel_rfl
def F21 : F := ⟨5,[.cell 2 4 true],.seq (.reg [⟨some 2,.new (.agg [.int .i64 0,.int .i64 0,.str [],.sl true 4 []]),none⟩]) (.seq (.reg [⟨some 3,.mv (.t 0),none⟩,⟨some 4,.mk [.int .i64 0,.int .i64 0,.str [],.sl true 4 []] [(0,1,(.k (.int .i64 0))),(1,1,(.t 3))],none⟩,⟨none,.st 4 (.t 2) (.t 4),none⟩]) .ret)⟩
theorem c21 : compFn Tryz.prog Tryz.f21 = some F21 := by kernel_rfl
theorem g21 : isGo Tryz.prog 21 = true := by kernel_rfl
def F28 : F := ⟨20,[.tmp 2],.seq (.reg [⟨some 1,.box (.t 0),none⟩,⟨some 2,.asg (.k (.str [])),none⟩]) (.seq (.seq (.reg [⟨some 4,.ld 4 true (.t 1),none⟩,⟨some 5,.call 58 [.t 4],none⟩,⟨some 3,.asg (.t 5),none⟩]) (.seq (.reg [⟨some 6,.mv (.t 3),none⟩,⟨some 7,.len (.t 6),none⟩,⟨some 8,.bin .gtr (.t 7) (.k (.int .i64 0)),none⟩,⟨some 9,.mv (.t 8),none⟩,⟨some 10,.mv (.t 3),some (9,true)⟩,⟨some 11,.ia 4 (.t 10) (.k (.int .i64 0)),some (9,true)⟩,⟨some 12,.fa 0 1 false (.t 11),some (9,true)⟩,⟨some 13,.ld 1 false (.t 12),some (9,true)⟩,⟨some 14,.bin .eql (.t 13) (.k (.int .i64 1)),some (9,true)⟩,⟨some 15,.pick (.t 9) (.t 14) (.k (.bool false)),none⟩]) (.cond (.t 15) (.seq (.reg [⟨some 16,.mv (.t 3),none⟩,⟨some 17,.ia 4 (.t 16) (.k (.int .i64 0)),none⟩,⟨some 18,.fa 2 1 false (.t 17),none⟩,⟨some 19,.ld 1 false (.t 18),none⟩,⟨some 2,.asg (.t 19),none⟩]) .ret) .skip))) (.seq (.reg [⟨some 2,.asg (.k (.str [])),none⟩]) .ret))⟩
theorem c28 : compFn Tryz.prog Tryz.f28 = some F28 := by kernel_rfl
theorem g28 : isGo Tryz.prog 28 = true := by kernel_rfl
def F58 : F := ⟨8,[.tmp 2],.seq (.reg [⟨some 1,.box (.t 0),none⟩,⟨some 2,.asg (.k (.sl true 4 [])),none⟩]) (.seq (.seq (.reg [⟨some 3,.fa 0 1 false (.t 1),none⟩,⟨some 4,.ld 1 false (.t 3),none⟩,⟨some 5,.bin .eql (.t 4) (.k (.int .i64 3)),none⟩]) (.cond (.t 5) (.seq (.reg [⟨some 6,.fa 3 1 false (.t 1),none⟩,⟨some 7,.ld 1 false (.t 6),none⟩,⟨some 2,.asg (.t 7),none⟩]) .ret) .skip)) (.seq (.reg [⟨some 2,.asg (.k (.sl true 4 [])),none⟩]) .ret))⟩
theorem c58 : compFn Tryz.prog Tryz.f58 = some F58 := by kernel_rfl
theorem g58 : isGo Tryz.prog 58 = true := by kernel_rfl
def F43 : F := ⟨39,[.tmp 4],.seq (.reg [⟨some 2,.box (.t 0),none⟩,⟨some 3,.box (.t 1),none⟩,⟨some 4,.asg (.k (.int .i64 0)),none⟩]) (.seq (.seq (.reg [⟨some 5,.fa 0 1 false (.t 2),none⟩,⟨some 6,.ld 1 false (.t 5),none⟩,⟨some 7,.fa 0 1 false (.t 3),none⟩,⟨some 8,.ld 1 false (.t 7),none⟩,⟨some 9,.bin .neq (.t 6) (.t 8),none⟩]) (.cond (.t 9) (.seq (.reg [⟨some 10,.fa 0 1 false (.t 2),none⟩,⟨some 11,.ld 1 false (.t 10),none⟩,⟨some 12,.fa 0 1 false (.t 3),none⟩,⟨some 13,.ld 1 false (.t 12),none⟩,⟨some 14,.call 76 [.t 11,.t 13],none⟩,⟨some 4,.asg (.t 14),none⟩]) .ret) .skip)) (.seq (.seq (.reg [⟨some 15,.fa 0 1 false (.t 2),none⟩,⟨some 16,.ld 1 false (.t 15),none⟩]) (.block 0 (.seq (.reg [⟨some 18,.bin .eql (.t 16) (.k (.int .i64 0)),none⟩,⟨some 17,.asg (.t 18),none⟩]) (.cond (.t 17) (.seq (.reg [⟨some 19,.fa 1 1 false (.t 2),none⟩,⟨some 20,.ld 1 false (.t 19),none⟩,⟨some 21,.fa 1 1 false (.t 3),none⟩,⟨some 22,.ld 1 false (.t 21),none⟩,⟨some 23,.call 76 [.t 20,.t 22],none⟩,⟨some 4,.asg (.t 23),none⟩]) .ret) (.seq (.seq (.reg [⟨some 25,.bin .eql (.t 16) (.k (.int .i64 1)),none⟩,⟨some 24,.asg (.t 25),none⟩]) (.cond (.t 24) .skip (.reg [⟨some 26,.bin .eql (.t 16) (.k (.int .i64 2)),none⟩,⟨some 24,.asg (.t 26),none⟩]))) (.cond (.t 24) (.seq (.reg [⟨some 27,.fa 2 1 false (.t 2),none⟩,⟨some 28,.ld 1 false (.t 27),none⟩,⟨some 29,.fa 2 1 false (.t 3),none⟩,⟨some 30,.ld 1 false (.t 29),none⟩,⟨some 31,.call 77 [.t 28,.t 30],none⟩,⟨some 4,.asg (.t 31),none⟩]) .ret) (.seq (.reg [⟨some 33,.bin .eql (.t 16) (.k (.int .i64 3)),none⟩,⟨some 32,.asg (.t 33),none⟩]) (.cond (.t 32) (.seq (.reg [⟨some 34,.fa 3 1 false (.t 2),none⟩,⟨some 35,.ld 1 false (.t 34),none⟩,⟨some 36,.fa 3 1 false (.t 3),none⟩,⟨some 37,.ld 1 false (.t 36),none⟩,⟨some 38,.call 78 [.t 35,.t 37,.k (.fn 43 [])],none⟩,⟨some 4,.asg (.t 38),none⟩]) .ret) .skip)))))))) (.seq (.reg [⟨some 4,.asg (.k (.int .i64 0)),none⟩]) .ret)))⟩
theorem c43 : compFn Tryz.prog Tryz.f43 = some F43 := by kernel_rfl
theorem g43 : isGo Tryz.prog 43 = true := by kernel_rfl
def F20 : F := ⟨9,[.tmp 4],.seq (.reg [⟨some 2,.box (.t 0),none⟩,⟨some 3,.box (.t 1),none⟩,⟨some 4,.asg (.k (.bool false)),none⟩]) (.seq (.reg [⟨some 5,.ld 4 true (.t 2),none⟩,⟨some 6,.ld 4 true (.t 3),none⟩,⟨some 7,.call 43 [.t 5,.t 6],none⟩,⟨some 8,.bin .eql (.t 7) (.k (.int .i64 0)),none⟩,⟨some 4,.asg (.t 8),none⟩]) .ret)⟩
theorem c20 : compFn Tryz.prog Tryz.f20 = some F20 := by kernel_rfl
theorem g20 : isGo Tryz.prog 20 = true := by kernel_rfl
def F76 : F := ⟨20,[.tmp 4],.seq (.reg [⟨some 4,.asg (.k (.int .i64 0)),none⟩]) (.seq (.reg [⟨some 7,.mv (.t 0),none⟩,⟨some 8,.call 101 [.t 7],none⟩,⟨some 5,.asg (.t 8),none⟩]) (.seq (.reg [⟨some 9,.mv (.t 1),none⟩,⟨some 10,.call 101 [.t 9],none⟩,⟨some 6,.asg (.t 10),none⟩]) (.seq (.seq (.reg [⟨some 11,.mv (.t 5),none⟩]) (.cond (.t 11) (.seq (.seq (.reg [⟨some 12,.mv (.t 6),none⟩]) (.cond (.t 12) (.seq (.reg [⟨some 4,.asg (.k (.int .i64 0)),none⟩]) .ret) .skip)) (.seq (.reg [⟨some 4,.asg (.k (.int .i64 (-1))),none⟩]) .ret)) .skip)) (.seq (.seq (.reg [⟨some 13,.mv (.t 6),none⟩]) (.cond (.t 13) (.seq (.reg [⟨some 4,.asg (.k (.int .i64 1)),none⟩]) .ret) .skip)) (.seq (.seq (.reg [⟨some 14,.mv (.t 0),none⟩,⟨some 15,.mv (.t 1),none⟩,⟨some 16,.bin .lss (.t 14) (.t 15),none⟩]) (.cond (.t 16) (.seq (.reg [⟨some 4,.asg (.k (.int .i64 (-1))),none⟩]) .ret) .skip)) (.seq (.seq (.reg [⟨some 17,.mv (.t 0),none⟩,⟨some 18,.mv (.t 1),none⟩,⟨some 19,.bin .gtr (.t 17) (.t 18),none⟩]) (.cond (.t 19) (.seq (.reg [⟨some 4,.asg (.k (.int .i64 1)),none⟩]) .ret) .skip)) (.seq (.reg [⟨some 4,.asg (.k (.int .i64 0)),none⟩]) .ret)))))))⟩
theorem c76 : compFn Tryz.prog Tryz.f76 = some F76 := by kernel_rfl
theorem g76 : isGo Tryz.prog 76 = true := by kernel_rfl
def F77 : F := ⟨20,[.tmp 4],.seq (.reg [⟨some 4,.asg (.k (.int .i64 0)),none⟩]) (.seq (.reg [⟨some 7,.mv (.t 0),none⟩,⟨some 8,.call 102 [.t 7],none⟩,⟨some 5,.asg (.t 8),none⟩]) (.seq (.reg [⟨some 9,.mv (.t 1),none⟩,⟨some 10,.call 102 [.t 9],none⟩,⟨some 6,.asg (.t 10),none⟩]) (.seq (.seq (.reg [⟨some 11,.mv (.t 5),none⟩]) (.cond (.t 11) (.seq (.seq (.reg [⟨some 12,.mv (.t 6),none⟩]) (.cond (.t 12) (.seq (.reg [⟨some 4,.asg (.k (.int .i64 0)),none⟩]) .ret) .skip)) (.seq (.reg [⟨some 4,.asg (.k (.int .i64 (-1))),none⟩]) .ret)) .skip)) (.seq (.seq (.reg [⟨some 13,.mv (.t 6),none⟩]) (.cond (.t 13) (.seq (.reg [⟨some 4,.asg (.k (.int .i64 1)),none⟩]) .ret) .skip)) (.seq (.seq (.reg [⟨some 14,.mv (.t 0),none⟩,⟨some 15,.mv (.t 1),none⟩,⟨some 16,.bin .lss (.t 14) (.t 15),none⟩]) (.cond (.t 16) (.seq (.reg [⟨some 4,.asg (.k (.int .i64 (-1))),none⟩]) .ret) .skip)) (.seq (.seq (.reg [⟨some 17,.mv (.t 0),none⟩,⟨some 18,.mv (.t 1),none⟩,⟨some 19,.bin .gtr (.t 17) (.t 18),none⟩]) (.cond (.t 19) (.seq (.reg [⟨some 4,.asg (.k (.int .i64 1)),none⟩]) .ret) .skip)) (.seq (.reg [⟨some 4,.asg (.k (.int .i64 0)),none⟩]) .ret)))))))⟩
theorem c77 : compFn Tryz.prog Tryz.f77 = some F77 := by kernel_rfl
theorem g77 : isGo Tryz.prog 77 = true := by kernel_rfl
def F78 : F := ⟨39,[.tmp 6],.seq (.reg [⟨some 6,.asg (.k (.int .i64 0)),none⟩]) (.seq (.seq (.reg [⟨some 11,.mv (.t 0),none⟩,⟨some 12,.len (.t 11),none⟩,⟨some 13,.mv (.k (.int .i64 0)),none⟩]) (.block 0 (.loop (.seq (.reg [⟨some 14,.bin .lss (.t 13) (.t 12),none⟩]) (.seq (.cond (.t 14) .skip (.exit 0)) (.seq (.block 1 (.seq (.reg [⟨some 15,.mv (.t 13),none⟩,⟨some 16,.ia 4 (.t 11) (.t 13),none⟩,⟨some 17,.ld 4 true (.t 16),none⟩,⟨some 8,.new (.agg [.int .i64 0,.int .i64 0,.str [],.sl true 4 []]),none⟩,⟨some 7,.asg (.t 15),none⟩,⟨none,.st 4 (.t 8) (.t 17),none⟩]) (.seq (.seq (.reg [⟨some 18,.mv (.t 7),none⟩,⟨some 19,.mv (.t 1),none⟩,⟨some 20,.len (.t 19),none⟩,⟨some 21,.bin .geq (.t 18) (.t 20),none⟩]) (.cond (.t 21) (.seq (.reg [⟨some 6,.asg (.k (.int .i64 1)),none⟩]) .ret) .skip)) (.seq (.reg [⟨some 22,.mv (.t 1),none⟩,⟨some 23,.mv (.t 7),none⟩,⟨some 24,.ia 4 (.t 22) (.t 23),none⟩,⟨some 25,.ld 4 true (.t 24),none⟩,⟨some 9,.new (.agg [.int .i64 0,.int .i64 0,.str [],.sl true 4 []]),none⟩,⟨none,.st 4 (.t 9) (.t 25),none⟩]) (.seq (.reg [⟨some 26,.mv (.t 2),none⟩,⟨some 27,.ld 4 true (.t 8),none⟩,⟨some 28,.ld 4 true (.t 9),none⟩,⟨some 29,.callv (.t 26) [.t 27,.t 28],none⟩,⟨some 10,.asg (.t 29),none⟩]) (.seq (.reg [⟨some 30,.mv (.t 10),none⟩,⟨some 31,.bin .neq (.t 30) (.k (.int .i64 0)),none⟩]) (.cond (.t 31) (.seq (.reg [⟨some 32,.asg (.t 10),none⟩,⟨some 6,.asg (.t 32),none⟩]) .ret) .skip))))))) (.reg [⟨some 33,.bin .add (.t 13) (.k (.int .i64 1)),none⟩,⟨some 13,.mv (.t 33),none⟩]))))))) (.seq (.seq (.reg [⟨some 34,.mv (.t 0),none⟩,⟨some 35,.len (.t 34),none⟩,⟨some 36,.mv (.t 1),none⟩,⟨some 37,.len (.t 36),none⟩,⟨some 38,.bin .lss (.t 35) (.t 37),none⟩]) (.cond (.t 38) (.seq (.reg [⟨some 6,.asg (.k (.int .i64 (-1))),none⟩]) .ret) .skip)) (.seq (.reg [⟨some 6,.asg (.k (.int .i64 0)),none⟩]) .ret)))⟩
theorem c78 : compFn Tryz.prog Tryz.f78 = some F78 := by kernel_rfl
theorem g78 : isGo Tryz.prog 78 = true := by kernel_rfl
def F101 : F := ⟨6,[.tmp 2],.seq (.reg [⟨some 2,.asg (.k (.bool false)),none⟩]) (.seq (.reg [⟨some 3,.mv (.t 0),none⟩,⟨some 4,.mv (.t 0),none⟩,⟨some 5,.bin .neq (.t 3) (.t 4),none⟩,⟨some 2,.asg (.t 5),none⟩]) .ret)⟩
theorem c101 : compFn Tryz.prog Tryz.f101 = some F101 := by kernel_rfl
theorem g101 : isGo Tryz.prog 101 = true := by kernel_rfl
def F102 : F := ⟨6,[.tmp 2],.seq (.reg [⟨some 2,.asg (.k (.bool false)),none⟩]) (.seq (.reg [⟨some 3,.mv (.t 0),none⟩,⟨some 4,.mv (.t 0),none⟩,⟨some 5,.bin .neq (.t 3) (.t 4),none⟩,⟨some 2,.asg (.t 5),none⟩]) .ret)⟩
theorem c102 : compFn Tryz.prog Tryz.f102 = some F102 := by kernel_rfl
theorem g102 : isGo Tryz.prog 102 = true := by kernel_rfl
end Go.Pl.Z
end
section
open Go Go.Pl Go.Proofs
namespace Go.Pl.Z
def num (n : Int) : Fm := .mk 0 n [] true []
def Walks (P : Program) (F : F) (args : List V) (v : V) : Prop :=
 ∀ (H : Nat → Nat → Option V) (n b c : Nat) (O : Ops) (hO : O = Ops.std), WFS ⟨H, n, b, c, O, hO⟩ → vc P F.N n F.c (retPure F.rs ⟨H, n, b, c, O, hO⟩ v) (frame0 args) ⟨H, n + 1, n, 0, O, hO⟩
set_option maxRecDepth 100000
theorem w21 (P : Program) (n : Int) : Walks P F21 [.int .i64 n] (enc (num n)) := by
 intro H n b c O hO hw
 (try cbv;repeat (simp only [w_same hO];try cbv))
 (intro i k x hx;have hne:=WFS.ne hw i k x hx;first|exact hx|(simp (disch:=assumption) only [w_upd2_ne hO];exact hx))
end Go.Pl.Z
end
section
open Go Go.Pl Go.Proofs
namespace Go.Pl.Z
set_option maxRecDepth 100000
def cmpI (a b : Int) : Int := if a < b then -1 else if b < a then 1 else 0
def cmpS (a b : List UInt8) : Int := if Op.bytesLess a b then -1 else if a = b then 0 else 1
mutual
def cmpF : Fm → Fm → Int
 | .mk k n t _ l, .mk k' n' t' _ l' => if k ≠ k' then cmpI k k' else if k = 0 then cmpI n n' else if k = 1 ∨ k = 2 then cmpS t t' else if k = 3 then cmpL l l' else 0
def cmpL : List Fm → List Fm → Int
 | [], [] => 0
 | [], _ :: _ => -1
 | _ :: _, [] => 1
 | a :: r, b :: s => if cmpF a b ≠ 0 then cmpF a b else cmpL r s
end
theorem w_slt {O : Ops} (hO : O = Ops.std) (a b : List UInt8) : O.slt a b = Op.bytesLess a b := by subst hO; rfl
theorem w101 (P : Program) (a : Int) : Walks P F101 [.int .i64 a] (.bool false) := by
 intro H n b c O hO hw
 (try cbv;repeat (simp only [w_same hO,w_ieq_t hO];try cbv))
 (intro i k x hx;have hne:=WFS.ne hw i k x hx;first|exact hx|(simp (disch:=assumption) only [w_upd2_ne hO];exact hx))
theorem w102 (P : Program) (a : List UInt8) : Walks P F102 [.str a] (.bool false) := by
 intro H n b c O hO hw
 (try cbv;repeat (simp only [w_same hO,w_seq_t hO];try cbv))
 (intro i k x hx;have hne:=WFS.ne hw i k x hx;first|exact hx|(simp (disch:=assumption) only [w_upd2_ne hO];exact hx))
theorem w76 (P : Program) (a b : Int) (h : ∀ a S, Pl.Pure P 101 [.int .i64 a] S (.bool false)) : Walks P F76 [.int .i64 a, .int .i64 b] (.int .i64 (cmpI a b)) := by
 intro H n b' c O hO hw
 have ha := h a
 have hb := h b
 clear h
 generalize hv : cmpI a b = v
 (try cbv;repeat (simp only [w_same hO];try cbv))
 refine Pure.go (ha _) ?_
 (try cbv;repeat (simp only [w_same hO];try cbv))
 refine Pure.go (hb _) ?_
 by_cases h1 : a < b
 ·have e1 : O.ilt a b = true := w_ilt_t hO h1
  have ev : v = -1 := by rw [← hv]; simp [cmpI, h1]
  rw [ev]
  (try cbv;repeat (simp only [w_same hO,e1];try cbv))
  (intro i k x hx;have hne:=WFS.ne hw i k x hx;first|exact hx|(simp (disch:=assumption) only [w_upd2_ne hO];exact hx))
 ·have e1 : O.ilt a b = false := w_ilt_f hO (by omega)
  by_cases h2 : b < a
  ·have e2 : O.ilt b a = true := w_ilt_t hO h2
   have ev : v = 1 := by rw [← hv]; simp [cmpI, h1, h2]
   rw [ev]
   (try cbv;repeat (simp only [w_same hO,e1,e2];try cbv))
   (intro i k x hx;have hne:=WFS.ne hw i k x hx;first|exact hx|(simp (disch:=assumption) only [w_upd2_ne hO];exact hx))
  ·have e2 : O.ilt b a = false := w_ilt_f hO (by omega)
   have ev : v = 0 := by rw [← hv]; simp [cmpI, h1, h2]
   rw [ev]
   (try cbv;repeat (simp only [w_same hO,e1,e2];try cbv))
   (intro i k x hx;have hne:=WFS.ne hw i k x hx;first|exact hx|(simp (disch:=assumption) only [w_upd2_ne hO];exact hx))
theorem w77 (P : Program) (a b : List UInt8) (h : ∀ a S, Pl.Pure P 102 [.str a] S (.bool false)) : Walks P F77 [.str a, .str b] (.int .i64 (cmpS a b)) := by
 intro H n b' c O hO hw
 have ha := h a
 have hb := h b
 clear h
 generalize hv : cmpS a b = v
 have s1 := w_slt hO a b
 unfold cmpS at hv
 generalize Op.bytesLess a b = t1 at s1 hv
 (try cbv;repeat (simp only [w_same hO];try cbv))
 refine Pure.go (ha _) ?_
 (try cbv;repeat (simp only [w_same hO];try cbv))
 refine Pure.go (hb _) ?_
 cases t1
 ·by_cases h : a = b
  ·have ev : v = 0 := by rw [← hv, if_neg (by simp), if_pos h]
   have s2 : O.seq a b = true := w_seq_t hO h
   rw [ev]
   (try cbv;repeat (simp only [w_same hO,s1,s2];try cbv))
   (intro i k x hx;have hne:=WFS.ne hw i k x hx;first|exact hx|(simp (disch:=assumption) only [w_upd2_ne hO];exact hx))
  ·have ev : v = 1 := by rw [← hv, if_neg (by simp), if_neg h]
   have s2 : O.seq a b = false := w_seq_f hO h
   rw [ev]
   (try cbv;repeat (simp only [w_same hO,s1,s2];try cbv))
   (intro i k x hx;have hne:=WFS.ne hw i k x hx;first|exact hx|(simp (disch:=assumption) only [w_upd2_ne hO];exact hx))
 ·have ev : v = -1 := by rw [← hv]; rfl
  rw [ev]
  (try cbv;repeat (simp only [w_same hO,s1];try cbv))
  (intro i k x hx;have hne:=WFS.ne hw i k x hx;first|exact hx|(simp (disch:=assumption) only [w_upd2_ne hO];exact hx))
theorem w20 (P : Program) (f g : Fm) (h : ∀ S, Pl.Pure P 43 [enc f, enc g] S (.int .i64 (cmpF f g))) : Walks P F20 [enc f, enc g] (.bool (decide (cmpF f g = 0))) := by
 intro H n b' c O hO hw
 generalize cmpF f g = v at h ⊢
 obtain ⟨t, ht⟩ : ∃ t, O.ieq v 0 = t := ⟨_, rfl⟩
 have ht' : decide (v = 0) = t := by rw [← ht]; subst hO; rfl
 rw [ht']
 cases f; cases g
 simp only [enc] at h ⊢
 generalize encs _ = l1 at h ⊢
 generalize encs _ = l2 at h ⊢
 (try cbv;repeat (simp only [w_same hO];try cbv))
 refine Pure.go (h _) ?_
 (try cbv;repeat (simp only [w_same hO,ht];try cbv))
 (intro i k x hx;have hne:=WFS.ne hw i k x hx;first|exact hx|(simp (disch:=assumption) only [w_upd2_ne hO];exact hx))
theorem w43 (P : Program) (f g : Fm) (h76 : ∀ a b S, Pl.Pure P 76 [.int .i64 a, .int .i64 b] S (.int .i64 (cmpI a b))) (h77 : ∀ a b S, Pl.Pure P 77 [.str a, .str b] S (.int .i64 (cmpS a b)))
  (h78 : ∀ S, Pl.Pure P 78 [.sl f.nl 4 (encs f.kids), .sl g.nl 4 (encs g.kids), .fn 43 []] S (.int .i64 (cmpL f.kids g.kids))) : Walks P F43 [enc f, enc g] (.int .i64 (cmpF f g)) := by
 intro H n b' c O hO hw
 obtain ⟨k, m, t, nl, l⟩ := f
 obtain ⟨k', m', t', nl', l'⟩ := g
 have a1 := h76 k k'
 have a2 := h76 m m'
 have a3 := h77 t t'
 clear h76 h77
 simp only [Fm.nl, Fm.kids] at h78
 have hv : cmpF (.mk k m t nl l) (.mk k' m' t' nl' l') = if k ≠ k' then cmpI k k' else if k = 0 then cmpI m m' else if k = 1 ∨ k = 2 then cmpS t t' else if k = 3 then cmpL l l' else 0 := by simp only [cmpF]
 generalize cmpF _ _ = v at hv ⊢
 generalize cmpI k k' = v1 at hv a1
 generalize cmpI m m' = v2 at hv a2
 generalize cmpS t t' = v3 at hv a3
 generalize cmpL l l' = v4 at hv h78
 simp only [enc]
 generalize encs l = l1 at h78 ⊢
 generalize encs l' = l2 at h78 ⊢
 by_cases hk : k = k'
 case neg =>
  rw [if_pos hk] at hv
  have e1 : O.ieq k k' = false := w_ieq_f hO hk
  rw [hv]
  (try cbv;repeat (simp only [w_same hO,e1];try cbv))
  refine Pure.go (a1 _) ?_
  (try cbv;repeat (simp only [w_same hO,e1];try cbv))
  (intro i k x hx;have hne:=WFS.ne hw i k x hx;first|exact hx|(simp (disch:=assumption) only [w_upd2_ne hO];exact hx))
 subst hk
 rw [if_neg (by simp)] at hv
 have e1 : O.ieq k k = true := w_ieq_t hO rfl
 by_cases h0 : k = 0
 ·rw [if_pos h0] at hv
  have e2 : O.ieq k 0 = true := w_ieq_t hO h0
  rw [hv]
  (try cbv;repeat (simp only [w_same hO,e1,e2];try cbv))
  refine Pure.go (a2 _) ?_
  (try cbv;repeat (simp only [w_same hO];try cbv))
  (intro i k x hx;have hne:=WFS.ne hw i k x hx;first|exact hx|(simp (disch:=assumption) only [w_upd2_ne hO];exact hx))
 rw [if_neg h0] at hv
 have e2 : O.ieq k 0 = false := w_ieq_f hO h0
 by_cases h12 : k = 1 ∨ k = 2
 ·rw [if_pos h12] at hv
  rw [hv]
  rcases h12 with h1 | h2
  ·have e3 : O.ieq k 1 = true := w_ieq_t hO h1
   (try cbv;repeat (simp only [w_same hO,e1,e2,e3];try cbv))
   refine Pure.go (a3 _) ?_
   (try cbv;repeat (simp only [w_same hO];try cbv))
   (intro i k x hx;have hne:=WFS.ne hw i k x hx;first|exact hx|(simp (disch:=assumption) only [w_upd2_ne hO];exact hx))
  ·have e3 : O.ieq k 1 = false := w_ieq_f hO (by omega)
   have e4 : O.ieq k 2 = true := w_ieq_t hO h2
   (try cbv;repeat (simp only [w_same hO,e1,e2,e3,e4];try cbv))
   refine Pure.go (a3 _) ?_
   (try cbv;repeat (simp only [w_same hO];try cbv))
   (intro i k x hx;have hne:=WFS.ne hw i k x hx;first|exact hx|(simp (disch:=assumption) only [w_upd2_ne hO];exact hx))
 rw [if_neg h12] at hv
 have e3 : O.ieq k 1 = false := w_ieq_f hO (by omega)
 have e4 : O.ieq k 2 = false := w_ieq_f hO (by omega)
 by_cases h3 : k = 3
 ·rw [if_pos h3] at hv
  have e5 : O.ieq k 3 = true := w_ieq_t hO h3
  rw [hv]
  (try cbv;repeat (simp only [w_same hO,e1,e2,e3,e4,e5];try cbv))
  refine Pure.go (h78 _) ?_
  (try cbv;repeat (simp only [w_same hO];try cbv))
  (intro i k x hx;have hne:=WFS.ne hw i k x hx;first|exact hx|(simp (disch:=assumption) only [w_upd2_ne hO];exact hx))
 ·rw [if_neg h3] at hv
  have e5 : O.ieq k 3 = false := w_ieq_f hO h3
  rw [hv]
  (try cbv;repeat (simp only [w_same hO,e1,e2,e3,e4,e5];try cbv))
  (intro i k x hx;have hne:=WFS.ne hw i k x hx;first|exact hx|(simp (disch:=assumption) only [w_upd2_ne hO];exact hx))
end Go.Pl.Z
end
section
open Go Go.Pl Go.Proofs
namespace Go.Pl.Z
set_option maxRecDepth 100000
theorem w_getE {O : Ops} (hO : O = Ops.std) (l : List Fm) (i : Nat) (j : Int) (hj : j = i) (hlt : i < l.length) : O.get (encs l) j = some (enc l[i]) := by
 subst hj
 exact w_get hO (by omega) (by simp [encs_get, hlt])
theorem w_lenE {O : Ops} (hO : O = Ops.std) (l : List Fm) : O.len (encs l) = (l.length : Int) := by rw [w_len hO, encs_length]
theorem cmpL_cons (a b : Fm) (r s : List Fm) : cmpL (a :: r) (b :: s) = if cmpF a b ≠ 0 then cmpF a b else cmpL r s := by simp only [cmpL]
theorem cmpL_nil : cmpL [] [] = 0 := by simp only [cmpL]
theorem cmpL_nc (b : Fm) (s : List Fm) : cmpL [] (b :: s) = -1 := by simp only [cmpL]
theorem cmpL_cn (a : Fm) (r : List Fm) : cmpL (a :: r) [] = 1 := by simp only [cmpL]
theorem w78 (P : Program) (nl nl' : Bool) (l m : List Fm) (hl : l.length ≤ 1000000000) (h : ∀ f ∈ l, ∀ g S, Pl.Pure P 43 [enc f, enc g] S (.int .i64 (cmpF f g))) :
  Walks P F78 [.sl nl 4 (encs l), .sl nl' 4 (encs m), .fn 43 []] (.int .i64 (cmpL l m)) := by
 intro H n b' c O hO hw
 have hL := w_lenE hO l
 have hM := w_lenE hO m
 have gL := w_getE hO l
 have gM := w_getE hO m
 obtain ⟨L, eL⟩ : ∃ L : Int, L = l.length := ⟨_, rfl⟩
 obtain ⟨M, eM⟩ : ∃ L : Int, L = m.length := ⟨_, rfl⟩
 rw [← eL] at hL
 rw [← eM] at hM
 have rL := encs_refsB (frameS H n O hO []).ok l
 have rM := encs_refsB (frameS H n O hO []).ok m
 generalize encs l = xs at hL gL rL ⊢
 generalize encs m = ys at hM gM rM ⊢
 generalize hv : cmpL l m = v
 (try cbv;repeat (simp only [w_same hO,hL];try cbv))
 refine AW_loopT (A := Nat × Int) (fun a => [(0, .sl nl 4 xs), (1, .sl nl' 4 ys), (2, .fn 43 []), (11, .sl nl 4 xs), (12, .int .i64 L), (13, .int .i64 a.2)]) (fun _ => frameS H n O hO [])
  (fun a => a.2 = a.1 ∧ a.1 ≤ l.length ∧ a.1 ≤ m.length ∧ v = cmpL (l.drop a.1) (m.drop a.1)) (fun a => l.length - a.1) (0, 0) ⟨rfl, Nat.zero_le _, Nat.zero_le _, hv.symm⟩
  (Drops.tab hw (Nat.le_refl _) [] (fun _ _ _ => rfl) trivial (by simp only [tabOk, V.refsB, V.refsBs]; exact ⟨.inl rfl, rL, .inl rfl, rM, .inl rfl, trivial, .inl rfl, rL, .inl rfl, trivial, .inl rfl, trivial, trivial⟩)) ?_
 rintro ⟨i, j⟩ ⟨hj, hi, hi', hin⟩ K hK
 simp only at hj hi hi' hin hK
 replace hj : j = (i : Int) := hj
 replace eL : L = (l.length : Int) := eL
 replace eM : M = (m.length : Int) := eM
 by_cases hlt : i < l.length
 ·have e1 : O.ilt j L = true := w_ilt_t hO (by omega)
  have g1 := gL i j hj hlt
  have hf := h l[i] (List.getElem_mem hlt)
  rw [List.drop_eq_getElem_cons hlt] at hin
  by_cases hlt' : i < m.length
  ·have e2 : O.ile M j = false := w_ile_f hO (by omega)
   have g2 := gM i j hj hlt'
   rw [List.drop_eq_getElem_cons hlt', cmpL_cons] at hin
   generalize l[i] = f at g1 hf hin
   generalize m[i] = g at g2 hin
   have hf' := hf g
   clear hf gL gM h
   generalize cmpF f g = d at hf' hin
   obtain ⟨fk, fm, ft, fn, fl⟩ := f
   obtain ⟨gk, gm, gt, gn, gl⟩ := g
   simp only [enc] at g1 g2 hf'
   generalize encs fl = zs at g1 hf'
   generalize encs gl = us at g2 hf'
   by_cases hd : d = 0
   ·have e3 : O.ieq d 0 = true := w_ieq_t hO hd
    rw [if_neg (by simp [hd])] at hin
    obtain ⟨j', hj'⟩ : ∃ j', j' = j + 1 := ⟨_, rfl⟩
    have hadd := w_add hO (a := j) (b := 1) (by omega) (by omega)
    rw [← hj'] at hadd
    (try cbv;repeat (simp only [w_same hO,hL,hM,e1,e2,g1,g2];try cbv))
    refine Pure.go (hf' _) ?_
    (try cbv;repeat (simp only [w_same hO,e3,hadd];try cbv))
    replace hj' : j' = j + 1 := hj'
    replace hj : j = (i : Int) := hj
    refine hK _ _ (i + 1, j') (by show l.length - (i + 1) < l.length - i; omega) ⟨(by omega : j' = ((i + 1 : Nat) : Int)), (by omega : i + 1 ≤ l.length), (by omega : i + 1 ≤ m.length), hin⟩
     (Drops.tab hw (Nat.le_refl _) [] (fun i k hne => ?_) trivial (by simp only [tabOk, V.refsB, V.refsBs]; exact ⟨.inl rfl, rL, .inl rfl, rM, .inl rfl, trivial, .inl rfl, rL, .inl rfl, trivial, .inl rfl, trivial, trivial⟩))
    simp (disch := first | exact hne | decide) only [upd2_above hO]; rfl
   ·have e3 : O.ieq d 0 = false := w_ieq_f hO hd
    rw [if_pos (by simpa using hd)] at hin
    rw [hin]
    (try cbv;repeat (simp only [w_same hO,hL,hM,e1,e2,g1,g2];try cbv))
    refine Pure.go (hf' _) ?_
    (try cbv;repeat (simp only [w_same hO,e3];try cbv))
    (intro i k x hx;have hne:=WFS.ne hw i k x hx;first|exact hx|(simp (disch:=assumption) only [w_upd2_ne hO];exact hx))
  ·have e2 : O.ile M j = true := w_ile_t hO (by omega)
   have : m.drop i = [] := List.drop_eq_nil_of_le (by omega)
   rw [this, cmpL_cn] at hin
   generalize l[i] = f at g1 hf hin
   obtain ⟨fk, fm, ft, fn, fl⟩ := f
   simp only [enc] at g1
   generalize encs fl = zs at g1
   rw [hin]
   (try cbv;repeat (simp only [w_same hO,hL,hM,e1,e2,g1];try cbv))
   (intro i k x hx;have hne:=WFS.ne hw i k x hx;first|exact hx|(simp (disch:=assumption) only [w_upd2_ne hO];exact hx))
 ·have e1 : O.ilt j L = false := w_ilt_f hO (by omega)
  have : l.drop i = [] := List.drop_eq_nil_of_le (by omega)
  rw [this] at hin
  by_cases hlt' : i < m.length
  ·have e2 : O.ilt L M = true := w_ilt_t hO (by omega)
   rw [List.drop_eq_getElem_cons hlt', cmpL_nc] at hin
   rw [hin]
   (try cbv;repeat (simp only [w_same hO,hL,hM,e1,e2];try cbv))
   (intro i k x hx;have hne:=WFS.ne hw i k x hx;first|exact hx|(simp (disch:=assumption) only [w_upd2_ne hO];exact hx))
  ·have e2 : O.ilt L M = false := w_ilt_f hO (by omega)
   have : m.drop i = [] := List.drop_eq_nil_of_le (by omega)
   rw [this, cmpL_nil] at hin
   rw [hin]
   (try cbv;repeat (simp only [w_same hO,hL,hM,e1,e2];try cbv))
   (intro i k x hx;have hne:=WFS.ne hw i k x hx;first|exact hx|(simp (disch:=assumption) only [w_upd2_ne hO];exact hx))
end Go.Pl.Z
end
section
open Go Go.Pl Go.Proofs
namespace Go.Pl.Z
section
variable {O : Ops} (hO : O = Ops.std)
include hO
theorem v_seq (a b : List UInt8) : O.seq a b = decide (a = b) := by subst hO; rfl
theorem v_ieq (a b : Int) : O.ieq a b = decide (a = b) := by subst hO; rfl
theorem v_ilt (a b : Int) : O.ilt a b = decide (a < b) := by subst hO; rfl
theorem v_ile (a b : Int) : O.ile a b = decide (a ≤ b) := by subst hO; rfl
theorem v_sget (s : List UInt8) (i : Nat) (j : Int) (hj : j = i) (hlt : i < s.length) : O.sget s j = some (s[i].toNat : Int) := by
 subst hj
 rw [w_sget hO, if_pos (by omega)]
 simp [hlt]
end
end Go.Pl.Z
end
