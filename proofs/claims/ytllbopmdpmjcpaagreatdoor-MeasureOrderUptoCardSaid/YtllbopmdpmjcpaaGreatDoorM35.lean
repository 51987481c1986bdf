import Derived.Test.YtllbopmdpmjcpaaGreatDoorM18
import Derived.Test.YtllbopmdpmjcpaaGreatDoorM26
import Derived.Test.YtllbopmdpmjcpaaGreatDoorM31
import Derived.Test.YtllbopmdpmjcpaaGreatDoorM34
set_option linter.unusedSimpArgs false
set_option linter.unusedVariables false
set_option linter.unusedSectionVars false
section
open Go Go.Pl Go.Proofs Go.Pl.Z
namespace Go.Pl.L
set_option maxRecDepth 10000
theorem keyV_app {l : List Fm} {f : Fm} {nl : Bool} (h : l.length ≤ 16777216) : appV Ops.std 24 4 56 (keyV l) (.sl nl 4 [enc f]) = some (keyV (l ++ [f])) := by
 cases l with
 | nil => exact app_nil (by simp) (by simp)
 | cons a r =>
  have h' : r.length ≤ 16777215 := by simpa using h
  have := app_gr (e := 24) (sz := 4) (bytes := 56) (nl := false) (nl' := nl) (xs := encs (a :: r)) (ys := [enc f]) (by rw [encs_length]; simp; omega) (by rw [encs_length]; simp; omega)
  simp only [keyV, List.cons_append]
  rw [this]
  have e : encs (a :: r) ++ [enc f] = encs (a :: (r ++ [f])) := by simp [encs_map]
  rw [e]; rfl
theorem kids_cons {p : Fm} (h : p.kids ≠ []) : ∃ r, p.kids = fstF p :: r := by
 unfold fstF
 cases e : p.kids with
 | nil => exact (h e).elim
 | cons a r => exact ⟨r, rfl⟩
theorem x148 (nl : Bool) (l : List Fm) (hl : l.length ≤ 16777216) (hk : ∀ p ∈ l, p.kids ≠ []) : Thr Tryz.prog 148 [.sl nl 4 (encs l)] (.ret (keyV (l.map fstF))) := by
 refine t148 _ _ fun S => ?_
 unfold s148
 simp
 unfold loop4
 intro W hW
 suffices key : ∀ (t i : Nat), i + t = l.length → W (keyV ((l.take i).map fstF)) (.sl nl 4 (encs l)) (.int .i64 l.length) (.int .i64 i) S by
  have := key l.length 0 (by omega)
  simpa [keyV] using this
 intro t
 induction t with
 | zero =>
  intro i hi
  refine hW _ _ _ _ _ ?_
  have : ¬ (i : Int) < l.length := by omega
  simp [this]
  rw [List.take_of_length_le (by simp; omega)]
 | succ t ih =>
  intro i hi
  refine hW _ _ _ _ _ ?_
  have hlt : i < l.length := by omega
  obtain ⟨r, hr⟩ := kids_cons (hk l[i] (List.getElem_mem hlt))
  simp [hlt]
  rw [op_iaE (Int.natCast_nonneg i) (show l[((i : Nat) : Int).toNat]? = some l[i] by simp [hlt])]
  simp [hr]
  refine eff_mks1 ⟨enc_data _, enc_cells_length _⟩ (by omega) ?_
  simp only [plain_gr]
  rw [keyV_app (by simp; omega)]
  simp only [bnd_some']
  rw [op_add (by omega) (by omega)]; simp only [bnd_some', plain_int]
  have := ih (i + 1) (by omega)
  have e : (l.map fstF).take (i + 1) = (l.map fstF).take i ++ [fstF l[i]] := by rw [List.take_succ_eq_append_getElem (by simpa using hlt)]; simp
  rw [List.map_take, e] at this
  simpa using this
theorem x214 (p k : Fm) (hp : p.kids ≠ []) (hf : Fine p) : Thr Tryz.prog 214 [enc p, enc k] (.ret (.int .i64 (cmpF (fstF p) k))) := by
 refine t214 _ _ _ fun S => ?_
 unfold s214
 obtain ⟨r, hr⟩ := kids_cons hp
 simp [hr]
 refine Thr.call (thr43 _ _ (hf.kid (by rw [hr]; simp))) ?_
 simp
end Go.Pl.L
end
section
open Go Go.Pl Go.Proofs Go.Pl.Z
namespace Go.Pl.Z
def SrtdK (l : List Fm) : Prop := l.Pairwise fun p q => cmpF (fstF p) (fstF q) ≤ 0
def posF (l : List Fm) (k : Fm) : Nat := (l.takeWhile fun p => decide (cmpF (fstF p) k < 0)).length
def foundB (l : List Fm) (k : Fm) : Bool := match l[posF l k]? with
 | some p => decide (cmpF (fstF p) k = 0)
 | none => false
theorem takeWhile_len {α : Type} {P : α → Bool} : ∀ (l : List α) (i : Nat), i ≤ l.length → (∀ (j : Nat) (x : α), j < i → l[j]? = some x → P x = true) → (∀ x, l[i]? = some x → P x = false) → (l.takeWhile P).length = i
 | [], i, h, _, _ => by simp at h; simp [h]
 | a :: l, 0, _, _, h => by simp [List.takeWhile_cons, h a rfl]
 | a :: l, i + 1, h, h1, h2 => by
  have := h1 0 a (by omega) rfl
  rw [List.takeWhile_cons, if_pos this, List.length_cons, takeWhile_len l i (by simpa using h) (fun j x hj hx => h1 (j + 1) x (by omega) (by simpa using hx)) (fun x hx => h2 x (by simpa using hx))]
end Go.Pl.Z
namespace Go.Pl.L
set_option maxRecDepth 10000
theorem srtK_get {l : List Fm} (h : SrtdK l) {i j : Nat} {x y : Fm} (hx : l[i]? = some x) (hy : l[j]? = some y) (hij : i ≤ j) : cmpF (fstF x) (fstF y) ≤ 0 := by
 obtain ⟨h1, rfl⟩ := List.getElem?_eq_some_iff.1 hx
 obtain ⟨h2, rfl⟩ := List.getElem?_eq_some_iff.1 hy
 by_cases e : i = j
 ·subst e; have := Same.refl (fstF l[i]); unfold Same at this; omega
 ·exact (List.pairwise_iff_getElem.1 h) i j h1 h2 (by omega)
theorem x177 (nl : Bool) (l : List Fm) (k : Fm) (hl : l.length ≤ 16777216) (hk : ∀ p ∈ l, p.kids ≠ []) (hf : ∀ p ∈ l, Fine p) (hs : SrtdK l) :
  Thr Tryz.prog 177 [.sl nl 4 (encs l), enc k, .fn 214 []] (.ret (.tup [.int .i64 (posF l k), .bool (foundB l k)])) := by
 refine t177 _ _ _ _ fun S => ?_
 unfold s177
 simp [-gjn_eq]
 refine gjn_by (fun J => ∀ i : Nat, i = posF l k → i ≤ l.length → J (.sl nl 4 (encs l)) (.fn 214 []) (.ro (enc k)) (.int .i64 l.length) (.int .i64 i) S) ?_ ?_
 ·rintro i hi hil
  simp
  refine gdTD (fun h => ?_) (fun h => ?_)
  ·rw [op_iaE (Int.natCast_nonneg i) (show l[((i : Nat) : Int).toNat]? = some l[i] by simp [h])]
   simp
   refine ⟨_, (x214 l[i] k (hk _ (List.getElem_mem h)) (hf _ (List.getElem_mem h))).pure S, ?_⟩
   have hfd : foundB l k = decide (cmpF (fstF l[i]) k = 0) := by
    unfold foundB
    rw [← hi, List.getElem?_eq_getElem h]
   have h' : posF l k < l.length := by rw [← hi]; exact h
   simp [hfd, hi, h']
  ·have hfd : foundB l k = false := by
    unfold foundB
    rw [← hi, List.getElem?_eq_none (by omega)]
   have h' : ¬ posF l k < l.length := by rw [← hi]; exact h
   simp [hfd, hi, h']
 ·intro J hJ
  unfold loop6
  intro W hW
  suffices key : ∀ (t i j : Nat), j - i ≤ t → i ≤ j → j ≤ l.length → (∀ (q : Nat) (x : Fm), q < i → l[q]? = some x → cmpF (fstF x) k < 0) → (∀ (q : Nat) (x : Fm), j ≤ q → l[q]? = some x → ¬ cmpF (fstF x) k < 0) →
    W (.sl nl 4 (encs l)) (.fn 214 []) (.ro (enc k)) (.int .i64 l.length) (.int .i64 i) (.int .i64 j) S by
   exact key l.length 0 l.length (by omega) (by omega) (Nat.le_refl _) (fun q x h => by omega) (fun q x h hx => by have := (List.getElem?_eq_some_iff.1 hx).1; omega)
  intro t
  have fin : ∀ (i j : Nat), i = j → j ≤ l.length → (∀ (q : Nat) (x : Fm), q < i → l[q]? = some x → cmpF (fstF x) k < 0) → (∀ (q : Nat) (x : Fm), j ≤ q → l[q]? = some x → ¬ cmpF (fstF x) k < 0) →
    W (.sl nl 4 (encs l)) (.fn 214 []) (.ro (enc k)) (.int .i64 l.length) (.int .i64 i) (.int .i64 j) S := by
   rintro i j rfl h1 h2 h3
   refine hW _ _ _ _ _ _ _ ?_
   simp
   exact hJ i (takeWhile_len l i h1 (fun q x hq hx => by simpa using h2 q x hq hx) (fun x hx => by simpa using h3 i x (Nat.le_refl _) hx)).symm h1
  induction t with
  | zero => intro i j h0 h1 h2 h3 h4; exact fin i j (by omega) h2 h3 h4
  | succ t ih =>
   intro i j h0 h1 h2 h3 h4
   by_cases he : i = j
   ·exact fin i j he h2 h3 h4
   refine hW _ _ _ _ _ _ _ ?_
   have hlt : (i : Int) < j := by omega
   simp [hlt]
   refine op_half (by omega) (by omega) _ ?_
   generalize hh : (i + j) / 2 = h
   have hc1 : i ≤ h := by omega
   have hc2 : h < j := by omega
   have hhl : h < l.length := by omega
   have hx : l[h]? = some l[h] := by simp [hhl]
   simp only [plain_int]
   rw [op_iaE (Int.natCast_nonneg h) (show l[((h : Nat) : Int).toNat]? = some l[h] by simp [hhl])]
   simp
   refine Thr.call (x214 l[h] k (hk _ (List.getElem_mem hhl)) (hf _ (List.getElem_mem hhl))) ?_
   simp
   refine brD (fun hc => ?_) (fun hc => ?_)
   ·rw [op_add (by omega) (by omega)]; simp only [bnd_some', plain_int]
    have := ih (h + 1) j (by omega) (by omega) h2 (fun q x hq hxq => by
     exact cmpF_le_lt (srtK_get hs hxq hx (by omega)) hc) h4
    simpa using this
   ·exact ih i h (by omega) hc1 (by omega) h3 (fun q x hq hxq hn => hc (cmpF_le_lt (srtK_get hs hx hxq hq) hn))
theorem x176 (nl : Bool) (l : List Fm) (k : Fm) (hl : l.length ≤ 16777216) (hk : ∀ p ∈ l, p.kids ≠ []) (hf : ∀ p ∈ l, Fine p) (hs : SrtdK l) :
  Thr Tryz.prog 176 [.sl nl 4 (encs l), enc k] (.ret (.tup [.int .i64 (posF l k), .bool (foundB l k)])) := by
 refine t176 _ _ _ fun S => ?_
 unfold s176
 simp
 refine Thr.call (x177 nl l k hl hk hf hs) ?_
 simp
def timesF (l : List Fm) (k : Fm) : Int := bif foundB l k then (match l[posF l k]? with
 | some p => (sndF p).n
 | none => 0) else 0
theorem x215 (nl : Bool) (l : List Fm) (k : Fm) (hl : l.length ≤ 16777216) (hk : ∀ p ∈ l, p.kids.length = 2) (hf : ∀ p ∈ l, Fine p) (hs : SrtdK l) :
  Thr Tryz.prog 215 [.sl nl 4 (encs l), enc k] (.ret (.int .i64 (timesF l k))) := by
 refine t215 _ _ _ fun S => ?_
 unfold s215
 simp
 refine Thr.call (x176 nl l k hl (fun p hp e => by have := hk p hp; rw [e] at this; cases this) hf hs) ?_
 simp
 cases hfd : foundB l k with
 | false => simp [timesF, hfd, brV]
 | true =>
  simp [brV]
  have hlt : posF l k < l.length := by
   unfold foundB at hfd
   apply Classical.byContradiction
   intro hn
   rw [List.getElem?_eq_none (by omega)] at hfd
   cases hfd
  rw [op_iaE (Int.natCast_nonneg _) (show l[((posF l k : Nat) : Int).toNat]? = some l[posF l k] by simp [hlt])]
  have h2 := hk _ (List.getElem_mem hlt)
  simp
  have hsnd : (l[posF l k].kids)[(1 : Int).toNat]? = some (sndF l[posF l k]) := by
   unfold sndF
   simp [h2]
  rw [op_iaE (by omega) hsnd]
  simp [timesF, hfd, hlt]
end Go.Pl.L
end
section
open Go Go.Pl Go.Proofs Go.Pl.Z
namespace Go.Pl.L
set_option maxRecDepth 10000
def numF (n : Int) : Fm := .mk 0 n [] true []
def wordF (s : List UInt8) : Fm := .mk 1 0 s true []
def listF (nl : Bool) (l : List Fm) : Fm := .mk 3 0 [] nl l
theorem enc_own (f : Fm) (p : Nat → Nat → Bool) : (AE.ret (enc f)).refsB p := by
 have := encs_refsB p [f]
 simp only [AE.refsB]
 simp only [encs_cons, encs_nil, V.refsBs] at this
 exact this.1
theorem box_enc {S : St} (f : Fm) : effA (own S [V.agg [V.int IntKind.i64 0, V.int IntKind.i64 0, V.str [], V.sl true 4 []]]) (.st 4 (.k (.ref S.b S.c 0)) (.k (enc f))) fun _ S2 => bnd (opV S2 (.ld 4 true (.k (.ref S.b S.c 0)))) fun x4 => x4 = enc f ∧ Own S S2 := by
 refine eff_st_own0 (l := [V.agg [V.int IntKind.i64 0, V.int IntKind.i64 0, V.str [], V.sl true 4 []]]) rfl rfl rfl (enc_data f) (by cases f; rfl) (enc_cells_length f) rfl ?_
 rw [op_ld_own0 (l := [V.agg [V.int IntKind.i64 0, V.int IntKind.i64 0, V.str [], V.sl true 4 []]].set 0 (enc f)) rfl (part_enc f) (by cases f; rfl)]
 exact ⟨rfl, _, rfl⟩
theorem x80 (n : Int) : Thr Tryz.prog 80 [.int .i64 n] (.ret (enc (numF n))) := by
 refine t80 _ _ (fun p => enc_own _ p) fun S => ?_
 unfold s80
 have e : ∀ S : St, opV S (.mk [(.int .i64 0), (.int .i64 0), (.str []), (.sl true 4 [])] [(1, 1, (.k (.int .i64 n)))]) = some (enc (numF n)) := fun _ => rfl
 simp [e]
 exact box_enc _
theorem x82 (s : List UInt8) : Thr Tryz.prog 82 [.str s] (.ret (enc (wordF s))) := by
 refine t82 _ _ (fun p => enc_own _ p) fun S => ?_
 unfold s82
 have e : ∀ S : St, opV S (.mk [(.int .i64 0), (.int .i64 0), (.str []), (.sl true 4 [])] [(0, 1, (.k (.int .i64 1))), (2, 1, (.k (.str s)))]) = some (enc (wordF s)) := fun _ => rfl
 simp [e]
 exact box_enc _
theorem x81 (nl : Bool) (l : List Fm) : Thr Tryz.prog 81 [.sl nl 4 (encs l)] (.ret (enc (listF nl l))) := by
 refine t81 _ _ (fun p => enc_own _ p) fun S => ?_
 unfold s81
 have e : ∀ S : St, opV S (.mk [(.int .i64 0), (.int .i64 0), (.str []), (.sl true 4 [])] [(0, 1, (.k (.int .i64 3))), (3, 1, (.k (.sl nl 4 (encs l))))]) = some (enc (listF nl l)) := fun _ => rfl
 simp [e]
 exact box_enc _
theorem x45 (s : List UInt8) (nl : Bool) (l : List Fm) (hl : l.length ≤ 16777216) : Thr Tryz.prog 45 [.str s, .sl nl 4 (encs l)] (.ret (enc (listF false (wordF s :: l)))) := by
 refine t45 _ _ _ (fun p => enc_own _ p) fun S => ?_
 unfold s45
 simp
 refine Thr.call (x82 s) ?_
 simp
 refine eff_mks1 ⟨enc_data _, enc_cells_length _⟩ (by omega) ?_
 rw [app_gr (by simp; omega) (by simp; omega)]
 simp
 have e : enc (wordF s) :: encs l = encs (wordF s :: l) := rfl
 rw [e]
 refine Thr.call (x81 _ _) ?_
 simp
 exact box_enc _
end Go.Pl.L
end
section
open Go Go.Pl Go.Proofs Go.Pl.Z
namespace Go.Pl.Z
def meetW : List UInt8 := [109, 101, 101, 116]
def bagW : List UInt8 := [98, 97, 103]
end Go.Pl.Z
namespace Go.Pl.L
set_option maxRecDepth 10000
def pairF (v : Fm) (n : Int) : Fm := listF false [v, numF n]
def meetG (x y : List Fm) : List Fm → List Fm
 | [] => []
 | v :: r => if 0 < min (timesF x v) (timesF y v) then pairF v (min (timesF x v) (timesF y v)) :: meetG x y r else meetG x y r
theorem meetG_append (x y : List Fm) : ∀ l m, meetG x y (l ++ m) = meetG x y l ++ meetG x y m
 | [], m => rfl
 | v :: r, m => by
  simp only [List.cons_append, meetG]
  split
  ·rw [meetG_append x y r m]; rfl
  ·exact meetG_append x y r m
theorem meetG_len (x y : List Fm) : ∀ l, (meetG x y l).length ≤ l.length
 | [] => Nat.le_refl _
 | v :: r => by
  have := meetG_len x y r
  simp only [meetG]
  split <;> simp <;> omega
def meetF (x y : List Fm) : List Fm := meetG x y (compF (sortF (x.map fstF ++ y.map fstF)))
theorem keyV_plain (l : List Fm) : (keyV l).plain = .sl l.isEmpty 4 (encs l) := by cases l <;> rfl
theorem keyV_appL {l m : List Fm} (h : l.length ≤ 16777216) (h' : m.length ≤ 16777216) : ∃ v, appV Ops.std 24 4 56 (keyV l) (.sl m.isEmpty 4 (encs m)) = some v ∧ v.plain = .sl (l ++ m).isEmpty 4 (encs (l ++ m)) := by
 cases l with
 | nil =>
  refine ⟨_, app_nil (by rw [encs_length]; omega) (by rw [encs_length]; omega), ?_⟩
  cases m <;> rfl
 | cons a r =>
  refine ⟨_, app_gr (nl := false) (xs := encs (a :: r)) (by rw [encs_length, encs_length]; omega) (by rw [encs_length, encs_length]; omega), ?_⟩
  simp [encs_append, encs_map]
theorem op_min {S : St} (a b : Int) : opV S (.mnx false (.k (.int .i64 a)) [.k (.int .i64 b)]) = some (.int .i64 (min a b)) := by
 have e : opV S (.mnx false (.k (.int .i64 a)) [.k (.int .i64 b)]) = some (.int .i64 (bif S.O.ilt b a then b else a)) := rfl
 rw [e, S.hO]
 simp only [Ops.std]
 by_cases h : b < a
 ·simp [h]; omega
 ·simp [h]; omega
theorem compF_mem {l : List Fm} {f : Fm} (h : f ∈ compF l) : f ∈ l := by
 have g : ∀ (l : List Fm) (u : Fm), f ∈ compG u l → f ∈ l := by
  intro l
  induction l with
  | nil => intro u h; exact h
  | cons v r ih =>
   intro u h
   simp only [compG] at h
   split at h
   ·exact List.mem_cons_of_mem _ (ih v h)
   ·rcases List.mem_cons.1 h with rfl | h
    ·simp
    ·exact List.mem_cons_of_mem _ (ih v h)
 cases l with
 | nil => cases h
 | cons x r =>
  rcases List.mem_cons.1 h with rfl | h
  ·simp
  ·exact List.mem_cons_of_mem _ (g r x h)
theorem compF_len (l : List Fm) : (compF l).length ≤ l.length := by
 have g : ∀ (l : List Fm) (u : Fm), (compG u l).length ≤ l.length := by
  intro l
  induction l with
  | nil => intro u; exact Nat.le_refl _
  | cons v r ih =>
   intro u
   have := ih v
   simp only [compG]
   split <;> simp <;> omega
 cases l with
 | nil => exact Nat.le_refl _
 | cons x r => have := g r x; simp [compF]; omega
theorem sortF_mem {l : List Fm} {f : Fm} (h : f ∈ sortF l) : f ∈ l := (sortF_spec l).1.mem.2 h
theorem sortF_len (l : List Fm) : (sortF l).length = l.length := (sortF_spec l).1.length.symm
theorem fst_fine {x : List Fm} (hk : ∀ p ∈ x, p.kids.length = 2) (hf : ∀ p ∈ x, Fine p) {f : Fm} (h : f ∈ x.map fstF) : Fine f := by
 obtain ⟨p, hp, rfl⟩ := List.mem_map.1 h
 obtain ⟨r, hr⟩ := kids_cons (p := p) (fun e => by have := hk p hp; rw [e] at this; cases this)
 exact (hf p hp).kid (by rw [hr]; simp)
theorem x180 (nx ny : Bool) (x y : List Fm) (hx : x.length ≤ 1048576) (hy : y.length ≤ 1048576) (kx : ∀ p ∈ x, p.kids.length = 2) (ky : ∀ p ∈ y, p.kids.length = 2) (fx : ∀ p ∈ x, Fine p) (fy : ∀ p ∈ y, Fine p) (sx : SrtdK x) (sy : SrtdK y) :
  Thr Tryz.prog 180 [.str meetW, .sl nx 4 (encs x), .sl ny 4 (encs y)] (.ret (enc (listF false (wordF bagW :: meetF x y)))) := by
 have nil_of : ∀ {l : List Fm}, (∀ p ∈ l, p.kids.length = 2) → ∀ p ∈ l, p.kids ≠ [] := fun h p hp e => by have := h p hp; rw [e] at this; cases this
 refine t180 _ _ _ _ (fun p => enc_own _ p) fun S => ?_
 unfold s180
 simp [-gjn_eq]
 refine gjn_by (fun J => ∀ out : V, out.plain = .sl (meetF x y).isEmpty 4 (encs (meetF x y)) → J (.ref S.b S.c 0) out (own S [V.agg [V.int IntKind.i64 0, V.int IntKind.i64 0, V.str [], V.sl true 4 []]])) ?_ ?_
 ·intro out ho
  have hlen : (meetF x y).length ≤ 16777216 := by
   have h1 := meetG_len x y (compF (sortF (x.map fstF ++ y.map fstF)))
   have h2 := compF_len (sortF (x.map fstF ++ y.map fstF))
   rw [sortF_len] at h2
   simp at h2
   unfold meetF; omega
  simp only [ho, plain_sl]
  refine Thr.call (x45 bagW _ (meetF x y) hlen) ?_
  simp
  exact box_enc _
 ·intro J hJ
  generalize hS1 : own S [V.agg [V.int IntKind.i64 0, V.int IntKind.i64 0, V.str [], V.sl true 4 []]] = S1 at hJ ⊢
  refine Thr.call (x148 nx x (by omega) (nil_of kx)) ?_
  refine Thr.call (x148 ny y (by omega) (nil_of ky)) ?_
  obtain ⟨v, hv, hvp⟩ := keyV_appL (l := x.map fstF) (m := y.map fstF) (by simp; omega) (by simp; omega)
  rw [keyV_plain, hv]
  simp only [bnd_some', hvp]
  refine Thr.call (y181 _ _ (fun h => by simpa using h) (by simp; omega) (fun f hf => (List.mem_append.1 hf).elim (fst_fine kx fx) (fst_fine ky fy))) ?_
  have hLf : ∀ f ∈ compF (sortF (x.map fstF ++ y.map fstF)), Fine f := fun f hf => (List.mem_append.1 (sortF_mem (compF_mem hf))).elim (fst_fine kx fx) (fst_fine ky fy)
  have hLl : (compF (sortF (x.map fstF ++ y.map fstF))).length ≤ 2097152 := by
   have h2 := compF_len (sortF (x.map fstF ++ y.map fstF))
   rw [sortF_len] at h2
   simp at h2
   omega
  have hM : meetF x y = meetG x y (compF (sortF (x.map fstF ++ y.map fstF))) := rfl
  rw [hM] at hJ
  clear hM hv hvp
  generalize compF (sortF (x.map fstF ++ y.map fstF)) = L at hLf hLl hJ ⊢
  generalize (x.map fstF ++ y.map fstF).isEmpty = nl
  simp [-gjn_eq]
  unfold loop8
  intro W hW
  suffices key : ∀ (t i : Nat), i + t = L.length → W (.str meetW) (.sl nx 4 (encs x)) (.sl ny 4 (encs y)) (.ref S.b S.c 0) (keyV (meetG x y (L.take i))) (.sl nl 4 (encs L)) (.int .i64 L.length) (.int .i64 i) S1 by
   exact key L.length 0 (by omega)
  intro t
  induction t with
  | zero =>
   intro i hi
   refine hW _ _ _ _ _ _ _ _ _ ?_
   have : ¬ (i : Int) < L.length := by omega
   simp [this]
   refine hJ _ ?_
   rw [List.take_of_length_le (by omega), keyV_plain]
  | succ t ih =>
   intro i hi
   refine hW _ _ _ _ _ _ _ _ _ ?_
   have hlt : i < L.length := by omega
   simp [-gjn_eq, hlt]
   have hG : meetG x y (L.take (i + 1)) = meetG x y (L.take i) ++ meetG x y [L[i]] := by rw [List.take_succ_eq_append_getElem hlt, meetG_append]
   have hfv : Fine L[i] := hLf _ (List.getElem_mem hlt)
   have hGl : (meetG x y (L.take i)).length ≤ 16777216 := by have := meetG_len x y (L.take i); simp at this; omega
   refine gjn_by (fun J => J (.str meetW) (.sl nx 4 (encs x)) (.sl ny 4 (encs y)) (.ref S.b S.c 0) (keyV (meetG x y (L.take (i + 1)))) (.sl nl 4 (encs L)) (.int .i64 L.length) (.int .i64 i) S1) ?_ ?_
   ·simp
    rw [op_add (by omega) (by omega)]; simp only [bnd_some', plain_int]
    have := ih (i + 1) (by omega)
    simpa using this
   ·intro J24 hJ24
    rw [op_iaE (Int.natCast_nonneg i) (show L[((i : Nat) : Int).toNat]? = some L[i] by simp [hlt])]
    generalize hvv : L[i] = v at hJ24 hG hfv ⊢
    simp [-gjn_eq]
    refine ⟨_, (x215 nx x v (by omega) kx fx sx).pure S1, ?_⟩
    simp [-gjn_eq]
    refine Thr.call (x215 ny y v (by omega) ky fy sy) ?_
    refine gjn_by (fun J => J (.str meetW) (.sl nx 4 (encs x)) (.sl ny 4 (encs y)) (.ref S.b S.c 0) (keyV (meetG x y (L.take i))) (.ro (enc v)) (.int .i64 (min (timesF x v) (timesF y v))) (.sl nl 4 (encs L)) (.int .i64 L.length) (.int .i64 i) S1) ?_ ?_
    ·simp only [plain_int, op_gtr, bnd_some', plain_bool, plain_ro]
     generalize hmn : min (timesF x v) (timesF y v) = n
     refine brD (fun hpos => ?_) (fun hneg => ?_)
     ·rw [op_ld_enc]
      simp only [bnd_some', plain_enc]
      refine ⟨_, (x80 n).pure S1, ?_⟩
      simp only [plain_enc]
      refine eff_mks2 ⟨enc_data _, enc_cells_length _⟩ ⟨enc_data _, enc_cells_length _⟩ (by omega) ?_
      simp only [plain_gr]
      refine ⟨_, (x81 false [v, numF n]).pure S1, ?_⟩
      simp only [plain_enc]
      refine eff_mks1 ⟨enc_data _, enc_cells_length _⟩ (by omega) ?_
      simp only [plain_gr]
      rw [keyV_app hGl]
      simp only [bnd_some']
      have e : meetG x y [v] = [pairF v n] := by simp only [meetG, hmn, if_pos hpos]
      rw [hG, e] at hJ24
      exact hJ24
     ·have e : meetG x y [v] = [] := by simp only [meetG, hmn, if_neg hneg]
      rw [hG, e, List.append_nil] at hJ24
      exact hJ24
    ·intro J41 hJ41
     refine br (fun h => absurd h (by decide)) (fun _ => ?_)
     refine br (fun _ => ?_) (fun h => absurd h (by decide))
     simp only [plain_int]
     rw [op_min]
     exact hJ41
end Go.Pl.L
end
section
open Go Go.Pl Go.Proofs Go.Pl.Z
namespace Go.Pl.L
set_option maxRecDepth 10000
theorem x117 : Thr Tryz.prog 117 [.bool true] (.ret (.tup [])) := by
 refine t117 _ _ fun S => ?_
 unfold s117
 simp [brV]
theorem box_enc2 {S : St} (f : Fm) (z : V) : effA (own S [V.agg [V.int IntKind.i64 0, V.int IntKind.i64 0, V.str [], V.sl true 4 []], z]) (.st 4 (.k (.ref S.b S.c 0)) (.k (enc f))) fun _ S2 => bnd (opV S2 (.ld 4 true (.k (.ref S.b S.c 0)))) fun x4 => x4 = enc f ∧ Own S S2 := by
 refine eff_st_own0 (l := [V.agg [V.int IntKind.i64 0, V.int IntKind.i64 0, V.str [], V.sl true 4 []], z]) rfl rfl rfl (enc_data f) (by cases f; rfl) (enc_cells_length f) rfl ?_
 rw [op_ld_own0 (l := [V.agg [V.int IntKind.i64 0, V.int IntKind.i64 0, V.str [], V.sl true 4 []], z].set 0 (enc f)) rfl (part_enc f) (by cases f; rfl)]
 exact ⟨rfl, _, rfl⟩
theorem own_two {S : St} (z0 z : V) : ((own S [z0]).room 1).set S.b (S.c + 1) z = own S [z0, z] := rfl
theorem st_own_sl {S : St} {z0 : V} {nl nl' : Bool} {s s' : Nat} {xs ys : List V} {K : V → St → Prop} (hk : K .any (own S [z0, .sl nl' s' ys])) : effA (own S [z0, .sl nl s xs]) (.st 1 (.k (.ref S.b (S.c + 1) 0)) (.k (.sl nl' s' ys))) K := by
 have hz : [z0, V.sl nl s xs][1]? = some (V.sl nl s xs) := rfl
 have e2 : stE (own S [z0, .sl nl s xs]) 1 (.ref S.b (S.c + 1) 0) (.sl nl' s' ys) = some ((own S [z0, .sl nl s xs]).set S.b (S.c + 1) (.sl nl' s' ys)) := by
  simp only [stE, own_at hz]
  rw [if_pos ⟨rfl, rfl, rfl, Nat.le_refl 1, .inr rfl⟩]
  rfl
 unfold effA
 rw [st_eff]
 change (match (stE (own S [z0, .sl nl s xs]) 1 (.ref S.b (S.c + 1) 0) (.sl nl' s' ys)).map (fun S' => (V.any, (fun _ : Nat => V.any), S')) with
  | some (v, _, S') => K v S'
  | none => False)
 rw [e2, own_set (by simp)]
 exact hk
theorem x145 (a b : Fm) (ha : a.kids.length ≤ 1048577) (hb : b.kids.length ≤ 1048577) (a0 : a.kids ≠ []) (b0 : b.kids ≠ []) (hbh : headF b = bagW)
  (ka : ∀ p ∈ a.kids.drop 1, p.kids.length = 2) (kb : ∀ p ∈ b.kids.drop 1, p.kids.length = 2) (fa : Fine a) (fb : Fine b) (sa : SrtdK (a.kids.drop 1)) (sb : SrtdK (b.kids.drop 1)) :
  Thr Tryz.prog 145 [.str meetW, .str bagW, enc a, enc b] (.ret (enc (listF false (wordF bagW :: meetF (a.kids.drop 1) (b.kids.drop 1))))) := by
 refine t145 _ _ _ _ _ (fun p => enc_own _ p) fun S => ?_
 unfold s145
 simp [-gjn_eq]
 rw [own_two]
 refine st_own_sl ?_
 have h1 : (bagW = [109, 97, 112]) = False := eq_false (by decide)
 have h2 : (bagW = [115, 101, 116]) = False := eq_false (by decide)
 have h3 : (bagW = [98, 97, 103]) = True := eq_true (by decide)
 simp [h1, h2, h3]
 obtain ⟨ra, hra⟩ := kids_cons a0
 obtain ⟨rb, hrb⟩ := kids_cons b0
 rw [hra] at ha ka sa ⊢
 rw [hrb] at hb kb sb ⊢
 simp at ha hb ka kb sa sb
 refine Thr.call (Thr.ofPure fun S => r28 b S) ?_
 simp [hbh]
 refine Thr.call x117 ?_
 rw [op_ld_own (k := 1) (x := .sl b.nl 4 _) rfl rfl rfl]
 simp
 refine Thr.call (x180 a.nl b.nl ra rb (by omega) (by omega) ka kb (fun p hp => fa.kid (by rw [hra]; simp [hp])) (fun p hp => fb.kid (by rw [hrb]; simp [hp])) sa sb) ?_
 simp
 exact box_enc2 _ _
end Go.Pl.L
end
section
open Go Go.Pl Go.Proofs Go.Pl.Z
namespace Go.Pl.L
set_option maxRecDepth 10000
structure BagOk (a : Fm) : Prop where
 head : headF a = bagW
 ne : a.kids ≠ []
 pairs : ∀ p ∈ a.kids.drop 1, p.kids.length = 2
 fine : Fine a
 srt : SrtdK (a.kids.drop 1)
def meetOf (a b : Fm) : Fm := listF false (wordF bagW :: meetF (a.kids.drop 1) (b.kids.drop 1))
theorem BagOk.len {a : Fm} (h : BagOk a) : a.kids.length ≤ 1048577 := by have := fs_kids a; have := h.fine; simp only [Fine] at this; omega
theorem y145 {a b : Fm} (ha : BagOk a) (hb : BagOk b) : Thr Tryz.prog 145 [.str meetW, .str bagW, enc a, enc b] (.ret (enc (meetOf a b))) :=
 x145 a b ha.len hb.len ha.ne hb.ne hb.head ha.pairs hb.pairs ha.fine hb.fine ha.srt hb.srt
theorem x121 {a b : Fm} (nl : Bool) (ha : BagOk a) (hb : BagOk b) : Thr Tryz.prog 121 [.str meetW, .sl nl 4 (encs [a, b])] (.ret (enc (meetOf a b))) := by
 refine t121 _ _ _ (fun p => enc_own _ p) fun S => ?_
 unfold s121
 simp [-gjn_eq]
 refine Thr.call x117 ?_
 refine Thr.call (Thr.ofPure fun S => r28 a S) ?_
 rw [ha.head]
 have b1 : (bagW = [115, 101, 113]) = False := eq_false (by decide)
 have b2 : (bagW = [115, 101, 116]) = False := eq_false (by decide)
 have b3 : (bagW = [98, 97, 103]) = True := eq_true (by decide)
 have b4 : (bagW = [109, 97, 112]) = False := eq_false (by decide)
 have b5 : (bagW = [105, 109, 97, 112]) = False := eq_false (by decide)
 have m1 : (meetW = [108, 101, 110]) = False := eq_false (by decide)
 have m2 : (meetW = [97, 116]) = False := eq_false (by decide)
 have m3 : (meetW = [99, 97, 116]) = False := eq_false (by decide)
 have m4 : (meetW = [99, 117, 116]) = False := eq_false (by decide)
 have m5 : (meetW = [112, 117, 116]) = False := eq_false (by decide)
 have m6 : (meetW = [105, 110]) = False := eq_false (by decide)
 have m7 : (meetW = [99, 111, 117, 110, 116]) = False := eq_false (by decide)
 have m8 : (meetW = [106, 111, 105, 110]) = False := eq_false (by decide)
 have m9 : (meetW = [109, 101, 101, 116]) = True := eq_true (by decide)
 refine gjn_by (fun J => J (.str meetW) (.sl nl 4 [enc a, enc b]) (.ref S.b S.c 0) (.str bagW) (own S [V.agg [V.int IntKind.i64 0, V.int IntKind.i64 0, V.str [], V.sl true 4 []]])) ?_ ?_
 ·simp [-gjn_eq, m1, m2, m3, m4, m5, m6, m7, m8, m9]
  refine ⟨?_⟩
  simp [-gjn_eq, m8, m9]
  refine ⟨?_⟩
  simp [-gjn_eq, m8, m9]
  refine Thr.call x117 ?_
  refine Thr.call (y145 ha hb) ?_
  simp
  exact box_enc _
 ·intro J hJ
  simp [b1, b2, b3, b4, b5]
  exact hJ
end Go.Pl.L
end
