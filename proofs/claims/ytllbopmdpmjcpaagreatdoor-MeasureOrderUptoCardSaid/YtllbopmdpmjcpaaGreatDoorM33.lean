import Derived.Test.YtllbopmdpmjcpaaGreatDoorM19
import Derived.Test.YtllbopmdpmjcpaaGreatDoorM32
set_option linter.unusedSimpArgs false
set_option linter.unusedVariables false
set_option linter.unusedSectionVars false
section
open Go Go.Pl Go.Proofs
namespace Go.Pl
def St.rws (S : St) (i k : Nat) (l : List Fm) : St := S.set i k (.rows 4 (encs l))
section
variable {S : St} {i k : Nat} {l l' : List Fm}
@[simp] theorem rws_H : (S.rws i k l).H i k = some (.rows 4 (encs l)) := by simp [St.rws, St.set, upd2_eq S.hO]
@[simp] theorem rws_rws : (S.rws i k l).rws i k l' = S.rws i k l' := by
 simp only [St.rws, St.set, St.mk.injEq, and_true, true_and]
 funext a b
 simp only [upd2_eq S.hO]
 split <;> rfl
theorem rws_self (h : S.H i k = some (.rows 4 (encs l))) : S.rws i k l = S := by
 cases S with
 | mk H n b c O hO =>
  simp only [St.rws, St.set, St.mk.injEq, and_true]
  funext a b
  simp only [upd2_eq hO]
  split
  ·rename_i e; rw [e.1, e.2]; exact h.symm
  ·rfl
@[simp] theorem rws_n : (S.rws i k l).n = S.n := rfl
@[simp] theorem rws_b : (S.rws i k l).b = S.b := rfl
@[simp] theorem rws_c : (S.rws i k l).c = S.c := rfl
theorem op_ia_bs {S : St} {sz : Nat} {ln j : Int} (h0 : 0 ≤ j) (h1 : j < ln) : opV S (.ia sz (.k (.bs i k sz 0 ln)) (.k (.int .i64 j))) = some (.eref i k sz j) := by
 simp [opV, M.val, X.ev, V.int?, S.hO, Ops.std, h0, h1]
theorem op_ld_rws {j : Int} {f : Fm} (h0 : 0 ≤ j) (h1 : l[j.toNat]? = some f) : opV (S.rws i k l) (.ld 4 true (.k (.eref i k 4 j))) = some (enc f) := by
 have hO : (S.rws i k l).O = Ops.std := S.hO
 have hlt : j < l.length := by have := (List.getElem?_eq_some_iff.1 h1).1; omega
 have ha : (enc f).isAgg = true ∧ (enc f).isGr = false := by cases f; exact ⟨rfl, rfl⟩
 have e := (List.getElem?_eq_some_iff.1 (show (encs l)[j.toNat]? = some (enc f) by rw [encs_get, h1]; rfl)).2
 simp [opV, M.val, X.ev, hO, Ops.std, h0, hlt, e, ha]
theorem eff_st_rws {j : Int} {f : Fm} {K : V → St → Prop} (h0 : 0 ≤ j) (h1 : j < l.length) (h : K .any (S.rws i k (l.set j.toNat f))) : effA (S.rws i k l) (.st 4 (.k (.eref i k 4 j)) (.k (enc f))) K := by
 have hO : (S.rws i k l).O = Ops.std := S.hO
 have hl : j < (encs l).length := by rw [encs_length]; exact h1
 have e : (encs l).set j.toNat (enc f) = encs (l.set j.toNat f) := by simp [encs_map]
 have e2 : (S.rws i k l).set i k (.rows 4 (encs (l.set j.toNat f))) = S.rws i k (l.set j.toNat f) := rws_rws
 simp only [effA, M.eff, X.ev, rws_H, hO, Ops.std, enc_data, enc_cells_length, and_self, if_true, h0, hl, e, e2]
 exact h
@[simp] theorem op_len_bs {S : St} (sz : Nat) (off ln : Int) : opV S (.len (.k (.bs i k sz off ln))) = some (.int .i64 ln) := by simp [opV, M.val, X.ev]
@[simp] theorem pl_bs (sz : Nat) (off ln : Int) : (V.bs i k sz off ln).plain = .bs i k sz off ln := rfl
@[simp] theorem pl_eref (sz : Nat) (j : Int) : (V.eref i k sz j).plain = .eref i k sz j := rfl
theorem enter_rws (h : S.H i k = some (.rows 4 (encs l))) : S.enter = S.enter.rws i k l := (rws_self (S := S.enter) h).symm
theorem ovr_rws {Q : AE → St → Prop} (hw : WFS S) (h : S.H i k = some (.rows 4 (encs l))) {v : V} (hv : ∀ p, v.refsB p) (hq : Q (.ret v) (S.rws i k l')) : ovr S Q (.ret v) (S.enter.rws i k l') := by
 refine ⟨S.rws i k l', hv _, ⟨Nat.le_refl _, rfl, Nat.le_refl _, fun a b x hx => ?_⟩, hq⟩
 have hok : (S.rws i k l').ok = S.ok := rfl
 rw [hok]
 refine ⟨hx, ?_⟩
 simp only [St.rws, St.set, upd2_eq S.hO] at hx
 split at hx
 ·rename_i e
  obtain ⟨rfl, rfl⟩ := e
  cases hx
  refine ⟨(hw _ _ _ h).1, ?_⟩
  simp only [V.refsB]
  exact encs_refsB _ _
 ·exact hw _ _ _ hx
end
def Turns (P : Program) (f : Nat) (args : Nat → Nat → List V) (l l' : List Fm) : Prop :=
 ∀ S i k, S.H i k = some (.rows 4 (encs l)) → ACalls P f (args i k) S fun e S' => e = .ret (.tup []) ∧ S' = S.rws i k l'
theorem Turns.call {P : Program} {f : Nat} {args : Nat → Nat → List V} {l l' : List Fm} (h : Turns P f args l l') {S : St} {i k : Nat} {Kr Kp : V → St → Prop} {az : List V} (ha : az = args i k) (hk : Kr (.tup []) (S.rws i k l')) : callA P f az (S.rws i k l) Kr Kp := by
 subst ha
 refine (h (S.rws i k l) i k rws_H).mono ?_
 rintro e S' ⟨rfl, rfl⟩
 rw [rws_rws]; exact hk
end Go.Pl
end
section
open Go Go.Pl Go.Proofs
namespace Go.Pl.L
set_option maxRecDepth 10000
theorem set_mid {α : Type} (p : List α) (x y : α) (r : List α) (n : Nat) (h : n = p.length) : (p ++ x :: r).set n y = p ++ y :: r := by
 subst h; simp
theorem get_mid {α : Type} (p : List α) (x : α) (r : List α) (n : Nat) (h : n = p.length) : (p ++ x :: r)[n]? = some x := by
 subst h; simp
theorem op_ld_at {S : St} {i k : Nat} {j : Int} {l P R : List Fm} {f : Fm} (hl : l = P ++ f :: R) (hj : j = (P.length : Int)) : opV (S.rws i k l) (.ld 4 true (.k (.eref i k 4 j))) = some (enc f) :=
 op_ld_rws (by omega) (by rw [hl]; exact get_mid _ _ _ _ (by omega))
theorem eff_st_at {S : St} {i k : Nat} {j : Int} {l P R : List Fm} {x f : Fm} {K : V → St → Prop} (hl : l = P ++ x :: R) (hj : j = (P.length : Int)) (h : K .any (S.rws i k (P ++ f :: R))) : effA (S.rws i k l) (.st 4 (.k (.eref i k 4 j)) (.k (enc f))) K := by
 subst hl
 refine eff_st_rws (by omega) (by simp; omega) ?_
 rw [set_mid _ _ _ _ _ (by omega)]; exact h
theorem x257 (p A B q : List Fm) (mid : List Fm) (N a b n : Nat) (hN : N = (p ++ (A ++ (mid ++ (B ++ q)))).length) (ha : a = p.length) (hb : b = p.length + A.length + mid.length) (hA : n = A.length) (hB : n = B.length) (x : V) (hbig : N ≤ 16777216) :
  Turns Tryz.prog 257 (fun i k => [.bs i k 4 0 N, .int .i64 a, .int .i64 b, .int .i64 n, x]) (p ++ (A ++ (mid ++ (B ++ q)))) (p ++ (B ++ (mid ++ (A ++ q)))) := by
 intro S i k hH
 refine u257 _ _ _ _ _ S _ fun hw => ?_
 rw [enter_rws hH]
 have hK := ovr_rws (l' := p ++ (B ++ (mid ++ (A ++ q)))) (Q := fun e S' => e = .ret (.tup []) ∧ S' = S.rws i k (p ++ (B ++ (mid ++ (A ++ q))))) hw hH (v := .tup []) (fun p => trivial) ⟨rfl, rfl⟩
 revert hK
 generalize ovr S _ = K
 generalize hS : S.enter = S₀
 intro hK
 unfold s257
 simp
 unfold loop5
 intro W hW
 simp only [List.length_append] at hN
 suffices key : ∀ (m j : Nat) (A1 A2 B1 B2 : List Fm), A = A1 ++ A2 → B = B1 ++ B2 → j = A1.length → j = B1.length → m = A2.length → m = B2.length →
   W (.bs i k 4 0 N) (.int .i64 a) (.int .i64 b) (.int .i64 n) (.int .i64 j) (S₀.rws i k (p ++ (B1 ++ (A2 ++ (mid ++ (A1 ++ (B2 ++ q))))))) by
  have := key A.length 0 [] A [] B rfl rfl rfl rfl rfl (by omega)
  simpa using this
 intro m
 induction m with
 | zero =>
  rintro j A1 A2 B1 B2 rfl rfl h1 h2 h3 h4
  refine hW _ _ _ _ _ _ ?_
  obtain rfl := List.length_eq_zero_iff.1 h3.symm
  obtain rfl := List.length_eq_zero_iff.1 h4.symm
  simp at *
  have : ¬ j < n := by omega
  simp [this]
  exact hK
 | succ m ih =>
  rintro j A1 A2 B1 B2 rfl rfl h1 h2 h3 h4
  refine hW _ _ _ _ _ _ ?_
  cases A2 with
  | nil => simp at h3
  | cons u A2 =>
  cases B2 with
  | nil => simp at h4
  | cons v B2 =>
  simp at *
  have : j < n := by omega
  simp [this]
  rw [op_add (by omega) (by omega)]; simp only [bnd_some', plain_int, plain_enc]
  rw [op_add (by omega) (by omega)]; simp only [bnd_some', plain_int]
  rw [op_ia_bs (by omega) (by omega)]; simp only [bnd_some', pl_eref, plain_int, plain_enc]
  rw [op_ld_at (P := p ++ (B1 ++ u :: (A2 ++ (mid ++ A1)))) (f := v) (R := B2 ++ q) (by simp) (by simp; omega)]; simp only [bnd_some', plain_int, plain_enc]
  rw [op_ia_bs (by omega) (by omega)]; simp only [bnd_some', pl_eref, plain_int, plain_enc]
  rw [op_ld_at (P := p ++ B1) (f := u) (R := A2 ++ (mid ++ (A1 ++ v :: (B2 ++ q)))) (by simp) (by simp; omega)]; simp only [bnd_some', plain_int, plain_enc]
  refine eff_st_at (P := p ++ B1) (x := u) (R := A2 ++ (mid ++ (A1 ++ v :: (B2 ++ q)))) (by simp) (by simp; omega) ?_
  rw [op_ia_bs (by omega) (by omega)]; simp only [bnd_some', pl_eref, plain_int, plain_enc]
  refine eff_st_at (P := p ++ (B1 ++ v :: (A2 ++ (mid ++ A1)))) (x := v) (R := B2 ++ q) (by simp) (by simp; omega) ?_
  rw [op_add (by omega) (by omega)]; simp only [bnd_some', plain_int]
  have := ih (j + 1) (A1 ++ [u]) A2 (B1 ++ [v]) B2 (by simp) (by simp) (by simp; omega) (by simp; omega) (by omega) (by omega)
  simpa using this
end Go.Pl.L
end
section
open Go Go.Pl Go.Proofs
namespace Go.Pl.L
set_option maxRecDepth 10000
theorem x251 (p A B q : List Fm) (N a m b : Nat) (hN : N = (p ++ (A ++ (B ++ q))).length) (ha : a = p.length) (hm : m = p.length + A.length) (hb : b = p.length + A.length + B.length) (hA : A ≠ []) (hB : B ≠ []) (x : V) (hbig : N ≤ 16777216) :
  Turns Tryz.prog 251 (fun i k => [.bs i k 4 0 N, .int .i64 a, .int .i64 m, .int .i64 b, x]) (p ++ (A ++ (B ++ q))) (p ++ (B ++ (A ++ q))) := by
 intro S bi bk hH
 refine u251 _ _ _ _ _ S _ fun hw => ?_
 rw [enter_rws hH]
 have hK := ovr_rws (l' := p ++ (B ++ (A ++ q))) (Q := fun e S' => e = .ret (.tup []) ∧ S' = S.rws bi bk (p ++ (B ++ (A ++ q)))) hw hH (v := .tup []) (fun p => trivial) ⟨rfl, rfl⟩
 revert hK
 generalize ovr S _ = K
 generalize hS : S.enter = S₀
 intro hK
 have hA0 : 0 < A.length := List.length_pos_iff.2 hA
 have hB0 : 0 < B.length := List.length_pos_iff.2 hB
 simp only [List.length_append] at hN
 unfold s251
 simp
 rw [op_sub (by omega) (by omega)]; simp only [bnd_some', plain_int]
 rw [op_sub (by omega) (by omega)]; simp only [bnd_some', plain_int]
 rw [show ((m : Int) - a) = (A.length : Nat) by omega, show ((b : Int) - m) = (B.length : Nat) by omega]
 unfold loop5
 intro W hW
 suffices key : ∀ (t : Nat) (P A B Q : List Fm), A.length + B.length ≤ t → 0 < A.length → 0 < B.length → m = P.length + A.length → N = P.length + A.length + B.length + Q.length → K (.ret (.tup [])) (S₀.rws bi bk (P ++ (B ++ (A ++ Q)))) →
   W (.bs bi bk 4 0 N) (.int .i64 m) x.plain (.int .i64 (A.length : Nat)) (.int .i64 (B.length : Nat)) (S₀.rws bi bk (P ++ (A ++ (B ++ Q)))) by
  exact key _ p A B q (Nat.le_refl _) hA0 hB0 hm (by omega) hK
 clear hK hA0 hB0 hm hb hN hA hB hH
 intro t
 induction t with
 | zero => intro P A B Q h1 h2; omega
 | succ t ih =>
  intro P A B Q h1 h2 h3 h4 h5 hK
  refine hW _ _ _ _ _ _ ?_
  simp
  refine br (fun hne => ?_) (fun he => ?_)
  ·simp at hne
   refine brD (fun hlt => ?_) (fun hge => ?_)
   ·rw [op_sub (by omega) (by omega)]; simp only [bnd_some', plain_int]
    have e := List.take_append_drop B.length A
    have l1 : (A.take B.length).length = B.length := by simp; omega
    have l2 : (A.drop B.length).length = A.length - B.length := by simp
    revert e l1 l2
    generalize A.take B.length = A1
    generalize A.drop B.length = A2
    rintro rfl l1 l2
    simp only [List.length_append] at *
    rw [show P ++ (A1 ++ A2 ++ (B ++ Q)) = P ++ (A1 ++ (A2 ++ (B ++ Q))) by simp]
    refine Turns.call (x257 P A1 B Q A2 N P.length m B.length (by simp; omega) rfl (by omega) l1.symm rfl x.plain hbig) ?_ ?_
    ·simp; omega
    rw [op_sub (by omega) (by omega)]; simp only [bnd_some', plain_int]
    have := ih (P ++ B) A2 A1 Q (by omega) (by omega) (by omega) (by simp; omega) (by simp; omega) (by simpa using hK)
    rw [show ((A1.length + A2.length : Nat) : Int) - (B.length : Nat) = (A2.length : Nat) by omega]
    simpa [l1] using this
   ·rw [op_sub (by omega) (by omega)]; simp only [bnd_some', plain_int]
    rw [op_add (by omega) (by omega)]; simp only [bnd_some', plain_int]
    rw [op_sub (by omega) (by omega)]; simp only [bnd_some', plain_int]
    have hlt : A.length < B.length := by omega
    have e := List.take_append_drop (B.length - A.length) B
    have l1 : (B.take (B.length - A.length)).length = B.length - A.length := by simp
    have l2 : (B.drop (B.length - A.length)).length = A.length := by simp; omega
    revert e l1 l2
    generalize B.take (B.length - A.length) = B1
    generalize B.drop (B.length - A.length) = B2
    rintro rfl l1 l2
    simp only [List.length_append] at *
    rw [show P ++ (A ++ (B1 ++ B2 ++ Q)) = P ++ (A ++ (B1 ++ (B2 ++ Q))) by simp]
    refine Turns.call (x257 P A B2 Q B1 N P.length (m + B1.length) A.length (by simp; omega) rfl (by omega) rfl l2.symm x.plain hbig) ?_ ?_
    ·simp; omega
    rw [op_sub (by omega) (by omega)]; simp only [bnd_some', plain_int]
    have := ih P B2 B1 (A ++ Q) (by omega) (by omega) (by omega) (by omega) (by simp; omega) (by simpa using hK)
    rw [show ((B1.length + B2.length : Nat) : Int) - (A.length : Nat) = (B1.length : Nat) by omega]
    simpa [l2] using this
  ·simp at he
   rw [op_sub (by omega) (by omega)]; simp only [bnd_some', plain_int]
   refine Turns.call (x257 P A B Q [] N P.length m A.length (by simp; omega) rfl (by simp; omega) rfl (by omega) x.plain hbig) ?_ ?_
   ·simp; omega
   ·simpa using hK
end Go.Pl.L
end
section
open Go Go.Pl Go.Proofs Go.Pl.Z
namespace Go.Pl
def TurnsR (P : Program) (f : Nat) (args : Nat → Nat → List V) (l : List Fm) (R : List Fm → Prop) : Prop :=
 ∀ S i k, S.H i k = some (.rows 4 (encs l)) → ACalls P f (args i k) S fun e S' => e = .ret (.tup []) ∧ ∃ l', R l' ∧ S' = S.rws i k l'
theorem TurnsR.call {P : Program} {f : Nat} {args : Nat → Nat → List V} {l : List Fm} {R : List Fm → Prop} (h : TurnsR P f args l R) {S : St} {i k : Nat} {Kr Kp : V → St → Prop} {az : List V} (ha : az = args i k) (hk : ∀ l', R l' → Kr (.tup []) (S.rws i k l')) : callA P f az (S.rws i k l) Kr Kp := by
 subst ha
 refine (h (S.rws i k l) i k rws_H).mono ?_
 rintro e S' ⟨rfl, l', h1, rfl⟩
 rw [rws_rws]; exact hk l' h1
theorem thr43 (f g : Fm) (h : Fine f) : Thr Tryz.prog 43 [enc f, enc g] (.ret (.int .i64 (cmpF f g))) := Thr.ofPure fun S => p43 f g h S
end Go.Pl
namespace Go.Pl.L
set_option maxRecDepth 10000
theorem x237 (p M q : List Fm) (N a b : Nat) (hN : N = (p ++ (M ++ q)).length) (ha : a = p.length) (hb : b = p.length + M.length) (hbig : N ≤ 16777216) (hf : ∀ f ∈ M, Fine f) :
  TurnsR Tryz.prog 237 (fun i k => [.bs i k 4 0 N, .int .i64 a, .int .i64 b, .fn 43 []]) (p ++ (M ++ q)) (fun l' => ∃ M', StS M M' ∧ Srtd M' ∧ l' = p ++ (M' ++ q)) := by
 intro S bi bk hH
 refine u237 _ _ _ _ S _ fun hw => ?_
 rw [enter_rws hH]
 have hK := fun l' (h : ∃ M', StS M M' ∧ Srtd M' ∧ l' = p ++ (M' ++ q)) => ovr_rws (l' := l') (Q := fun e S' => e = .ret (.tup []) ∧ ∃ l', (∃ M', StS M M' ∧ Srtd M' ∧ l' = p ++ (M' ++ q)) ∧ S' = S.rws bi bk l') hw hH (v := .tup []) (fun p => trivial) ⟨rfl, _, h, rfl⟩
 revert hK
 generalize ovr S _ = K
 generalize hS : S.enter = S₀
 intro hK
 clear hH hw hS
 simp only [List.length_append] at hN
 unfold s237
 simp
 rw [op_add (by omega) (by omega)]; simp only [bnd_some', plain_int]
 unfold loop5
 intro W hW
 suffices key : ∀ (t i : Nat) (M1 M2 : List Fm), t = M2.length → i = a + M1.length → Srtd M1 → StS M (M1 ++ M2) → W (.bs bi bk 4 0 N) (.int .i64 a) (.int .i64 b) (.fn 43 []) (.int .i64 i) (S₀.rws bi bk (p ++ (M1 ++ (M2 ++ q)))) by
  cases M with
  | nil =>
   refine hW _ _ _ _ _ _ ?_
   have : ¬ ((a : Int) + 1 < b) := by simp at hb; omega
   simp [this]
   exact hK _ ⟨[], .refl _, .nil, rfl⟩
  | cons x M => exact key M.length (a + 1) [x] M rfl rfl (.one x) (.refl _)
 intro t
 induction t with
 | zero =>
  intro i M1 M2 h1 h2 h3 h4
  obtain rfl := List.length_eq_zero_iff.1 h1.symm
  refine hW _ _ _ _ _ _ ?_
  have := h4.length
  simp at this
  have : ¬ (i : Int) < b := by omega
  simp [this]
  exact hK _ ⟨M1, by simpa using h4, h3, rfl⟩
 | succ t ih =>
  intro i M1 M2 h1 h2 h3 h4
  refine hW _ _ _ _ _ _ ?_
  cases M2 with
  | nil => simp at h1
  | cons u M2 =>
  have hl := h4.length
  simp at hl h1
  have : (i : Int) < b := by omega
  simp [this]
  unfold loop6
  intro W2 hW2
  suffices key2 : ∀ (s j : Nat) (L R : List Fm), j = a + s → s = L.length → L ++ R = M1 → (∀ r ∈ R, cmpF u r < 0) → W2 (.bs bi bk 4 0 N) (.int .i64 a) (.int .i64 b) (.fn 43 []) (.int .i64 i) (.int .i64 (j : Nat)) (S₀.rws bi bk (p ++ (L ++ u :: (R ++ (M2 ++ q))))) by
   have := key2 M1.length i M1 [] h2 rfl (by simp) (by simp)
   simpa using this
  intro s
  induction s with
  | zero =>
   intro j L R hj h5 h6 h7
   obtain rfl := List.length_eq_zero_iff.1 h5.symm
   refine hW2 _ _ _ _ _ _ _ ?_
   have hgt : ¬ (a : Int) < j := by omega
   simp [hgt] at h6 ⊢
   subst h6
   rw [op_add (by omega) (by omega)]; simp only [bnd_some', plain_int]
   have := ih (i + 1) (u :: R) M2 (by omega) (by simp at h2 ⊢; omega) (List.pairwise_cons.2 ⟨fun z hz => by have := h7 z hz; omega, h3⟩)
    (h4.trans (by have := (StS.swap (A := R) (B := [u]) (by simpa using h7)).append (.refl M2); simpa using this))
   simpa using this
  | succ s ih2 =>
   intro j L R hj h5 h6 h7
   refine hW2 _ _ _ _ _ _ _ ?_
   obtain rfl | ⟨L, v, rfl⟩ := List.eq_nil_or_concat L
   ·simp at h5
   simp at h5
   have hgt : (a : Int) < j := by omega
   simp [hgt]
   have hlM : L.length + 1 + R.length = M1.length := by rw [← h6]; simp; omega
   rw [op_ia_bs (by omega) (by omega)]; simp only [bnd_some', pl_eref, plain_int, plain_enc]
   rw [op_ld_at (P := p ++ (L ++ [v])) (f := u) (R := R ++ (M2 ++ q)) (by simp) (by simp; omega)]; simp only [bnd_some', plain_int, plain_enc]
   rw [op_sub (by omega) (by omega)]; simp only [bnd_some', plain_int]
   rw [op_ia_bs (by omega) (by omega)]; simp only [bnd_some', pl_eref, plain_int, plain_enc]
   rw [op_ld_at (P := p ++ L) (f := v) (R := u :: (R ++ (M2 ++ q))) (by simp) (by simp; omega)]; simp only [bnd_some', plain_int, plain_enc]
   have hfu : Fine u := hf u (h4.mem.2 (by simp))
   refine Thr.call (thr43 u v hfu) ?_
   simp
   refine brD (fun hlt => ?_) (fun hge => ?_)
   ·rw [op_sub (by omega) (by omega)]; simp only [bnd_some', plain_int]
    rw [op_ia_bs (by omega) (by omega)]; simp only [bnd_some', pl_eref, plain_int, plain_enc]
    rw [op_ld_at (P := p ++ L) (f := v) (R := u :: (R ++ (M2 ++ q))) (by simp) (by simp; omega)]; simp only [bnd_some', plain_int, plain_enc]
    rw [op_ia_bs (by omega) (by omega)]; simp only [bnd_some', pl_eref, plain_int, plain_enc]
    rw [op_ld_at (P := p ++ (L ++ [v])) (f := u) (R := R ++ (M2 ++ q)) (by simp) (by simp; omega)]; simp only [bnd_some', plain_int, plain_enc]
    refine eff_st_at (P := p ++ (L ++ [v])) (x := u) (R := R ++ (M2 ++ q)) (by simp) (by simp; omega) ?_
    rw [op_ia_bs (by omega) (by omega)]; simp only [bnd_some', pl_eref, plain_int, plain_enc]
    refine eff_st_at (P := p ++ L) (x := v) (R := v :: (R ++ (M2 ++ q))) (by simp) (by simp; omega) ?_
    rw [op_sub (by omega) (by omega)]; simp only [bnd_some', plain_int]
    have := ih2 (j - 1) L (v :: R) (by omega) (by omega) (by simpa using h6) (fun r hr => by
     rcases List.mem_cons.1 hr with rfl | hr
     ·exact hlt
     ·exact h7 r hr)
    rw [show ((j - 1 : Nat) : Int) = j - 1 by omega] at this
    simpa using this
   ·rw [op_add (by omega) (by omega)]; simp only [bnd_some', plain_int]
    have hvu : cmpF v u ≤ 0 := by have := cmpF_flip u v; omega
    have hs : Srtd ((L ++ [v]) ++ R) := by rw [← h6] at h3; simpa using h3
    obtain ⟨s1, s2, s3⟩ := hs.of_append
    have := ih (i + 1) ((L ++ [v]) ++ u :: R) M2 (by omega) (by simp at h2 hlM ⊢; omega) (s1.append (List.pairwise_cons.2 ⟨fun z hz => by have := h7 z hz; omega, s2⟩) (fun x hx y hy => by
     rcases List.mem_cons.1 hy with rfl | hy
     ·rcases List.mem_append.1 hx with hx | hx
      ·exact cmpF_trans (s1.of_append.2.2 x hx v (by simp)) hvu
      ·simp at hx; subst hx; exact hvu
     ·exact s3 x hx y hy)) (h4.trans (by
     have := (StS.refl (L ++ [v])).append ((StS.swap (A := R) (B := [u]) (by simpa using h7)).append (.refl M2))
     rw [← h6]; simpa using this))
    simpa using this
end Go.Pl.L
end
section
open Go Go.Pl Go.Proofs Go.Pl.Z
namespace Go.Pl.L
set_option maxRecDepth 10000
theorem op_shr1 {S : St} (a : Int) : opV S (.bin .shr (.k (.int .u64 a)) (.k (.int .u64 1))) = some (.int .u64 (a / 2)) := by
 rw [op_bin]; simp only [binV, V.int?, binI, if_true]
 have : binOp .shr 0 (.int .u64 a) (.int .u64 1) = pure (.int .u64 (a / 2)) := by
  rw [binOp_shr, shift_shr_any _ _ _ _ (by decide)]
  rfl
 simp only [Ops.std, this]; rfl
theorem wrap_u64 {a : Int} (h0 : 0 ≤ a) (h1 : a < 18446744073709551616) : IntKind.u64.wrap a = a := by
 simp [IntKind.wrap, IntKind.bits, IntKind.signed]; omega
theorem wrap_i64 {a : Int} (h0 : 0 ≤ a) (h1 : a < 9223372036854775808) : IntKind.i64.wrap a = a := by
 simp [IntKind.wrap, IntKind.bits, IntKind.signed]; omega
theorem op_half {S : St} {a b : Nat} (ha : a ≤ 1000000000) (hb : b ≤ 1000000000) (K : V → Prop) (h : K (.int .i64 ((a + b) / 2 : Nat))) :
  bnd (opV S (.bin .add (.k (.int .i64 a)) (.k (.int .i64 b)))) fun x => bnd (opV S (.cvi .u64 (.k x.plain))) fun x => bnd (opV S (.bin .shr (.k x.plain) (.k (.int .u64 1)))) fun x => bnd (opV S (.cvi .i64 (.k x.plain))) K := by
 rw [op_add (by omega) (by omega)]
 simp only [bnd_some', plain_int, op_cvi]
 rw [wrap_u64 (by omega) (by omega), op_shr1]
 simp only [bnd_some', plain_int, op_cvi]
 rw [wrap_i64 (by omega) (by omega)]
 exact h
theorem gjn_by {α : Type} {A : α → Prop} {J : α} (R : α → Prop) (h1 : R J) (h2 : ∀ J', R J' → A J') : gjn A J := ⟨h2 J h1⟩
theorem srt_get {l : List Fm} (h : Srtd l) {i j : Nat} {x y : Fm} (hx : l[i]? = some x) (hy : l[j]? = some y) (hij : i ≤ j) : cmpF x y ≤ 0 := by
 obtain ⟨h1, rfl⟩ := List.getElem?_eq_some_iff.1 hx
 obtain ⟨h2, rfl⟩ := List.getElem?_eq_some_iff.1 hy
 by_cases e : i = j
 ·subst e; have := Same.refl l[i]; unfold Same at this; omega
 ·exact (List.pairwise_iff_getElem.1 h) i j h1 h2 (by omega)
end Go.Pl.L
end
section
open Go Go.Pl Go.Proofs Go.Pl.Z
namespace Go.Pl.L
set_option maxRecDepth 10000
theorem x238a (p B q : List Fm) (x : Fm) (N a m b : Nat) (hN : N = (p ++ ([x] ++ (B ++ q))).length) (ha : a = p.length) (hm : m = p.length + 1) (hb : b = p.length + 1 + B.length) (hbig : N ≤ 16777216) (hB : Srtd B) (hf : ∀ f ∈ B, Fine f) :
  TurnsR Tryz.prog 238 (fun i k => [.bs i k 4 0 N, .int .i64 a, .int .i64 m, .int .i64 b, .fn 43 []]) (p ++ ([x] ++ (B ++ q))) (fun l' => ∃ M', StS ([x] ++ B) M' ∧ Srtd M' ∧ l' = p ++ (M' ++ q)) := by
 intro S bi bk hH
 refine u238 _ _ _ _ _ S _ fun hw => ?_
 rw [enter_rws hH]
 have hK := fun l' (h : ∃ M', StS ([x] ++ B) M' ∧ Srtd M' ∧ l' = p ++ (M' ++ q)) => ovr_rws (l' := l') (Q := fun e S' => e = .ret (.tup []) ∧ ∃ l', (∃ M', StS ([x] ++ B) M' ∧ Srtd M' ∧ l' = p ++ (M' ++ q)) ∧ S' = S.rws bi bk l') hw hH (v := .tup []) (fun p => trivial) ⟨rfl, _, h, rfl⟩
 revert hK
 generalize ovr S _ = K
 generalize hS : S.enter = S₀
 intro hK
 clear hH hw hS
 simp only [List.length_append, List.length_singleton] at hN
 unfold s238
 simp [-gjn_eq]
 rw [op_sub (by omega) (by omega)]; simp only [bnd_some', plain_int, op_eql]
 have h1 : (m : Int) - a = 1 := by omega
 simp only [h1, decide_true, bnd_some', plain_bool]
 refine br (fun _ => ?_) (fun h => by cases h)
 refine gjn_by (fun J => ∀ (B1 B2 : List Fm), B1 ++ B2 = B → (∀ y ∈ B1, cmpF y x < 0) → (∀ y ∈ B2, 0 ≤ cmpF y x) → J (.bs bi bk 4 0 N) (.int .i64 a) (.int .i64 (m + B1.length : Nat)) (S₀.rws bi bk (p ++ x :: (B1 ++ (B2 ++ q))))) ?_ ?_
 ·rintro B1 B2 rfl k1 k2
  simp
  unfold loop3
  intro W hW
  simp only [List.length_append] at hN hb
  suffices key : ∀ (t k : Nat) (C1 C2 : List Fm), B1 = C1 ++ C2 → t = C2.length → k = a + C1.length → W (.bs bi bk 4 0 N) (.int .i64 (m + B1.length : Nat)) (.int .i64 (k : Nat)) (S₀.rws bi bk (p ++ (C1 ++ x :: (C2 ++ (B2 ++ q))))) by
   have := key B1.length a [] B1 rfl rfl rfl
   simpa using this
  intro t
  induction t with
  | zero =>
   rintro k C1 C2 rfl h2 h3
   obtain rfl := List.length_eq_zero_iff.1 h2.symm
   refine hW _ _ _ _ ?_
   simp at hK hN hb k1 ⊢
   rw [op_sub (by omega) (by omega)]; simp only [bnd_some', plain_int]
   have : ¬ (k : Int) < (m : Int) + C1.length - 1 := by omega
   simp [this]
   refine hK _ (C1 ++ x :: B2) ?_ ?_ (by simp)
   ·have := (StS.swap (A := [x]) (B := C1) (by simpa using k1)).append (.refl B2)
    simpa using this
   ·obtain ⟨s1, s2, s3⟩ := hB.of_append
    refine Srtd.append (by simpa using s1) (List.pairwise_cons.2 ⟨fun z hz => ?_, s2⟩) fun z hz w hw => ?_
    ·have := k2 z hz; have := cmpF_flip x z; omega
    ·rcases List.mem_cons.1 hw with rfl | hw
     ·have := k1 z hz; omega
     ·exact s3 z (by simpa using hz) w hw
  | succ t ih =>
   rintro k C1 C2 rfl h2 h3
   refine hW _ _ _ _ ?_
   cases C2 with
   | nil => simp at h2
   | cons y C2 =>
   simp at hN hb h2 ⊢
   rw [op_sub (by omega) (by omega)]; simp only [bnd_some', plain_int]
   have : (k : Int) < (m : Int) + (C1.length + (C2.length + 1)) - 1 := by omega
   simp [this]
   rw [op_add (by omega) (by omega)]; simp only [bnd_some', plain_int]
   rw [op_ia_bs (by omega) (by omega)]; simp only [bnd_some', pl_eref, plain_int, plain_enc]
   rw [op_ld_at (P := p ++ (C1 ++ [x])) (f := y) (R := C2 ++ (B2 ++ q)) (by simp) (by simp; omega)]; simp only [bnd_some', plain_int, plain_enc]
   rw [op_ia_bs (by omega) (by omega)]; simp only [bnd_some', pl_eref, plain_int, plain_enc]
   rw [op_ld_at (P := p ++ C1) (f := x) (R := y :: (C2 ++ (B2 ++ q))) (by simp) (by simp; omega)]; simp only [bnd_some', plain_int, plain_enc]
   refine eff_st_at (P := p ++ C1) (x := x) (R := y :: (C2 ++ (B2 ++ q))) (by simp) (by simp; omega) ?_
   rw [op_ia_bs (by omega) (by omega)]; simp only [bnd_some', pl_eref, plain_int, plain_enc]
   refine eff_st_at (P := p ++ (C1 ++ [y])) (x := y) (R := C2 ++ (B2 ++ q)) (by simp) (by simp; omega) ?_
   rw [op_add (by omega) (by omega)]; simp only [bnd_some', plain_int]
   have := ih (k + 1) (C1 ++ [y]) C2 (by simp) (by omega) (by simp; omega)
   simpa using this
 ·intro J hJ
  unfold loop5
  intro W hW
  suffices key : ∀ (t i j : Nat) (B1 Bm B2 : List Fm), B1 ++ (Bm ++ B2) = B → Bm.length ≤ t → i = m + B1.length → j = i + Bm.length → (∀ y ∈ B1, cmpF y x < 0) → (∀ y ∈ B2, 0 ≤ cmpF y x) →
    W (.bs bi bk 4 0 N) (.int .i64 a) (.fn 43 []) (.int .i64 (i : Nat)) (.int .i64 (j : Nat)) (S₀.rws bi bk (p ++ x :: (B ++ q))) by
   exact key B.length m b [] B [] (by simp) (Nat.le_refl _) rfl (by omega) (by simp) (by simp)
  intro t
  have fin : ∀ (i j : Nat) (B1 Bm B2 : List Fm), B1 ++ (Bm ++ B2) = B → Bm.length = 0 → i = m + B1.length → j = i + Bm.length → (∀ y ∈ B1, cmpF y x < 0) → (∀ y ∈ B2, 0 ≤ cmpF y x) →
    W (.bs bi bk 4 0 N) (.int .i64 a) (.fn 43 []) (.int .i64 (i : Nat)) (.int .i64 (j : Nat)) (S₀.rws bi bk (p ++ x :: (B ++ q))) := by
   intro i j B1 Bm B2 e h2 h3 h4 k1 k2
   obtain rfl := List.length_eq_zero_iff.1 h2
   refine hW _ _ _ _ _ _ ?_
   have : ¬ (i : Int) < j := by simp at h4; omega
   simp [this]
   have := hJ B1 B2 (by simpa using e) k1 k2
   rw [← e, h3]; simpa using this
  induction t with
  | zero => intro i j B1 Bm B2 e h2; exact fin i j B1 Bm B2 e (by omega)
  | succ t ih =>
   intro i j B1 Bm B2 e h2 h3 h4 k1 k2
   by_cases h0 : Bm.length = 0
   ·exact fin i j B1 Bm B2 e h0 h3 h4 k1 k2
   have hl : B1.length + (Bm.length + B2.length) = B.length := by rw [← e]; simp
   refine hW _ _ _ _ _ _ ?_
   have hlt : (i : Int) < j := by omega
   simp [hlt]
   refine op_half (by omega) (by omega) _ ?_
   generalize hh : (i + j) / 2 = h
   have hi : i ≤ h := by omega
   have hj : h < j := by omega
   obtain ⟨y, hy⟩ : ∃ y, Bm[h - i]? = some y := ⟨Bm[h - i]'(by omega), by simp⟩
   have eB : Bm = Bm.take (h - i) ++ y :: Bm.drop (h - i + 1) := by
    obtain ⟨g1, g2⟩ := List.getElem?_eq_some_iff.1 hy
    rw [← g2, ← List.drop_eq_getElem_cons g1, List.take_append_drop]
   have l1 : (Bm.take (h - i)).length = h - i := by simp; omega
   have l2 : (Bm.drop (h - i + 1)).length = Bm.length - (h - i + 1) := by simp
   revert eB l1 l2
   generalize Bm.take (h - i) = C1
   generalize Bm.drop (h - i + 1) = C2
   intro eB l1 l2
   subst eB
   have hsB : Srtd (B1 ++ ((C1 ++ y :: C2) ++ B2)) := by rw [e]; exact hB
   simp at e hl h2 h4 hsB
   simp only [plain_int]
   rw [op_ia_bs (by omega) (by omega)]; simp only [bnd_some', pl_eref, plain_int, plain_enc]
   rw [op_ld_at (P := p ++ (x :: (B1 ++ C1))) (f := y) (R := C2 ++ (B2 ++ q)) (by rw [← e]; simp) (by simp; omega)]; simp only [bnd_some', plain_int, plain_enc]
   rw [op_ia_bs (by omega) (by omega)]; simp only [bnd_some', pl_eref, plain_int, plain_enc]
   rw [op_ld_at (P := p) (f := x) (R := B ++ q) (by simp) (by omega)]; simp only [bnd_some', plain_int, plain_enc]
   refine Thr.call (thr43 y x (hf y (by rw [← e]; simp))) ?_
   simp
   refine brD (fun hc => ?_) (fun hc => ?_)
   ·rw [op_add (by omega) (by omega)]; simp only [bnd_some', plain_int]
    have := ih (h + 1) j (B1 ++ (C1 ++ [y])) C2 B2 (by simpa using e) (by omega) (by simp; omega) (by omega) (fun z hz => ?_) k2
    ·simpa using this
    ·have hs2 : Srtd ((B1 ++ (C1 ++ [y])) ++ (C2 ++ B2)) := by simpa using hsB
     obtain ⟨s1, -, -⟩ := hs2.of_append
     have hs3 : Srtd ((B1 ++ C1) ++ [y]) := by simpa using s1
     obtain ⟨-, -, s3⟩ := hs3.of_append
     have hz' : z ∈ (B1 ++ C1) ∨ z = y := by simp at hz ⊢; rcases hz with h | h | h <;> simp [h]
     rcases hz' with hz | rfl
     ·exact cmpF_le_lt (s3 z hz y (by simp)) hc
     ·exact hc
   ·have := ih i h B1 C1 (y :: (C2 ++ B2)) (by simpa using e) (by omega) h3 (by omega) k1 (fun z hz => ?_)
    ·simpa using this
    ·have hs2 : Srtd ((B1 ++ C1) ++ (y :: (C2 ++ B2))) := by simpa using hsB
     obtain ⟨-, s2, -⟩ := hs2.of_append
     obtain ⟨s3, -⟩ := List.pairwise_cons.1 s2
     rcases List.mem_cons.1 hz with rfl | hz
     ·omega
     ·apply Classical.byContradiction
      intro hn
      have := cmpF_le_lt (s3 z hz) (show cmpF z x < 0 by omega)
      omega
end Go.Pl.L
end
section
open Go Go.Pl Go.Proofs Go.Pl.Z
namespace Go.Pl.L
set_option maxRecDepth 10000
theorem x238b (p A q : List Fm) (y : Fm) (N a m b : Nat) (hN : N = (p ++ (A ++ ([y] ++ q))).length) (ha : a = p.length) (hm : m = p.length + A.length) (hb : b = p.length + A.length + 1) (hbig : N ≤ 16777216) (hA1 : A.length ≠ 1) (hA : Srtd A) (hf : Fine y) :
  TurnsR Tryz.prog 238 (fun i k => [.bs i k 4 0 N, .int .i64 a, .int .i64 m, .int .i64 b, .fn 43 []]) (p ++ (A ++ ([y] ++ q))) (fun l' => ∃ M', StS (A ++ [y]) M' ∧ Srtd M' ∧ l' = p ++ (M' ++ q)) := by
 intro S bi bk hH
 refine u238 _ _ _ _ _ S _ fun hw => ?_
 rw [enter_rws hH]
 have hK := fun l' (h : ∃ M', StS (A ++ [y]) M' ∧ Srtd M' ∧ l' = p ++ (M' ++ q)) => ovr_rws (l' := l') (Q := fun e S' => e = .ret (.tup []) ∧ ∃ l', (∃ M', StS (A ++ [y]) M' ∧ Srtd M' ∧ l' = p ++ (M' ++ q)) ∧ S' = S.rws bi bk l') hw hH (v := .tup []) (fun p => trivial) ⟨rfl, _, h, rfl⟩
 revert hK
 generalize ovr S _ = K
 generalize hS : S.enter = S₀
 intro hK
 clear hH hw hS
 simp only [List.length_append, List.length_singleton] at hN
 unfold s238
 simp [-gjn_eq]
 rw [op_sub (by omega) (by omega)]; simp only [bnd_some', plain_int, op_eql]
 have h1 : ¬ (m : Int) - a = 1 := by omega
 simp only [h1, decide_false, bnd_some', plain_bool]
 refine br (fun h => by cases h) (fun _ => ?_)
 rw [op_sub (by omega) (by omega)]; simp only [bnd_some', plain_int, op_eql]
 have h1 : (b : Int) - m = 1 := by omega
 simp only [h1, decide_true, bnd_some', plain_bool]
 refine br (fun _ => ?_) (fun h => by cases h)
 refine gjn_by (fun J => ∀ (A1 A2 : List Fm), A1 ++ A2 = A → (∀ z ∈ A1, cmpF z y ≤ 0) → (∀ z ∈ A2, cmpF y z < 0) → J (.bs bi bk 4 0 N) (.int .i64 m) (.int .i64 (a + A1.length : Nat)) (S₀.rws bi bk (p ++ (A1 ++ (A2 ++ y :: q))))) ?_ ?_
 ·rintro A1 A2 rfl k1 k2
  simp
  unfold loop3
  intro W hW
  simp only [List.length_append] at hN hb hm
  suffices key : ∀ (t k : Nat) (C1 C2 : List Fm), A2 = C1 ++ C2 → t = C1.length → k = a + A1.length + C1.length → W (.bs bi bk 4 0 N) (.int .i64 (a + A1.length : Nat)) (.int .i64 (k : Nat)) (S₀.rws bi bk (p ++ (A1 ++ (C1 ++ y :: (C2 ++ q))))) by
   have := key A2.length m A2 [] (by simp) rfl (by omega)
   simpa using this
  intro t
  induction t with
  | zero =>
   rintro k C1 C2 rfl h2 h3
   obtain rfl := List.length_eq_zero_iff.1 h2.symm
   refine hW _ _ _ _ ?_
   simp at hK hN hb h3 k2 ⊢
   have : ¬ (a : Int) + A1.length < k := by omega
   simp [this]
   refine hK _ (A1 ++ y :: C2) ?_ ?_ (by simp)
   ·have := (StS.refl A1).append (StS.swap (A := C2) (B := [y]) (by simpa using k2))
    simpa using this
   ·obtain ⟨s1, s2, s3⟩ := hA.of_append
    refine s1.append (List.pairwise_cons.2 ⟨fun z hz => by have := k2 z hz; omega, s2⟩) fun z hz w hw => ?_
    rcases List.mem_cons.1 hw with rfl | hw
    ·exact k1 z hz
    ·exact s3 z hz w (by simpa using hw)
  | succ t ih =>
   rintro k C1 C2 rfl h2 h3
   refine hW _ _ _ _ ?_
   obtain rfl | ⟨C1, z, rfl⟩ := List.eq_nil_or_concat C1
   ·simp at h2
   simp at hN hb h2 h3 hm ⊢
   have : (a : Int) + A1.length < k := by omega
   simp [this]
   rw [op_sub (by omega) (by omega)]; simp only [bnd_some', plain_int]
   rw [op_ia_bs (by omega) (by omega)]; simp only [bnd_some', pl_eref, plain_int, plain_enc]
   rw [op_ld_at (P := p ++ (A1 ++ C1)) (f := z) (R := y :: (C2 ++ q)) (by simp) (by simp; omega)]; simp only [bnd_some', plain_int, plain_enc]
   rw [op_ia_bs (by omega) (by omega)]; simp only [bnd_some', pl_eref, plain_int, plain_enc]
   rw [op_ld_at (P := p ++ (A1 ++ (C1 ++ [z]))) (f := y) (R := C2 ++ q) (by simp) (by simp; omega)]; simp only [bnd_some', plain_int, plain_enc]
   refine eff_st_at (P := p ++ (A1 ++ (C1 ++ [z]))) (x := y) (R := C2 ++ q) (by simp) (by simp; omega) ?_
   rw [op_ia_bs (by omega) (by omega)]; simp only [bnd_some', pl_eref, plain_int, plain_enc]
   refine eff_st_at (P := p ++ (A1 ++ C1)) (x := z) (R := z :: (C2 ++ q)) (by simp) (by simp; omega) ?_
   rw [op_sub (by omega) (by omega)]; simp only [bnd_some', plain_int]
   have := ih (k - 1) C1 (z :: C2) (by simp) (by omega) (by omega)
   rw [show ((k - 1 : Nat) : Int) = k - 1 by omega] at this
   simpa using this
 ·intro J hJ
  unfold loop5
  intro W hW
  suffices key : ∀ (t i j : Nat) (B1 Bm B2 : List Fm), B1 ++ (Bm ++ B2) = A → Bm.length ≤ t → i = a + B1.length → j = i + Bm.length → (∀ z ∈ B1, cmpF z y ≤ 0) → (∀ z ∈ B2, cmpF y z < 0) →
    W (.bs bi bk 4 0 N) (.int .i64 m) (.fn 43 []) (.int .i64 (i : Nat)) (.int .i64 (j : Nat)) (S₀.rws bi bk (p ++ (A ++ y :: q))) by
   exact key A.length a m [] A [] (by simp) (Nat.le_refl _) rfl (by omega) (by simp) (by simp)
  intro t
  have fin : ∀ (i j : Nat) (B1 Bm B2 : List Fm), B1 ++ (Bm ++ B2) = A → Bm.length = 0 → i = a + B1.length → j = i + Bm.length → (∀ z ∈ B1, cmpF z y ≤ 0) → (∀ z ∈ B2, cmpF y z < 0) →
    W (.bs bi bk 4 0 N) (.int .i64 m) (.fn 43 []) (.int .i64 (i : Nat)) (.int .i64 (j : Nat)) (S₀.rws bi bk (p ++ (A ++ y :: q))) := by
   intro i j B1 Bm B2 e h2 h3 h4 k1 k2
   obtain rfl := List.length_eq_zero_iff.1 h2
   refine hW _ _ _ _ _ _ ?_
   have : ¬ (i : Int) < j := by simp at h4; omega
   simp [this]
   have := hJ B1 B2 (by simpa using e) k1 k2
   rw [← e, h3]; simpa using this
  induction t with
  | zero => intro i j B1 Bm B2 e h2; exact fin i j B1 Bm B2 e (by omega)
  | succ t ih =>
   intro i j B1 Bm B2 e h2 h3 h4 k1 k2
   by_cases h0 : Bm.length = 0
   ·exact fin i j B1 Bm B2 e h0 h3 h4 k1 k2
   have hl : B1.length + (Bm.length + B2.length) = A.length := by rw [← e]; simp
   refine hW _ _ _ _ _ _ ?_
   have hlt : (i : Int) < j := by omega
   simp [hlt]
   refine op_half (by omega) (by omega) _ ?_
   generalize hh : (i + j) / 2 = h
   have hi : i ≤ h := by omega
   have hj : h < j := by omega
   obtain ⟨u, hy⟩ : ∃ y, Bm[h - i]? = some y := ⟨Bm[h - i]'(by omega), by simp⟩
   have eB : Bm = Bm.take (h - i) ++ u :: Bm.drop (h - i + 1) := by
    obtain ⟨g1, g2⟩ := List.getElem?_eq_some_iff.1 hy
    rw [← g2, ← List.drop_eq_getElem_cons g1, List.take_append_drop]
   have l1 : (Bm.take (h - i)).length = h - i := by simp; omega
   have l2 : (Bm.drop (h - i + 1)).length = Bm.length - (h - i + 1) := by simp
   revert eB l1 l2
   generalize Bm.take (h - i) = C1
   generalize Bm.drop (h - i + 1) = C2
   intro eB l1 l2
   subst eB
   have hsB : Srtd (B1 ++ ((C1 ++ u :: C2) ++ B2)) := by rw [e]; exact hA
   simp at e hl h2 h4 hsB
   simp only [plain_int]
   rw [op_ia_bs (by omega) (by omega)]; simp only [bnd_some', pl_eref, plain_int, plain_enc]
   rw [op_ld_at (P := p ++ A) (f := y) (R := q) (by simp) (by simp; omega)]; simp only [bnd_some', plain_int, plain_enc]
   rw [op_ia_bs (by omega) (by omega)]; simp only [bnd_some', pl_eref, plain_int, plain_enc]
   rw [op_ld_at (P := p ++ (B1 ++ C1)) (f := u) (R := C2 ++ (B2 ++ y :: q)) (by rw [← e]; simp) (by simp; omega)]; simp only [bnd_some', plain_int, plain_enc]
   refine Thr.call (thr43 y u hf) ?_
   simp
   refine br (fun hc => ?_) (fun hc => ?_)
   ·simp at hc
    rw [op_add (by omega) (by omega)]; simp only [bnd_some', plain_int]
    have := ih (h + 1) j (B1 ++ (C1 ++ [u])) C2 B2 (by simpa using e) (by omega) (by simp; omega) (by omega) (fun z hz => ?_) k2
    ·simpa using this
    ·have hs2 : Srtd ((B1 ++ (C1 ++ [u])) ++ (C2 ++ B2)) := by simpa using hsB
     obtain ⟨s1, -, -⟩ := hs2.of_append
     have hs3 : Srtd ((B1 ++ C1) ++ [u]) := by simpa using s1
     obtain ⟨-, -, s3⟩ := hs3.of_append
     have huy : cmpF u y ≤ 0 := by have := cmpF_flip y u; omega
     have hz' : z ∈ (B1 ++ C1) ∨ z = u := by simp at hz ⊢; rcases hz with h | h | h <;> simp [h]
     rcases hz' with hz | rfl
     ·exact cmpF_trans (s3 z hz u (by simp)) huy
     ·exact huy
   ·simp at hc
    have := ih i h B1 C1 (u :: (C2 ++ B2)) (by simpa using e) (by omega) h3 (by omega) k1 (fun z hz => ?_)
    ·simpa using this
    ·have hs2 : Srtd ((B1 ++ C1) ++ (u :: (C2 ++ B2))) := by simpa using hsB
     obtain ⟨-, s2, -⟩ := hs2.of_append
     obtain ⟨s3, -⟩ := List.pairwise_cons.1 s2
     rcases List.mem_cons.1 hz with rfl | hz
     ·exact hc
     ·exact cmpF_lt_le hc (s3 z hz)
end Go.Pl.L
end
