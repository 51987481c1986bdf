import Derived.Test.YtllbopmdpmjcpaaGreatDoorM11
import Derived.Test.YtllbopmdpmjcpaaGreatDoorM19
import Derived.Test.YtllbopmdpmjcpaaGreatDoorM29
import Derived.Test.YtllbopmdpmjcpaaGreatDoorM33
import Derived.Shelf.SlGeneric
import Derived.Ground.SlgnProg
set_option linter.unusedSimpArgs false
set_option linter.unusedVariables false
set_option linter.unusedSectionVars false
section
open Go Go.Pl Go.Proofs Go.Pl.Z
namespace Go.Pl.L
set_option maxRecDepth 10000
theorem split_of {A B : List Fm} (hA : Srtd A) (hB : Srtd B) {α β : Nat} (h1 : α = 0 ∨ β = B.length ∨ ∃ x y, A[α - 1]? = some x ∧ B[β]? = some y ∧ cmpF x y ≤ 0)
  (h2 : α = A.length ∨ β = 0 ∨ ∃ x y, A[α]? = some x ∧ B[β - 1]? = some y ∧ cmpF y x < 0) :
  (∀ x ∈ A.take α, ∀ y ∈ B.drop β, cmpF x y ≤ 0) ∧ (∀ y ∈ B.take β, ∀ x ∈ A.drop α, cmpF y x < 0) := by
 have tk : ∀ {l : List Fm} {n : Nat} {x : Fm}, x ∈ l.take n → ∃ i, i < n ∧ l[i]? = some x := fun {l n x} h => by
  obtain ⟨i, hi⟩ := List.mem_iff_getElem?.1 h
  rw [List.getElem?_take] at hi
  split at hi
  ·rename_i hlt; exact ⟨i, hlt, hi⟩
  ·cases hi
 have dr : ∀ {l : List Fm} {n : Nat} {x : Fm}, x ∈ l.drop n → ∃ i, n ≤ i ∧ l[i]? = some x := fun {l n x} h => by
  obtain ⟨i, hi⟩ := List.mem_iff_getElem?.1 h
  rw [List.getElem?_drop] at hi
  exact ⟨n + i, by omega, hi⟩
 constructor
 ·intro x hx y hy
  rcases h1 with rfl | rfl | ⟨x0, y0, g1, g2, g3⟩
  ·simp at hx
  ·simp at hy
  ·obtain ⟨i, i1, i2⟩ := tk hx
   obtain ⟨j, j1, j2⟩ := dr hy
   exact cmpF_trans (srt_get hA i2 g1 (by omega)) (cmpF_trans g3 (srt_get hB g2 j2 j1))
 ·intro y hy x hx
  rcases h2 with rfl | rfl | ⟨x0, y0, g1, g2, g3⟩
  ·simp at hx
  ·simp at hy
  ·obtain ⟨i, i1, i2⟩ := tk hy
   obtain ⟨j, j1, j2⟩ := dr hx
   exact cmpF_lt_le (cmpF_le_lt (srt_get hB i2 g2 (by omega)) g3) (srt_get hA g1 j2 j1)
theorem row_A {p A r : List Fm} {i c : Nat} {x : Fm} (h : A[i]? = some x) (hc : c = p.length + i) : (p ++ (A ++ r))[c]? = some x := by
 have hl := (List.getElem?_eq_some_iff.1 h).1
 rw [List.getElem?_append_right (by omega), List.getElem?_append_left (by omega)]
 rw [show c - p.length = i by omega]; exact h
theorem row_B {p A B r : List Fm} {i c : Nat} {x : Fm} (h : B[i]? = some x) (hc : c = p.length + A.length + i) : (p ++ (A ++ (B ++ r)))[c]? = some x := by
 have := row_A (p := p ++ A) (r := r) h (c := c) (by simp; omega)
 simpa using this
theorem gd_and {p q : Prop} [Decidable p] [Decidable q] {A B : Prop} (h1 : p → q → A) (h2 : ¬ (p ∧ q) → B) :
  gdV (.bool (decide p)) true (brV (bif decide p then V.bool (decide q) else .bool false).plain A B) (brV (bif decide p then V.undef else .bool false).plain A B) := by
 refine gdTD (fun hp => ?_) (fun hp => ?_)
 ·simp only [hp, decide_true, cond_true, plain_bool]
  exact brD (fun hq => h1 hp hq) (fun hq => h2 fun h => hq h.2)
 ·simp only [hp, decide_false, cond_false, plain_bool]
  exact br (fun h => by cases h) (fun _ => h2 fun h => hp h.1)
def Sym238 (p A B q : List Fm) : Prop := ∀ (N a m b : Nat), N = (p ++ (A ++ (B ++ q))).length → a = p.length → m = p.length + A.length → b = p.length + A.length + B.length → N ≤ 16777216 → A ≠ [] → B ≠ [] → Srtd A → Srtd B → (∀ f ∈ A ++ B, Fine f) →
  TurnsR Tryz.prog 238 (fun i k => [.bs i k 4 0 N, .int .i64 a, .int .i64 m, .int .i64 b, .fn 43 []]) (p ++ (A ++ (B ++ q))) (fun l' => ∃ M', StS (A ++ B) M' ∧ Srtd M' ∧ l' = p ++ (M' ++ q))
theorem x238c (p A B q : List Fm) (IH : ∀ p' A' B' q', A'.length + B'.length < A.length + B.length → Sym238 p' A' B' q') (hA1 : A.length ≠ 1) (hB1 : B.length ≠ 1) : Sym238 p A B q := by
 intro N a m b hN ha hm hb hbig hA0 hB0 hA hB hf
 intro S bi bk hH
 refine u238 _ _ _ _ _ S _ fun hw => ?_
 rw [enter_rws hH]
 have hK := fun l' (h : ∃ M', StS (A ++ B) M' ∧ Srtd M' ∧ l' = p ++ (M' ++ q)) => ovr_rws (l' := l') (Q := fun e S' => e = .ret (.tup []) ∧ ∃ l', (∃ M', StS (A ++ B) M' ∧ Srtd M' ∧ l' = p ++ (M' ++ q)) ∧ S' = S.rws bi bk l') hw hH (v := .tup []) (fun p => trivial) ⟨rfl, _, h, rfl⟩
 revert hK
 generalize ovr S _ = K
 generalize hS : S.enter = S₀
 intro hK
 clear hH hw hS
 simp only [List.length_append] at hN
 have hA2 : 2 ≤ A.length := by have := List.length_pos_iff.2 hA0; omega
 have hB2 : 2 ≤ B.length := by have := List.length_pos_iff.2 hB0; omega
 unfold s238
 simp [-gjn_eq]
 rw [op_sub (by omega) (by omega)]; simp only [bnd_some', plain_int, op_eql]
 have h1 : ¬ (m : Int) - a = 1 := by omega
 simp only [h1, decide_false, bnd_some', plain_bool]
 refine br (fun h => by cases h) (fun _ => ?_)
 rw [op_sub (by omega) (by omega)]; simp only [bnd_some', plain_int, op_eql]
 have h1 : ¬ (b : Int) - m = 1 := by omega
 simp only [h1, decide_false, bnd_some', plain_bool]
 refine br (fun h => by cases h) (fun _ => ?_)
 refine op_half (by omega) (by omega) _ ?_
 generalize hmid : (a + b) / 2 = mid
 simp only [plain_int]
 rw [op_add (by omega) (by omega)]; simp only [bnd_some', plain_int]
 have hn : ((mid : Int) + m) = ((mid + m : Nat) : Int) := by omega
 rw [hn]
 generalize hnn : mid + m = n
 refine gjn_by (fun J => ∀ lo hi : Nat, (lo = a ∧ hi = m ∧ m ≤ mid ∨ lo + b = n ∧ hi = mid ∧ mid < m) → J (.bs bi bk 4 0 N) (.int .i64 a) (.int .i64 m) (.int .i64 b) (.fn 43 []) (.int .i64 mid) (.int .i64 n) (.int .i64 lo) (.int .i64 hi) (S₀.rws bi bk (p ++ (A ++ (B ++ q))))) ?_ ?_
 ·intro lo hi hlh
  simp [-gjn_eq]
  rw [op_sub (by omega) (by omega)]; simp only [bnd_some', plain_int]
  refine gjn_by (fun J => ∀ (s : Nat) (A1 A2 B1 B2 : List Fm), A = A1 ++ A2 → B = B1 ++ B2 → s = a + A1.length → mid = s + B1.length → (∀ x ∈ A1, ∀ y ∈ B2, cmpF x y ≤ 0) → (∀ y ∈ B1, ∀ x ∈ A2, cmpF y x < 0) →
   J (.bs bi bk 4 0 N) (.int .i64 a) (.int .i64 m) (.int .i64 b) (.fn 43 []) (.int .i64 mid) (.int .i64 n) (.int .i64 s) (S₀.rws bi bk (p ++ (A ++ (B ++ q))))) ?_ ?_
  ·rintro s A1 A2 B1 B2 rfl rfl hs hmb hAB hBA
   simp only [List.length_append] at *
   simp [-gjn_eq]
   rw [op_sub (by omega) (by omega)]; simp only [bnd_some', plain_int]
   have hee : ((n : Int) - s) = ((m + B1.length : Nat) : Int) := by omega
   rw [hee]
   generalize hed : m + B1.length = e
   refine gjn_by (fun J => J (.bs bi bk 4 0 N) (.int .i64 a) (.int .i64 b) (.fn 43 []) (.int .i64 mid) (.int .i64 s) (.int .i64 e) (S₀.rws bi bk (p ++ (A1 ++ (B1 ++ (A2 ++ (B2 ++ q))))))) ?_ ?_
   ·simp [-gjn_eq]
    refine gjn_by (fun J => ∀ M1, StS (A1 ++ B1) M1 → Srtd M1 → J (.bs bi bk 4 0 N) (.int .i64 b) (.fn 43 []) (.int .i64 mid) (.int .i64 e) (S₀.rws bi bk (p ++ (M1 ++ (A2 ++ (B2 ++ q)))))) ?_ ?_
    ·intro M1 s1 t1
     have hM1 : M1.length = A1.length + B1.length := by rw [← s1.length]; simp
     obtain ⟨a1, a2, a3⟩ := hA.of_append
     obtain ⟨b1, b2, b3⟩ := hB.of_append
     simp
     refine gd_and (fun c1 c2 => ?_) (fun c => ?_)
     ·have hA2n : A2 ≠ [] := by rintro rfl; simp at *; omega
      have hB2n : B2 ≠ [] := by rintro rfl; simp at *; omega
      have := IH (p ++ M1) A2 B2 q (by omega) N mid e b (by simp; omega) (by simp; omega) (by simp; omega) (by simp; omega) hbig hA2n hB2n a2 b2 (fun f hh => hf f (by simp at hh ⊢; rcases hh with h | h <;> simp [h]))
      rw [show p ++ (M1 ++ (A2 ++ (B2 ++ q))) = (p ++ M1) ++ (A2 ++ (B2 ++ q)) by simp]
      refine TurnsR.call this rfl ?_
      rintro l' ⟨M2, s2, t2, rfl⟩
      obtain ⟨k1, k2⟩ := merge_step hA hB hAB hBA s1 t1 s2 t2
      exact hK _ ⟨_, k1, k2, by simp⟩
     ·have : A2 = [] ∨ B2 = [] := by
       rcases A2 with _ | ⟨x, A2⟩
       ·exact .inl rfl
       ·rcases B2 with _ | ⟨y, B2⟩
        ·exact .inr rfl
        ·simp at *; omega
      obtain ⟨k1, k2⟩ := merge_step hA hB hAB hBA s1 t1 (.refl (A2 ++ B2)) (by
       rcases this with rfl | rfl
       ·simpa using b2
       ·simpa using a2)
      exact hK _ ⟨_, k1, k2, by simp⟩
    ·intro J hJ
     obtain ⟨a1, a2, a3⟩ := hA.of_append
     obtain ⟨b1, b2, b3⟩ := hB.of_append
     simp
     refine gd_and (fun c1 c2 => ?_) (fun c => ?_)
     ·have hA2n : A1 ≠ [] := by rintro rfl; simp at *; omega
      have hB2n : B1 ≠ [] := by rintro rfl; simp at *; omega
      have := IH p A1 B1 (A2 ++ (B2 ++ q)) (by omega) N a s mid (by simp; omega) ha (by omega) (by omega) hbig hA2n hB2n a1 b1 (fun f hh => hf f (by simp at hh ⊢; rcases hh with h | h <;> simp [h]))
      refine TurnsR.call this rfl ?_
      rintro l' ⟨M1, s1, t1, rfl⟩
      exact hJ M1 s1 t1
     ·have : A1 = [] ∨ B1 = [] := by
       rcases A1 with _ | ⟨x, A1⟩
       ·exact .inl rfl
       ·rcases B1 with _ | ⟨y, B1⟩
        ·exact .inr rfl
        ·simp at *; omega
      have := hJ (A1 ++ B1) (.refl _) (by
       rcases this with rfl | rfl
       ·simpa using b1
       ·simpa using a1)
      simpa using this
   ·intro J hJ
    simp
    refine gd_and (fun c1 c2 => ?_) (fun c => ?_)
    ·have hA2n : A2 ≠ [] := by rintro rfl; simp at *; omega
     have hB2n : B1 ≠ [] := by rintro rfl; simp at *; omega
     have := x251 (p ++ A1) A2 B1 (B2 ++ q) N s m e (by simp; omega) (by simp; omega) (by simp; omega) (by simp; omega) hA2n hB2n (.fn 43 []) hbig
     rw [show p ++ (A1 ++ (A2 ++ (B1 ++ (B2 ++ q)))) = (p ++ A1) ++ (A2 ++ (B1 ++ (B2 ++ q))) by simp]
     refine Turns.call this rfl ?_
     simpa using hJ
    ·have : A2 = [] ∨ B1 = [] := by
      rcases A2 with _ | ⟨x, A2⟩
      ·exact .inl rfl
      ·rcases B1 with _ | ⟨y, B1⟩
       ·exact .inr rfl
       ·simp at *; omega
     rcases this with rfl | rfl
     ·simpa using hJ
     ·simpa using hJ
  ·intro J hJ
   unfold loop10
   intro W hW
   have hlo : a ≤ lo ∧ lo ≤ mid ∧ mid ≤ lo + B.length ∧ lo ≤ m := by omega
   have hhi : hi ≤ m ∧ hi ≤ mid ∧ lo ≤ hi := by omega
   suffices key : ∀ (t s r : Nat), r - s ≤ t → lo ≤ s → s ≤ r → r ≤ hi → (s = lo ∨ ∃ x y, A[s - 1 - a]? = some x ∧ B[mid - s]? = some y ∧ cmpF x y ≤ 0) → (r = hi ∨ ∃ x y, A[r - a]? = some x ∧ B[mid - 1 - r]? = some y ∧ cmpF y x < 0) →
     W (.bs bi bk 4 0 N) (.int .i64 a) (.int .i64 m) (.int .i64 b) (.fn 43 []) (.int .i64 mid) (.int .i64 n) (.int .i64 s) (.int .i64 r) (.int .i64 ((n : Int) - 1)) (S₀.rws bi bk (p ++ (A ++ (B ++ q)))) by
    exact key (hi - lo) lo hi (Nat.le_refl _) (Nat.le_refl _) hhi.2.2 (Nat.le_refl _) (.inl rfl) (.inl rfl)
   intro t
   have fin : ∀ (s r : Nat), r = s → lo ≤ s → s ≤ r → r ≤ hi → (s = lo ∨ ∃ x y, A[s - 1 - a]? = some x ∧ B[mid - s]? = some y ∧ cmpF x y ≤ 0) → (r = hi ∨ ∃ x y, A[r - a]? = some x ∧ B[mid - 1 - r]? = some y ∧ cmpF y x < 0) →
     W (.bs bi bk 4 0 N) (.int .i64 a) (.int .i64 m) (.int .i64 b) (.fn 43 []) (.int .i64 mid) (.int .i64 n) (.int .i64 s) (.int .i64 r) (.int .i64 ((n : Int) - 1)) (S₀.rws bi bk (p ++ (A ++ (B ++ q)))) := by
    rintro s r rfl g1 g2 g3 i1 i2
    refine hW _ _ _ _ _ _ _ _ _ _ _ ?_
    simp
    obtain ⟨k1, k2⟩ := split_of hA hB (α := r - a) (β := mid - r) (by
     rcases i1 with rfl | ⟨x, y, e1, e2, e3⟩
     ·rcases hlh with ⟨h1, h2, h3⟩ | ⟨h1, h2, h3⟩
      ·left; omega
      ·right; left; omega
     ·right; right
      exact ⟨x, y, by rw [← e1]; congr 1; omega, e2, e3⟩) (by
     rcases i2 with rfl | ⟨x, y, e1, e2, e3⟩
     ·rcases hlh with ⟨h1, h2, h3⟩ | ⟨h1, h2, h3⟩
      ·left; omega
      ·right; left; omega
     ·right; right
      exact ⟨x, y, e1, by rw [← e2]; congr 1; omega, e3⟩)
    exact hJ r _ _ _ _ (List.take_append_drop (r - a) A).symm (List.take_append_drop (mid - r) B).symm (by simp; omega) (by simp; omega) k1 k2
   induction t with
   | zero => intro s r g0 g1 g2; exact fin s r (by omega) g1 g2
   | succ t ih =>
    intro s r g0 g1 g2 g3 i1 i2
    by_cases he : r = s
    ·exact fin s r he g1 g2 g3 i1 i2
    refine hW _ _ _ _ _ _ _ _ _ _ _ ?_
    have hlt : (s : Int) < r := by omega
    simp [hlt]
    refine op_half (by omega) (by omega) _ ?_
    generalize hh : (s + r) / 2 = c
    have hc1 : s ≤ c := by omega
    have hc2 : c < r := by omega
    have hq : c + 1 ≤ r ∧ r - (c + 1) ≤ t ∧ c - s ≤ t ∧ lo ≤ c + 1 ∧ c ≤ hi ∧ (c + 1 - 1 - a = c - a) ∧ (mid - (c + 1) = mid - 1 - c) := by clear i1 i2; omega
    obtain ⟨q1, q2, q3, q4, q5, q6, q7⟩ := hq
    obtain ⟨x, hx⟩ : ∃ x, A[c - a]? = some x := ⟨A[c - a]'(by omega), by simp⟩
    obtain ⟨y, hy⟩ : ∃ y, B[mid - 1 - c]? = some y := ⟨B[mid - 1 - c]'(by omega), by simp⟩
    simp only [plain_int]
    rw [op_sub (by omega) (by omega)]; simp only [bnd_some', plain_int]
    rw [op_ia_bs (by omega) (by omega)]; simp only [bnd_some', pl_eref, plain_int, plain_enc]
    rw [op_ld_rws (f := y) (by omega) (row_B hy (by omega))]; simp only [bnd_some', plain_int, plain_enc]
    rw [op_ia_bs (by omega) (by omega)]; simp only [bnd_some', pl_eref, plain_int, plain_enc]
    rw [op_ld_rws (f := x) (by omega) (row_A hx (by omega))]; simp only [bnd_some', plain_int, plain_enc]
    refine Thr.call (thr43 y x (hf y (List.mem_append_right _ (List.mem_of_getElem? hy)))) ?_
    simp
    refine br (fun hc => ?_) (fun hc => ?_)
    ·simp at hc
     rw [op_add (by omega) (by omega)]; simp only [bnd_some', plain_int]
     have := ih (c + 1) r q2 q4 q1 g3 (.inr ⟨x, y, by rw [q6]; exact hx, by rw [q7]; exact hy, by have := cmpF_flip y x; omega⟩) i2
     simpa using this
    ·simp at hc
     exact ih s c q3 g1 hc1 q5 i1 (.inr ⟨x, y, hx, hy, hc⟩)
 ·intro J hJ
  simp
  refine brD (fun h => ?_) (fun h => ?_)
  ·rw [op_sub (by omega) (by omega)]; simp only [bnd_some', plain_int]
   have := hJ (n - b) mid (.inr ⟨by omega, rfl, by omega⟩)
   rw [show ((n - b : Nat) : Int) = n - b by omega] at this
   exact this
  ·exact hJ a m (.inl ⟨rfl, rfl, by omega⟩)
theorem x238 : ∀ (t : Nat) (p A B q : List Fm), A.length + B.length ≤ t → Sym238 p A B q := by
 intro t
 induction t with
 | zero =>
  intro p A B q h N a m b _ _ _ _ _ hA
  exact (hA (List.length_eq_zero_iff.1 (by omega))).elim
 | succ t ih =>
  intro p A B q h
  by_cases hA1 : A.length = 1
  ·obtain ⟨x, rfl⟩ := List.length_eq_one_iff.1 hA1
   intro N a m b hN ha hm hb hbig hA0 hB0 hA hB hf
   exact x238a p B q x N a m b hN ha (by simpa using hm) (by simpa using hb) hbig hB (fun f hh => hf f (by simp [hh]))
  ·by_cases hB1 : B.length = 1
   ·obtain ⟨y, rfl⟩ := List.length_eq_one_iff.1 hB1
    intro N a m b hN ha hm hb hbig hA0 hB0 hA hB hf
    exact x238b p A q y N a m b hN ha hm (by simpa using hb) hbig hA1 hA (hf y (by simp))
   ·exact x238c p A B q (fun p' A' B' q' hlt => ih p' A' B' q' (by omega)) hA1 hB1
end Go.Pl.L
end
section
open Go Go.Pl Go.Proofs Go.Pl.Z
namespace Go.Pl.L
set_option maxRecDepth 10000
theorem op_mul {S : St} {a b : Int} (h : -9223372036854775808 ≤ a * b) (h' : a * b ≤ 9223372036854775807) : opV S (.bin .mul (.k (.int .i64 a)) (.k (.int .i64 b))) = some (.int .i64 (a * b)) := by
 rw [op_bin]; simp only [binV, V.int?, binI, if_true]
 have : IntKind.i64.wrap (a * b) = a * b := by
  generalize a * b = c at h h'
  simp [IntKind.wrap, IntKind.bits, IntKind.signed]
  omega
 simp [Ops.std, binOp, Op.intArith, this, absS]
 rfl
def Blk (k : Nat) (Ls : List (List Fm)) : Prop := ∀ L ∈ Ls, L.length = k ∧ Srtd L
theorem Blk.length {k : Nat} : ∀ {Ls : List (List Fm)}, Blk k Ls → Ls.flatten.length = Ls.length * k
 | [], _ => by simp
 | L :: Ls, h => by
  have h1 := (h L (by simp)).1
  have h2 := Blk.length (Ls := Ls) fun M hM => h M (by simp [hM])
  simp only [List.flatten_cons, List.length_append, h1, h2, List.length_cons, Nat.add_mul]; omega
theorem Blk.snoc {k : Nat} {Ls : List (List Fm)} (h : Blk k Ls) {L : List Fm} (h1 : L.length = k) (h2 : Srtd L) : Blk k (Ls ++ [L]) := fun M hM => by
 rcases List.mem_append.1 hM with hM | hM
 ·exact h M hM
 ·simp at hM; subst hM; exact ⟨h1, h2⟩
theorem Blk.small {k : Nat} {Ls : List (List Fm)} {T : List Fm} (h : Blk k Ls) (hT : Srtd T) (hTk : T.length < k) (hl : (Ls.flatten ++ T).length ≤ k) : Srtd (Ls.flatten ++ T) := by
 have := h.length
 cases Ls with
 | nil => simpa using hT
 | cons L Ls =>
  have h1 := h L (by simp)
  cases Ls with
  | nil =>
   simp at hl
   have : T = [] := List.length_eq_zero_iff.1 (by omega)
   subst this
   simpa using h1.2
  | cons L2 Ls =>
   have h2 := h L2 (by simp)
   simp at hl
   omega
theorem x228 (l : List Fm) (N : Nat) (hN : N = l.length) (hbig : N ≤ 16777216) (hf : ∀ f ∈ l, Fine f) :
  TurnsR Tryz.prog 228 (fun i k => [.bs i k 4 0 N, .int .i64 N, .fn 43 []]) l (fun l' => StS l l' ∧ Srtd l') := by
 intro S bi bk hH
 refine u228 _ _ _ S _ fun hw => ?_
 rw [enter_rws hH]
 have hK := fun l' (h : StS l l' ∧ Srtd l') => ovr_rws (l' := l') (Q := fun e S' => e = .ret (.tup []) ∧ ∃ l', (StS l l' ∧ Srtd l') ∧ S' = S.rws bi bk l') hw hH (v := .tup []) (fun p => trivial) ⟨rfl, _, h, rfl⟩
 revert hK
 generalize ovr S _ = K
 generalize hS : S.enter = S₀
 intro hK
 clear hH hw hS
 unfold s228
 refine gjn_by (fun J => ∀ (a : Nat) (Ls : List (List Fm)) (T : List Fm), StS l (Ls.flatten ++ T) → Blk 20 Ls → T.length < 20 → a = Ls.flatten.length → J (.bs bi bk 4 0 N) (.int .i64 N) (.fn 43 []) (.int .i64 20) (.int .i64 a) (S₀.rws bi bk (Ls.flatten ++ T))) ?_ ?_
 ·intro a Ls T h1 h2 h3 h4
  simp [-gjn_eq]
  have hl := h1.length
  rw [List.length_append] at hl
  have := x237 Ls.flatten T [] N a N (by simp only [List.length_append, List.length_nil]; omega) h4 (by omega) hbig (fun f hh => hf f (h1.mem.2 (by simp [hh])))
  rw [show Ls.flatten ++ T = Ls.flatten ++ (T ++ []) by simp]
  refine TurnsR.call this rfl ?_
  rintro l' ⟨T', s1, t1, rfl⟩
  unfold loop4
  intro W hW
  suffices key : ∀ (t k : Nat) (Ls : List (List Fm)) (T : List Fm), StS l (Ls.flatten ++ T) → Blk k Ls → T.length < k → Srtd T → 1 ≤ k → k ≤ 100000000 → N - k ≤ t → W (.bs bi bk 4 0 N) (.int .i64 N) (.fn 43 []) (.int .i64 k) (S₀.rws bi bk (Ls.flatten ++ T)) by
   have := key N 20 Ls T' (h1.trans ((StS.refl _).append s1)) h2 (by rw [← s1.length]; exact h3) t1 (by omega) (by omega) (by omega)
   simpa using this
  clear this h1 h2 h3 h4 hl s1 t1 T T' Ls a
  intro t
  have fin : ∀ (k : Nat) (Ls : List (List Fm)) (T : List Fm), StS l (Ls.flatten ++ T) → Blk k Ls → T.length < k → Srtd T → N ≤ k → W (.bs bi bk 4 0 N) (.int .i64 N) (.fn 43 []) (.int .i64 k) (S₀.rws bi bk (Ls.flatten ++ T)) := by
   intro k Ls T h1 h2 h3 h4 h5
   refine hW _ _ _ _ _ ?_
   have : ¬ (k : Int) < N := by omega
   simp [-gjn_eq, this]
   exact hK _ ⟨h1, h2.small h4 h3 (by rw [← h1.length, ← hN]; exact h5)⟩
  induction t with
  | zero => intro k Ls T h1 h2 h3 h4 h5 h6 h7; exact fin k Ls T h1 h2 h3 h4 (by omega)
  | succ t ih =>
   intro k Ls T h1 h2 h3 h4 h5 h6 h7
   by_cases hk : N ≤ k
   ·exact fin k Ls T h1 h2 h3 h4 hk
   refine hW _ _ _ _ _ ?_
   have : (k : Int) < N := by omega
   simp [-gjn_eq, this]
   rw [op_mul (by omega) (by omega)]; simp only [bnd_some', plain_int]
   refine gjn_by (fun J => ∀ (a : Nat) (Ms Ls : List (List Fm)) (T : List Fm), StS l (Ms.flatten ++ (Ls.flatten ++ T)) → Blk (k * 2) Ms → Blk k Ls → T.length < k → Srtd T → (Ls.flatten ++ T).length < k * 2 → a = Ms.flatten.length →
    J (.bs bi bk 4 0 N) (.int .i64 N) (.fn 43 []) (.int .i64 k) (.int .i64 a) (S₀.rws bi bk (Ms.flatten ++ (Ls.flatten ++ T)))) ?_ ?_
   ·clear h1 h2 h3 h4 Ls T
    intro a Ms Ls T g1 g2 g3 g4 g5 g6 g7
    have hl := g1.length
    simp only [List.length_append] at hl
    simp [-gjn_eq]
    refine gjn_by (fun J => ∀ T', StS l (Ms.flatten ++ T') → T'.length < k * 2 → Srtd T' → J (.bs bi bk 4 0 N) (.int .i64 N) (.fn 43 []) (.int .i64 k) (S₀.rws bi bk (Ms.flatten ++ T'))) ?_ ?_
    ·intro T' f1 f2 f3
     simp
     rw [op_mul (by omega) (by omega)]; simp only [bnd_some', plain_int]
     have := ih (k * 2) Ms T' f1 g2 f2 f3 (by omega) (by omega) (by omega)
     simpa using this
    ·intro J hJ
     rw [op_add (by omega) (by omega)]; simp only [bnd_some', plain_int, op_lss]
     refine brD (fun hlt => ?_) (fun hge => ?_)
     ·have gl := g3.length
      cases Ls with
      | nil => simp only [List.flatten_nil, List.length_nil] at hl; omega
      | cons L Ls =>
       cases Ls with
       | cons L2 Ls =>
        have e1 := (g3 L (by simp)).1
        have e2 := (g3 L2 (by simp)).1
        simp only [List.flatten_cons, List.length_append] at g6
        omega
       | nil =>
        obtain ⟨e1, e2⟩ := g3 L (by simp)
        simp only [List.flatten_cons, List.flatten_nil, List.append_nil] at *
        have hLn : L ≠ [] := by rintro rfl; simp at e1; omega
        have hTn : T ≠ [] := by rintro rfl; simp only [List.length_nil] at hl; omega
        have := x238 _ Ms.flatten L T [] (Nat.le_refl _) N a (a + k) N (by simp only [List.length_append, List.length_nil]; omega) g7 (by omega) (by omega) hbig hLn hTn e2 g5 (fun f hh => hf f (g1.mem.2 (List.mem_append_right _ hh)))
        rw [show Ms.flatten ++ (L ++ T) = Ms.flatten ++ (L ++ (T ++ [])) by simp, show ((a : Int) + k) = ((a + k : Nat) : Int) by omega]
        refine TurnsR.call this rfl ?_
        rintro l' ⟨M', s1, t1, rfl⟩
        have := hJ M' (g1.trans ((StS.refl _).append s1)) (by rw [← s1.length]; simpa using g6) t1
        simpa using this
     ·have := hJ (Ls.flatten ++ T) g1 g6 (g3.small g5 g4 (by rw [List.length_append]; omega))
      exact this
   ·intro J hJ
    unfold loop6
    intro W2 hW2
    suffices key2 : ∀ (t a : Nat) (Ms Ls : List (List Fm)), Ls.length ≤ t → StS l (Ms.flatten ++ (Ls.flatten ++ T)) → Blk (k * 2) Ms → Blk k Ls → a = Ms.flatten.length →
      W2 (.bs bi bk 4 0 N) (.int .i64 N) (.fn 43 []) (.int .i64 k) (.int .i64 a) (.int .i64 (a + 2 * k : Nat)) (S₀.rws bi bk (Ms.flatten ++ (Ls.flatten ++ T))) by
     have := key2 Ls.length 0 [] Ls (Nat.le_refl _) h1 (fun _ h => by cases h) h2 rfl
     simpa using this
    clear h1 h2 Ls
    intro t2
    have fin2 : ∀ (a : Nat) (Ms Ls : List (List Fm)), ¬ (a + 2 * k ≤ N) → StS l (Ms.flatten ++ (Ls.flatten ++ T)) → Blk (k * 2) Ms → Blk k Ls → a = Ms.flatten.length →
      W2 (.bs bi bk 4 0 N) (.int .i64 N) (.fn 43 []) (.int .i64 k) (.int .i64 a) (.int .i64 (a + 2 * k : Nat)) (S₀.rws bi bk (Ms.flatten ++ (Ls.flatten ++ T))) := by
     intro a Ms Ls hle g1 g2 g3 g4
     have hl := g1.length
     simp only [List.length_append] at hl
     refine hW2 _ _ _ _ _ _ _ ?_
     have : ¬ ((a : Int) + 2 * k ≤ N) := by omega
     simp [this]
     exact hJ a Ms Ls T g1 g2 g3 h3 h4 (by rw [List.length_append]; omega) g4
    induction t2 with
    | zero =>
     intro a Ms Ls g0 g1 g2 g3 g4
     obtain rfl := List.length_eq_zero_iff.1 (Nat.le_zero.1 g0)
     have hl := g1.length
     simp only [List.length_append, List.flatten_nil, List.length_nil] at hl
     exact fin2 a Ms [] (by omega) g1 g2 g3 g4
    | succ t2 ih2 =>
     intro a Ms Ls g0 g1 g2 g3 g4
     by_cases hle : a + 2 * k ≤ N
     ·have hl := g1.length
      simp only [List.length_append] at hl
      rcases Ls with _ | ⟨L1, _ | ⟨L2, Ls⟩⟩
      ·simp only [List.flatten_nil, List.length_nil] at hl; omega
      ·have e1 := (g3 L1 (by simp)).1
       simp only [List.flatten_cons, List.flatten_nil, List.append_nil] at hl; omega
      ·obtain ⟨e1, f1⟩ := g3 L1 (by simp)
       obtain ⟨e2, f2⟩ := g3 L2 (by simp)
       simp only [List.flatten_cons, List.length_append] at hl
       refine hW2 _ _ _ _ _ _ _ ?_
       have : ((a : Int) + 2 * k ≤ N) := by omega
       simp [this]
       rw [op_add (by omega) (by omega)]; simp only [bnd_some', plain_int]
       have hLn : L1 ≠ [] := by rintro rfl; simp at e1; omega
       have hTn : L2 ≠ [] := by rintro rfl; simp at e2; omega
       have := x238 _ Ms.flatten L1 L2 (Ls.flatten ++ T) (Nat.le_refl _) N a (a + k) (a + 2 * k) (by simp only [List.length_append]; omega) g4 (by omega) (by omega) hbig hLn hTn f1 f2 (fun f hh => hf f (g1.mem.2 (by
        simp only [List.mem_append, List.flatten_cons] at hh ⊢
        rcases hh with h | h <;> simp [h])))
       rw [show ((a : Int) + k) = ((a + k : Nat) : Int) by omega, show ((a : Int) + 2 * k) = ((a + 2 * k : Nat) : Int) by omega]
       refine TurnsR.call this rfl ?_
       rintro l' ⟨M', s1, t1, rfl⟩
       rw [op_mul (by omega) (by omega)]; simp only [bnd_some', plain_int]
       rw [op_add (by omega) (by omega)]; simp only [bnd_some', plain_int]
       have := ih2 (a + 2 * k) (Ms ++ [M']) Ls (by simp at g0; omega) (g1.trans (by
        have := (StS.refl Ms.flatten).append (s1.append (.refl (Ls.flatten ++ T)))
        simpa using this)) (g2.snoc (by rw [← s1.length, List.length_append]; omega) t1) (fun L hL => g3 L (by simp [hL])) (by
        rw [List.flatten_append]; simp only [List.length_append, List.flatten_cons, List.flatten_nil, List.length_nil, ← s1.length]; omega)
       simpa using this
     ·exact fin2 a Ms Ls hle g1 g2 g3 g4
 ·intro J hJ
  simp
  unfold loop6
  intro W hW
  suffices key : ∀ (t a : Nat) (Ls : List (List Fm)) (T : List Fm), StS l (Ls.flatten ++ T) → Blk 20 Ls → T.length ≤ t → a = Ls.flatten.length → W (.bs bi bk 4 0 N) (.int .i64 N) (.fn 43 []) (.int .i64 20) (.int .i64 a) (.int .i64 (a + 20 : Nat)) (S₀.rws bi bk (Ls.flatten ++ T)) by
   exact key l.length 0 [] l (.refl _) (fun _ h => by cases h) (Nat.le_refl _) rfl
  intro t
  induction t with
  | zero =>
   intro a Ls T h1 h2 h3 h4
   refine hW _ _ _ _ _ _ _ ?_
   have hl := h1.length
   rw [List.length_append] at hl
   have : ¬ ((a : Int) + 20 ≤ N) := by omega
   simp [this]
   exact hJ a Ls T h1 h2 (by omega) h4
  | succ t ih =>
   intro a Ls T h1 h2 h3 h4
   refine hW _ _ _ _ _ _ _ ?_
   have hl := h1.length
   rw [List.length_append] at hl
   simp
   refine brD (fun hle => ?_) (fun hgt => ?_)
   ·have e := List.take_append_drop 20 T
    have l1 : (T.take 20).length = 20 := by simp; omega
    have l2 : (T.drop 20).length = T.length - 20 := by simp
    revert e l1 l2
    generalize T.take 20 = T1
    generalize T.drop 20 = T2
    rintro rfl l1 l2
    simp only [List.length_append] at *
    have := x237 Ls.flatten T1 T2 N a (a + 20) (by simp only [List.length_append]; omega) h4 (by omega) hbig (fun f hh => hf f (h1.mem.2 (by simp [hh])))
    rw [show ((a : Int) + 20) = ((a + 20 : Nat) : Int) by omega]
    refine TurnsR.call this rfl ?_
    rintro l' ⟨T1', s1, t1, rfl⟩
    rw [op_add (by omega) (by omega)]; simp only [bnd_some', plain_int]
    have := ih (a + 20) (Ls ++ [T1']) T2 (h1.trans (by have := (StS.refl Ls.flatten).append (s1.append (.refl T2)); simpa using this)) (h2.snoc (by rw [← s1.length]; exact l1) t1) (by omega) (by rw [List.flatten_append]; simp only [List.length_append, List.flatten_cons, List.flatten_nil, List.length_nil, ← s1.length]; omega)
    simpa using this
   ·exact hJ a Ls T h1 h2 (by omega) h4
end Go.Pl.L
end
section
open Go Go.Pl Go.Proofs Go.Pl.Z
namespace Go.Pl
section
variable {S : St} {i k : Nat} {l l' : List Fm}
theorem op_ia_bsO {S : St} {sz : Nat} {off ln j : Int} (h0 : 0 ≤ j) (h1 : j < ln) : opV S (.ia sz (.k (.bs i k sz off ln)) (.k (.int .i64 j))) = some (.eref i k sz (off + j)) := by
 simp [opV, M.val, X.ev, V.int?, S.hO, Ops.std, h0, h1]
theorem op_slc_bsL {S : St} {ln lo : Int} (h0 : 0 ≤ lo) (h1 : lo ≤ ln) : opV S (.slc 4 (.k (.bs i k 4 0 ln)) (some (.k (.int .i64 lo))) none none) = some (.bs i k 4 lo (ln - lo)) := by
 simp [opV, M.val, X.ev, optInt, V.int?, S.hO, Ops.std, h0, h1]
theorem op_slc_bsH {S : St} {ln hi : Int} (h0 : 0 ≤ hi) (h1 : hi ≤ ln) : opV S (.slc 4 (.k (.bs i k 4 0 ln)) none (some (.k (.int .i64 hi))) none) = some (.bs i k 4 0 hi) := by
 simp [opV, M.val, X.ev, optInt, V.int?, S.hO, Ops.std, h0, h1]
def zeroFm : Fm := .mk 0 0 [] true []
theorem eff_clr_rws {P R : List Fm} {off ln : Int} {K : V → St → Prop} (hl : l = P ++ R) (h0 : off = (P.length : Int)) (h1 : ln = (R.length : Int)) (h : K .any (S.rws i k (P ++ List.replicate R.length zeroFm))) :
  effA (S.rws i k l) (.clr 4 (.agg [(.int .i64 0), (.int .i64 0), (.str []), (.sl true 4 [])]) (.k (.bs i k 4 off ln))) K := by
 subst hl h0 h1
 have hO : (S.rws i k (P ++ R)).O = Ops.std := S.hO
 have e2 : clrL (encs (P ++ R)) P.length R.length (.agg [(.int .i64 0), (.int .i64 0), (.str []), (.sl true 4 [])]) = encs (P ++ List.replicate R.length zeroFm) := by
  have hz : enc zeroFm = .agg [(.int .i64 0), (.int .i64 0), (.str []), (.sl true 4 [])] := rfl
  have ht : (encs (P ++ R)).take P.length = encs P := by rw [encs_take]; simp
  have hd : (encs (P ++ R)).drop (P.length + R.length) = [] := by apply List.drop_eq_nil_of_le; simp
  unfold clrL
  rw [ht, hd, ← hz, encs_append, List.append_nil]
  congr 1
  rw [encs_map, List.map_replicate]
 have e3 : (S.rws i k (P ++ R)).set i k (.rows 4 (encs (P ++ List.replicate R.length zeroFm))) = S.rws i k (P ++ List.replicate R.length zeroFm) := rws_rws
 have c1 : (V.agg [(.int .i64 0), (.int .i64 0), (.str []), (.sl true 4 [])]).data = true := rfl
 have c2 : (V.agg [(.int .i64 0), (.int .i64 0), (.str []), (.sl true 4 [])]).cells.length = 4 := rfl
 have c3 : (0 : Int) ≤ (P.length : Int) ∧ (0 : Int) ≤ (R.length : Int) ∧ (P.length : Int) + (R.length : Int) ≤ ((encs (P ++ R)).length : Int) := ⟨by omega, by omega, by simp⟩
 simp only [effA, M.eff, X.ev, clrE, rws_H, c1, c2, c3, and_self, if_true, Int.toNat_natCast, e2, e3]
 exact h
theorem ovr_rwsB {Q : AE → St → Prop} (hw : WFS S) (h : S.H i k = some (.rows 4 (encs l))) {sz : Nat} {off ln : Int} (hq : Q (.ret (.bs i k sz off ln)) (S.rws i k l')) : ovr S Q (.ret (.bs i k sz off ln)) (S.enter.rws i k l') := by
 refine ⟨S.rws i k l', ?_, ⟨Nat.le_refl _, rfl, Nat.le_refl _, fun a b x hx => ?_⟩, hq⟩
 ·exact (hw _ _ _ h).1
 have hok : (S.rws i k l').ok = S.ok := rfl
 rw [hok]
 refine ⟨hx, ?_⟩
 simp only [St.rws, St.set, upd2_eq S.hO] at hx
 split at hx
 ·rename_i e
  obtain ⟨rfl, rfl⟩ := e
  cases hx
  refine ⟨(hw _ _ _ h).1, ?_⟩
  simp only [V.refsB]
  exact encs_refsB _ _
 ·exact hw _ _ _ hx
end
theorem thr20 (f g : Fm) (h : Fine f) : Thr Tryz.prog 20 [enc f, enc g] (.ret (.bool (decide (cmpF f g = 0)))) := Thr.ofPure fun S => p20 f g h S
end Go.Pl
namespace Go.Pl.Z
def compG (u : Fm) : List Fm → List Fm
 | [] => []
 | v :: r => if cmpF v u = 0 then compG v r else v :: compG v r
def compF : List Fm → List Fm
 | [] => []
 | x :: r => x :: compG x r
end Go.Pl.Z
namespace Go.Pl.L
set_option maxRecDepth 10000
theorem x216 (l : List Fm) (N : Nat) (hN : N = l.length) (hbig : N ≤ 16777216) (hf : ∀ f ∈ l, Fine f) :
  TurnsR Tryz.prog 216 (fun i k => [.bs i k 4 0 N, .fn 43 []]) l (fun l' => StS l l' ∧ Srtd l') := by
 intro S bi bk hH
 refine u216 _ _ S _ fun hw => ?_
 rw [enter_rws hH]
 have hK := fun l' (h : StS l l' ∧ Srtd l') => ovr_rws (l' := l') (Q := fun e S' => e = .ret (.tup []) ∧ ∃ l', (StS l l' ∧ Srtd l') ∧ S' = S.rws bi bk l') hw hH (v := .tup []) (fun p => trivial) ⟨rfl, _, h, rfl⟩
 revert hK
 generalize ovr S _ = K
 intro hK
 unfold s216
 simp
 refine TurnsR.call (x228 l N hN hbig hf) rfl ?_
 exact hK
theorem x217 (l : List Fm) (N : Nat) (hN : N = l.length) (hbig : N ≤ 16777216) (hf : ∀ f ∈ l, Fine f) (S : St) (bi bk : Nat) (hH : S.H bi bk = some (.rows 4 (encs l))) :
  ACalls Tryz.prog 217 [.bs bi bk 4 0 N, .fn 20 []] S fun e S' => ∃ (Q R : List Fm), e = .ret (.bs bi bk 4 0 Q.length) ∧ S' = S.rws bi bk (Q ++ R) ∧ Q = compF l := by
 refine u217 _ _ S _ fun hw => ?_
 rw [enter_rws hH]
 have hK := fun (Q R : List Fm) (h : Q = compF l) => ovr_rwsB (l' := Q ++ R) (sz := 4) (off := 0) (ln := Q.length) (Q := fun e S' => ∃ (Q R : List Fm), e = .ret (.bs bi bk 4 0 Q.length) ∧ S' = S.rws bi bk (Q ++ R) ∧ Q = compF l) hw hH ⟨Q, R, rfl, rfl, h⟩
 revert hK
 generalize ovr S _ = K
 generalize hS : S.enter = S₀
 intro hK
 clear hH hw hS
 unfold s217
 simp [-gjn_eq]
 refine brD (fun h => ?_) (fun h => ?_)
 ·have : l = compF l := by
   rcases l with _ | ⟨x, _ | ⟨y, l⟩⟩
   ·rfl
   ·rfl
   ·simp at hN; omega
  have := hK l [] this
  rw [hN]; simpa using this
 refine gjn_by (fun J => l = compF l → J (.bs bi bk 4 0 N) (S₀.rws bi bk l)) (fun h => by have := hK l [] h; rw [hN]; simpa using this) ?_
 intro J hJ
 unfold loop3
 intro W hW
 suffices key : ∀ (t k : Nat) (P R : List Fm) (u : Fm), l = P ++ u :: R → k = P.length + 1 → R.length ≤ t → compF l = P ++ u :: compG u R → W (.bs bi bk 4 0 N) (.fn 20 []) (.int .i64 k) (S₀.rws bi bk l) by
  rcases l with _ | ⟨x, l⟩
  ·simp at hN; omega
  ·exact key l.length 1 [] l x rfl rfl (Nat.le_refl _) rfl
 intro t
 induction t with
 | zero =>
  intro k P R u h1 h2 h3 h4
  obtain rfl := List.length_eq_zero_iff.1 (Nat.le_zero.1 h3)
  refine hW _ _ _ _ ?_
  have hl : N = P.length + 1 := by rw [hN, h1]; simp
  have : ¬ (k : Int) < N := by omega
  simp [this]
  exact hJ (by rw [h4, h1]; rfl)
 | succ t ih =>
  intro k P R u h1 h2 h3 h4
  refine hW _ _ _ _ ?_
  rcases R with _ | ⟨v, R⟩
  ·have hl : N = P.length + 1 := by rw [hN, h1]; simp
   have : ¬ (k : Int) < N := by omega
   simp [this]
   exact hJ (by rw [h4, h1]; rfl)
  have hl : N = P.length + (R.length + 2) := by rw [hN, h1]; simp
  have : (k : Int) < N := by omega
  simp [-gjn_eq, this]
  rw [op_ia_bs (by omega) (by omega)]; simp only [bnd_some', pl_eref, plain_int, plain_enc]
  rw [op_ld_at (P := P ++ [u]) (f := v) (R := R) (by rw [h1]; simp) (by simp; omega)]; simp only [bnd_some', plain_int, plain_enc]
  rw [op_sub (by omega) (by omega)]; simp only [bnd_some', plain_int]
  rw [op_ia_bs (by omega) (by omega)]; simp only [bnd_some', pl_eref, plain_int, plain_enc]
  rw [op_ld_at (P := P) (f := u) (R := v :: R) h1 (by omega)]; simp only [bnd_some', plain_int, plain_enc]
  refine Thr.call (thr20 v u (hf v (by rw [h1]; simp))) ?_
  simp only [plain_bool]
  refine brD (fun hc => ?_) (fun hc => ?_)
  ·rw [op_slc_bsL (by omega) (by omega)]; simp only [bnd_some', pl_bs]
   refine gjn_by (fun J => ∀ (Q R : List Fm), (Q ++ R).length = N → Q = compF l → J (.bs bi bk 4 0 N) (.int .i64 Q.length) (S₀.rws bi bk (Q ++ R))) ?_ ?_
   ·intro Q R g1 g2
    rw [List.length_append] at g1
    simp only [pl_bs, plain_int]
    rw [op_slc_bsL (by omega) (by omega)]; simp only [bnd_some', pl_bs]
    refine eff_clr_rws (P := Q) (R := R) rfl rfl (by omega) ?_
    rw [op_slc_bsH (by omega) (by omega)]; simp only [bnd_some', pl_bs]
    exact hK Q _ g2
   ·intro J hJ
    unfold loop5
    intro W2 hW2
    suffices key2 : ∀ (t j c : Nat) (Q X R2 : List Fm) (w : Fm), 1 ≤ j → R2.length ≤ t → c = Q.length → Q.length + X.length + 1 = k + j → (Q ++ (X ++ w :: R2)).length = N → compF l = Q ++ compG w R2 → (∀ f ∈ R2, Fine f) →
      W2 (.bs bi bk 4 0 N) (.fn 20 []) (.int .i64 c) (.bs bi bk 4 k (N - k)) (.int .i64 j) (S₀.rws bi bk (Q ++ (X ++ w :: R2))) by
     have := key2 R.length 1 k (P ++ [u]) [] R v (Nat.le_refl _) (Nat.le_refl _) (by simp; omega) (by simp; omega) (by rw [hN, h1]; simp) (by rw [h4]; simp [compG, hc]) (fun f h => hf f (by rw [h1]; simp [h]))
     rw [h1]; simpa using this
    intro t2
    have fin2 : ∀ (j c : Nat) (Q X : List Fm) (w : Fm), c = Q.length → Q.length + X.length + 1 = k + j → (Q ++ (X ++ [w])).length = N → compF l = Q →
      W2 (.bs bi bk 4 0 N) (.fn 20 []) (.int .i64 c) (.bs bi bk 4 k (N - k)) (.int .i64 j) (S₀.rws bi bk (Q ++ (X ++ [w]))) := by
     intro j c Q X w g1 g2 g3 g4
     refine hW2 _ _ _ _ _ _ ?_
     have g5 := g3
     simp at g5
     have : ¬ (j : Int) < (N : Int) - k := by omega
     simp [-gjn_eq, this]
     subst g1
     exact hJ Q (X ++ [w]) g3 g4.symm
    induction t2 with
    | zero =>
     intro j c Q X R2 w gj g0 g1 g2 g3 g4 g5
     obtain rfl := List.length_eq_zero_iff.1 (Nat.le_zero.1 g0)
     exact fin2 j c Q X w g1 g2 g3 (by simpa [compG] using g4)
    | succ t2 ih2 =>
     intro j c Q X R2 w gj g0 g1 g2 g3 g4 g5
     rcases R2 with _ | ⟨z, R3⟩
     ·exact fin2 j c Q X w g1 g2 g3 (by simpa [compG] using g4)
     refine hW2 _ _ _ _ _ _ ?_
     have g6 := g3
     simp at g6 g0
     have : (j : Int) < (N : Int) - k := by omega
     simp [-gjn_eq, this]
     refine gjn_by (fun J => ∀ (c : Nat) (Q X : List Fm), c = Q.length → Q.length + X.length = k + j → (Q ++ (X ++ z :: R3)).length = N → compF l = Q ++ compG z R3 → J (.bs bi bk 4 0 N) (.fn 20 []) (.int .i64 c) (.bs bi bk 4 k (N - k)) (.int .i64 j) (S₀.rws bi bk (Q ++ (X ++ z :: R3)))) ?_ ?_
     ·intro c Q X f1 f2 f3 f4
      simp only [plain_int]
      rw [op_add (by omega) (by omega)]; simp only [bnd_some', plain_int]
      have := ih2 (j + 1) c Q X R3 z (by omega) (by omega) f1 (by omega) f3 f4 (fun f h => g5 f (by simp [h]))
      simpa using this
     ·intro J2 hJ2
      rw [op_ia_bsO (by omega) (by omega)]; simp only [bnd_some', pl_eref, plain_int, plain_enc]
      rw [op_ld_at (P := Q ++ (X ++ [w])) (f := z) (R := R3) (by simp) (by simp; omega)]; simp only [bnd_some', plain_int, plain_enc]
      rw [op_sub (by omega) (by omega)]; simp only [bnd_some', plain_int]
      rw [op_ia_bsO (by omega) (by omega)]; simp only [bnd_some', pl_eref, plain_int, plain_enc]
      rw [op_ld_at (P := Q ++ X) (f := w) (R := z :: R3) (by simp) (by simp; omega)]; simp only [bnd_some', plain_int, plain_enc]
      refine Thr.call (thr20 z w (g5 z (by simp))) ?_
      simp only [plain_bool, op_not, bnd_some']
      refine br (fun hne => ?_) (fun heq => ?_)
      ·simp at hne
       rw [op_ia_bsO (by omega) (by omega)]; simp only [bnd_some', pl_eref, plain_int, plain_enc]
       rw [op_ld_at (P := Q ++ (X ++ [w])) (f := z) (R := R3) (by simp) (by simp; omega)]; simp only [bnd_some', plain_int, plain_enc]
       rw [op_ia_bs (by omega) (by omega)]; simp only [bnd_some', pl_eref, plain_int, plain_enc]
       obtain ⟨x, X1, hX⟩ : ∃ x X1, X ++ [w] = x :: X1 := by cases X with
        | nil => exact ⟨w, [], rfl⟩
        | cons x X => exact ⟨x, X ++ [w], rfl⟩
       have hX1 : X.length = X1.length := by have := congrArg List.length hX; simp at this; exact this
       have e1 : Q ++ (X ++ w :: z :: R3) = Q ++ (x :: (X1 ++ z :: R3)) := by
        have : X ++ w :: z :: R3 = (X ++ [w]) ++ z :: R3 := by simp
        rw [this, hX]; rfl
       rw [e1]
       refine eff_st_at (P := Q) (x := x) (R := X1 ++ z :: R3) rfl (by omega) ?_
       rw [op_add (by omega) (by omega)]; simp only [bnd_some', plain_int]
       have := hJ2 (c + 1) (Q ++ [z]) X1 (by simp; omega) (by simp; omega) (by simp; omega) (by rw [g4]; simp [compG, hne])
       simpa using this
      ·simp at heq
       have := hJ2 c Q (X ++ [w]) g1 (by simp; omega) (by simp; omega) (by rw [g4]; simp [compG, heq])
       simpa using this
  ·rw [op_add (by omega) (by omega)]; simp only [bnd_some', plain_int]
   have := ih (k + 1) (P ++ [u]) R v (by rw [h1]; simp) (by simp; omega) (by simp at h3; omega) (by rw [h4]; simp [compG, hc])
   simpa using this
end Go.Pl.L
end
section
open Go Go.Pl Go.Proofs Go.Shelf
namespace Go.Proofs
set_option maxRecDepth 100000
def Tryz.lCl_ren : Go.Shelf.Ren := ⟨fun | 41 => 46 | n => n, fun | 22 => 22 | 23 => 24 | 4 => 4 | n => n, fun | n => n⟩
theorem Tryz.lCl : Go.Proofs.SlLaysE0.n41 Tryz.prog Tryz.lCl_ren := {
 mixed := by kernel_rfl,
 f41 := ⟨Tryz.f46.name, by decide, Tryz.func46.trans (congrArg some (by kernel_rfl))⟩,
 t4 := Tryz.underlying4,
 a4 := Tryz.isAgg4,
 z4 := Tryz.sizeOf4,
 v4 := Tryz.zeroValue4,
 t22 := Tryz.underlying22,
 a22 := Tryz.isAgg22,
 z22 := Tryz.sizeOf22,
 v22 := Tryz.zeroValue22 }
end Go.Proofs
namespace Go.Pl.Z
set_option maxRecDepth 100000
end Go.Pl.Z
namespace Go.Pl.Z
set_option maxRecDepth 100000
noncomputable def tiF : TypeInfo := (Tryz.prog.info? 24).getD default
theorem tiF_eq : Tryz.prog.info? 24 = some tiF := by kernel_rfl
theorem p46_nil (S : St) : Pl.Pure Tryz.prog 46 [.sl true 4 []] S (.sl true 4 []) := cClone_nil (P := Tryz.prog) Tryz.lCl (by kernel_rfl) 4 S
theorem k46 (l : List Fm) (hl : l.length ≤ 16777216) (S : St) :
  ACalls Tryz.prog 46 [.sl false 4 (encs l)] S fun e S' => e = .ret (.bs S.n 0 4 0 (encs l).length) ∧ S' = S.one (.rows 4 (encs l)) := by
 refine cClone (P := Tryz.prog) Tryz.lCl (by kernel_rfl) tiF (.agg #[.int .i64 0, .int .i64 0, .string ⟨#[]⟩, .slice none 0 0]) 4 56 tiF_eq (by kernel_rfl) (by kernel_rfl) (by kernel_rfl) (by kernel_rfl) (by omega) (fun w => ?_) (encs l) (fun x hx => ?_) ?_ ?_ S
 ·kernel_rfl
 ·simp only [encs_map, List.mem_map] at hx
  obtain ⟨f, -, rfl⟩ := hx
  exact ⟨enc_data f, enc_cells_length f⟩
 ·simp [encs_length, maxLen]; omega
 ·simp [encs_length]; omega
end Go.Pl.Z
end
section
open Go Go.Pl Go.Proofs Go.Pl.Z
namespace Go.Pl.L
set_option maxRecDepth 10000
theorem x237_nil : Thr Tryz.prog 237 [.sl true 4 [], .int .i64 0, .int .i64 0, .fn 43 []] (.ret (.tup [])) := by
 refine t237 _ _ _ _ _ (fun p => trivial) fun S => ?_
 unfold s237
 simp
 rw [op_add (by omega) (by omega)]; simp only [bnd_some', plain_int]
 unfold loop5
 intro W hW
 refine hW _ _ _ _ _ _ ?_
 simp [Own.refl]
theorem x228_nil : Thr Tryz.prog 228 [.sl true 4 [], .int .i64 0, .fn 43 []] (.ret (.tup [])) := by
 refine t228 _ _ _ _ fun S => ?_
 unfold s228
 simp
 unfold loop6
 intro W hW
 refine hW _ _ _ _ _ _ _ ?_
 simp
 refine Thr.call x237_nil ?_
 unfold loop4
 intro W hW
 refine hW _ _ _ _ _ ?_
 simp
theorem x216_nil : Thr Tryz.prog 216 [.sl true 4 [], .fn 43 []] (.ret (.tup [])) := by
 refine t216 _ _ _ fun S => ?_
 unfold s216
 simp
 refine Thr.call x228_nil ?_; simp
theorem x217_nil : Thr Tryz.prog 217 [.sl true 4 [], .fn 20 []] (.ret (.sl true 4 [])) := by
 refine t217 _ _ _ (fun p => trivial) fun S => ?_
 unfold s217
 simp [Own.refl]
theorem one_H {S : St} {x : V} : (S.one x).H S.n 0 = some x := by simp [St.one, upd2_eq S.hO]
theorem x181 (l : List Fm) (hl : l.length ≤ 16777216) (hf : ∀ f ∈ l, Fine f) : Thr Tryz.prog 181 [.sl false 4 (encs l)] (.ret (.sl false 4 (encs (compF (sortF l))))) := by
 intro S
 refine u181 _ S _ fun hw => ?_
 unfold s181
 simp
 refine (k46 l hl S.enter).mono ?_
 rintro e S1 ⟨rfl, rfl⟩
 have hn : S.enter.n = S.n + 1 := rfl
 simp only [callE, pl_bs, encs_length]
 refine (x216 l l.length rfl hl hf (S.enter.one (.rows 4 (encs l))) S.enter.n 0 one_H).mono ?_
 rintro e S2 ⟨rfl, l', ⟨h1, h2⟩, rfl⟩
 simp only [callE]
 rw [h1.length]
 refine (x217 l' l'.length rfl (by rw [← h1.length]; exact hl) (fun f h => hf f (h1.mem.2 h)) ((S.enter.one (.rows 4 (encs l))).rws S.enter.n 0 l') S.enter.n 0 rws_H).mono ?_
 rintro e S3 ⟨Q, R, rfl, rfl, hQ⟩
 simp only [callE, rws_rws]
 have hQs : Q = compF (sortF l) := by rw [hQ, sorted_sortF h1 h2]
 have hbut : ∀ i k, S.ok i k = true → butB S.enter.n 0 i k = true := fun i k h => by
  refine butB_of fun e => ?_
  have := ((ok_iff S i k).1 h).1
  simp only [St.enter] at e
  omega
 have hother : ∀ i k, butB S.enter.n 0 i k = true → ((S.enter.one (.rows 4 (encs l))).rws S.enter.n 0 (Q ++ R)).H i k = S.H i k := fun i k h => by
  have hne := butB_ne h
  simp only [St.rws, St.set, St.one, upd2_eq S.enter.hO]
  rw [if_neg hne, if_neg hne]; rfl
 refine ⟨encs (Q ++ R), rws_H, by simp only [rws_b, St.one, St.enter]; omega, encs_refsB _ _, fun i k y hy hb => ?_, ?_⟩
 ·rw [hother i k hb] at hy
  exact refsB_mono hbut y (hw i k y hy).2
 ·have hv : V.frz S.enter.n 0 4 (encs (Q ++ R)) (.bs S.enter.n 0 4 0 Q.length) = .sl false 4 (encs Q) := by
   have c : (0 : Int).toNat + ((Q.length : Nat) : Int).toNat ≤ (encs (Q ++ R)).length := by simp
   simp only [V.frz, and_self, if_true, c]
   have : ((encs (Q ++ R)).drop (0 : Int).toNat).take ((Q.length : Nat) : Int).toNat = encs Q := by rw [show (0 : Int).toNat = 0 from rfl, List.drop_zero, Int.toNat_natCast, encs_take]; simp
   rw [this]
  show ovr S _ (.ret (V.frz S.enter.n 0 4 (encs (Q ++ R)) (.bs S.enter.n 0 4 0 Q.length))) _
  rw [hv, hQs]
  refine ⟨S, encs_refsB _ _, ⟨Nat.le_refl _, rfl, Nat.le_refl _, fun i k x hx => ⟨?_, hw i k x hx⟩⟩, rfl, rfl⟩
  have hb := hbut i k (hw i k x hx).1
  simp only [St.del, hb, cond_true]
  rw [← hQs, hother i k hb]; exact hx
theorem x181n : Thr Tryz.prog 181 [.sl true 4 []] (.ret (.sl true 4 [])) := by
 intro S
 refine u181 _ S _ fun hw => ?_
 unfold s181
 simp
 refine Thr.call (Thr.ofPure fun S => p46_nil S) ?_
 simp
 refine Thr.call x216_nil ?_
 refine Thr.call x217_nil ?_
 refine ⟨S, trivial, ⟨Nat.le_refl _, rfl, Nat.le_refl _, fun i k x hx => ⟨hx, hw i k x hx⟩⟩, rfl, rfl⟩
theorem y181 (nl : Bool) (l : List Fm) (hnl : nl = true → l = []) (hl : l.length ≤ 16777216) (hf : ∀ f ∈ l, Fine f) : Thr Tryz.prog 181 [.sl nl 4 (encs l)] (.ret (.sl nl 4 (encs (compF (sortF l))))) := by
 cases nl with
 | true => rw [hnl rfl]; exact x181n
 | false => exact x181 l hl hf
end Go.Pl.L
end
