/- plinthref16.Cond, and measure.Cond. -/
import Derived.Test.YtllbopmdpmjcpaaGreatDoorZFn10
import Derived.Test.YtllbopmdpmjcpaaGreatDoorPlLoop
set_option linter.unusedSimpArgs false
set_option linter.unusedVariables false
set_option linter.unusedSectionVars false
open Go Go.Pl Go.Proofs
namespace Go.Pl.Z
set_option maxRecDepth 100000

/-- What both come to. -/
def condAllV (T Os Ns : List Fm) : V := if T.length = Os.length then condV T Os Ns else .tup [fmV 0 0 [] true [], .int .i64 1]

theorem condAllV_shape (T Os Ns : List Fm) : ∃ k nl xs e, condAllV T Os Ns = .tup [fmV k 0 [] nl xs, .int .i64 e] ∧ ∀ p, V.refsBs p xs := by
  unfold condAllV
  split
  · unfold condV
    split
    · rename_i hall
      have hs : ∀ j, j < min Os.length Ns.length → (posOf T Os Ns j).isSome = true := by
        intro j hj
        simp only [List.all_eq_true, List.mem_range] at hall
        exact hall j hj
      split
      · split
        · exact ⟨3, false, _, 0, rfl, fun p => ⟨by simp only [wordV, V.refsB, V.refsBs, and_self], trivial⟩⟩
        · refine ⟨3, false, _, 0, rfl, fun p => ⟨by simp only [wordV, V.refsB, V.refsBs, and_self], refsBs_append (outL_refs T Os Ns _ (fun j hj => hs j (by omega)) p) ⟨callV_refs (fun p => eqL_refs Os Ns _ p) p, trivial⟩⟩⟩
      · exact ⟨3, false, _, 0, rfl, fun p => ⟨by simp only [wordV, V.refsB, V.refsBs, and_self], outL_refs T Os Ns _ (fun j hj => hs j (by omega)) p⟩⟩
    · exact ⟨0, true, [], 8, rfl, fun p => trivial⟩
  · exact ⟨0, true, [], 1, rfl, fun p => trivial⟩

theorem condAllV_refs (T Os Ns : List Fm) (p : Nat → Nat → Bool) : (condAllV T Os Ns).refsB p := by
  obtain ⟨k, nl, xs, e, h, hr⟩ := condAllV_shape T Os Ns
  rw [h]
  simp only [V.refsB, V.refsBs, fmV, hr p, and_self]

theorem w11 (P : Program) (nt no nn : Bool) (T Os Ns : List Fm) (h22 : T.length = Os.length → ∀ S, Pl.Pure P 22 [.sl nt 4 (encs T), .sl no 4 (encs Os), .sl nn 4 (encs Ns)] S (condV T Os Ns)) :
    Walks P F11 [.sl nt 4 (encs T), .sl no 4 (encs Os), .sl nn 4 (encs Ns)] (condAllV T Os Ns) := by
  intro H n b c O hO hw
  obtain ⟨k, nl, xs, e, hsh, hr⟩ := condAllV_shape T Os Ns
  have hu : condAllV T Os Ns = if T.length = Os.length then condV T Os Ns else .tup [fmV 0 0 [] true [], .int .i64 1] := rfl
  generalize condAllV T Os Ns = v at hsh hu ⊢
  have lT : O.len (encs T) = (T.length : Int) := by rw [w_len hO, encs_length]
  have lO : O.len (encs Os) = (Os.length : Int) := by rw [w_len hO, encs_length]
  obtain ⟨LT, hLT⟩ : ∃ L : Int, L = T.length := ⟨_, rfl⟩
  obtain ⟨LO, hLO⟩ : ∃ L : Int, L = Os.length := ⟨_, rfl⟩
  rw [← hLT] at lT; rw [← hLO] at lO
  by_cases h : T.length = Os.length
  · rw [if_pos h] at hu
    have h22' := h22 h
    rw [← hu, hsh] at h22'
    have e1 : O.ieq LT LO = true := w_ieq_t hO (by omega)
    rw [hsh]
    clear hu
    generalize encs T = xT at lT h22' ⊢
    generalize encs Os = xO at lO h22' ⊢
    generalize encs Ns = xN at h22' ⊢
    (try cbv; repeat (simp (disch := first | assumption | omega | decide | exact byEq (enc_data _) | exact byEq (enc_cells_length _) | (refine byEq ?_; with_unfolding_all rfl)) only [w_same hO, lT, lO, e1]; try cbv))
    refine Pure.go (h22' _) ?_
    (try cbv; repeat (simp (disch := first | assumption | omega | decide | exact byEq (enc_data _) | exact byEq (enc_cells_length _) | (refine byEq ?_; with_unfolding_all rfl)) only [w_same hO]; try cbv))
    (intro i k x hx; have hne := WFS.ne hw i k x hx; first | exact hx | (simp (disch := assumption) only [w_upd2_ne hO]; exact hx))
  · rw [if_neg h] at hu
    have e1 : O.ieq LT LO = false := w_ieq_f hO (by omega)
    rw [hu]
    clear hu hsh
    generalize encs T = xT at lT ⊢
    generalize encs Os = xO at lO ⊢
    generalize encs Ns = xN
    (try cbv; repeat (simp (disch := first | assumption | omega | decide | exact byEq (enc_data _) | exact byEq (enc_cells_length _) | (refine byEq ?_; with_unfolding_all rfl)) only [w_same hO, lT, lO, e1]; try cbv))
    (intro i k x hx; have hne := WFS.ne hw i k x hx; first | exact hx | (simp (disch := assumption) only [w_upd2_ne hO]; exact hx))

set_option maxHeartbeats 1000000 in
theorem w12 (P : Program) (nt no nn : Bool) (T Os Ns : List Fm) (hO1 : Os.length ≤ 100000000) (hN1 : Ns.length ≤ 100000000)
    (h23 : ∀ t a b : Fm, ∀ S, Pl.Pure P 23 [enc t, enc a, enc b] S (pairV (fmV 0 0 [] true []) (posV t.kind t.text (headF t) (enc a) (enc b)))) (h24 : Makes P 24) :
    Walks P F12 [.sl nt 4 (encs T), .sl no 4 (encs Os), .sl nn 4 (encs Ns)] (condAllV T Os Ns) := by
  intro H n b c O hO hw
  by_cases hT : T.length = Os.length
  case neg =>
    have hu : condAllV T Os Ns = .tup [fmV 0 0 [] true [], .int .i64 1] := by unfold condAllV; rw [if_neg hT]
    rw [hu]
    have lT : O.len (encs T) = (T.length : Int) := by rw [w_len hO, encs_length]
    have lO : O.len (encs Os) = (Os.length : Int) := by rw [w_len hO, encs_length]
    obtain ⟨LT, hLT⟩ : ∃ L : Int, L = T.length := ⟨_, rfl⟩
    obtain ⟨LO, hLO⟩ : ∃ L : Int, L = Os.length := ⟨_, rfl⟩
    rw [← hLT] at lT; rw [← hLO] at lO
    have e1 : O.ieq LT LO = false := w_ieq_f hO (by omega)
    generalize encs T = xT at lT ⊢
    generalize encs Os = xO at lO ⊢
    generalize encs Ns = xN
    (try cbv; repeat (simp (disch := first | assumption | omega | decide | exact byEq (enc_data _) | exact byEq (enc_cells_length _) | (refine byEq ?_; with_unfolding_all rfl)) only [w_same hO, lT, lO, e1]; try cbv))
    (intro i k x hx; have hne := WFS.ne hw i k x hx; first | exact hx | (simp (disch := assumption) only [w_upd2_ne hO]; exact hx))
  have hu : condAllV T Os Ns = condV T Os Ns := by unfold condAllV; rw [if_pos hT]
  rw [hu]
  generalize hv : condV T Os Ns = v
  obtain ⟨LO, hLO⟩ : ∃ L : Int, L = Os.length := ⟨_, rfl⟩
  obtain ⟨LN, hLN⟩ : ∃ L : Int, L = Ns.length := ⟨_, rfl⟩
  have lT : O.len (encs T) = LO := by rw [w_len hO, encs_length, hT, hLO]
  have lO : O.len (encs Os) = LO := by rw [w_len hO, encs_length, hLO]
  have lN : O.len (encs Ns) = LN := by rw [w_len hO, encs_length, hLN]
  have gT : ∀ (i : Nat) (j : Int), j = i → i < T.length → O.get (encs T) j = some (enc (T.getD i dF)) := fun i j hj hi => w_get hO (by omega) (by subst hj; simp [encs_get, hi])
  have gO : ∀ (i : Nat) (j : Int), j = i → i < Os.length → O.get (encs Os) j = some (enc (Os.getD i dF)) := fun i j hj hi => w_get hO (by omega) (by subst hj; simp [encs_get, hi])
  have gN : ∀ (i : Nat) (j : Int), j = i → i < Ns.length → O.get (encs Ns) j = some (enc (Ns.getD i dF)) := fun i j hj hi => w_get hO (by omega) (by subst hj; simp [encs_get, hi])
  have rT := fun p => encs_refsB p T
  have rO := fun p => encs_refsB p Os
  have rN := fun p => encs_refsB p Ns
  generalize encs T = xT at lT gT rT ⊢
  generalize encs Os = xO at lO gO rO ⊢
  generalize encs Ns = xN at lN gN rN ⊢
  have hself : O.ieq LO LO = true := w_ieq_t hO rfl
  (try cbv; repeat (simp (disch := first | assumption | omega | decide | exact byEq (enc_data _) | exact byEq (enc_cells_length _) | (refine byEq ?_; with_unfolding_all rfl)) only [w_same hO, lT, lO, lN, hself]; try cbv))
  have hz : ∀ p, (fmV 0 0 [] true []).refsB p := fmV_refs (xs := []) fun p => trivial
  refine AW_loopT (A := Nat × Int) (fun a => [(0, .sl nt 4 xT), (1, .sl no 4 xO), (2, .sl nn 4 xN), (6, .ref n 0 0), (8, grV (outL T Os Ns a.1)), (9, grV (eqL Os Ns a.1)), (10, .int .i64 a.2)]) (fun _ => frameS H n O hO [fmV 0 0 [] true []])
    (fun a => a.2 = a.1 ∧ a.1 ≤ min Os.length Ns.length ∧ ∀ j', j' < a.1 → (posOf T Os Ns j').isSome = true) (fun a => min Os.length Ns.length - a.1) (0, 0) ⟨rfl, Nat.zero_le _, fun j' h => absurd h (Nat.not_lt_zero _)⟩
    (Drops.tab hw (Nat.le_refl _) [fmV 0 0 [] true []] (fun _ _ _ => rfl) ⟨hz _, trivial⟩ (by
      refine ⟨.inl rfl, by simp only [V.refsB]; exact rT _, .inl rfl, by simp only [V.refsB]; exact rO _, .inl rfl, by simp only [V.refsB]; exact rN _, .inl rfl, ?_, .inl rfl, ?_, .inl rfl, ?_, .inl rfl, ?_, trivial⟩
      · simp only [V.refsB, ok_iff]; exact ⟨Nat.lt_succ_self _, fun _ => Nat.lt_succ_self _⟩
      · show (V.sl true 4 []).refsB _
        simp only [V.refsB, V.refsBs]
      · show (V.sl true 4 []).refsB _
        simp only [V.refsB, V.refsBs]
      · simp only [V.refsB])) ?_
  rintro ⟨i, j⟩ ⟨hj, hi, hs⟩ K hK
  simp only at hj hi hs hK
  have rl := outL_refs T Os Ns i hs
  have re := eqL_refs Os Ns i
  have ll := outL_length T Os Ns i
  have ln := eqL_length Os Ns i
  have e8 := eqL_succ Os Ns i
  have e9 := outL_succ T Os Ns i
  have hg : (grV (outL T Os Ns i) = .sl true 4 [] ∧ grV (eqL Os Ns i) = .sl true 4 [] ∧ outL T Os Ns i = [] ∧ eqL Os Ns i = []) ∨ (grV (outL T Os Ns i) = .gr 24 false 4 (outL T Os Ns i) ∧ grV (eqL Os Ns i) = .gr 24 false 4 (eqL Os Ns i) ∧ 0 < i) := by
    by_cases hi0 : i = 0
    · subst hi0; exact .inl ⟨rfl, rfl, rfl, rfl⟩
    · exact .inr ⟨grV_ne (fun e => by rw [e] at ll; exact hi0 ll.symm), grV_ne (fun e => by rw [e] at ln; exact hi0 ln.symm), by omega⟩
  have hcv : i = min Os.length Ns.length → v = (if Os.length < Ns.length then (if Os.length = 0 then .tup [callV [97, 110, 100] [], .int .i64 0]
      else .tup [callV [111, 114] (outL T Os Ns i ++ [callV [97, 110, 100] (eqL Os Ns i)]), .int .i64 0]) else .tup [callV [111, 114] (outL T Os Ns i), .int .i64 0]) := by
    intro him
    rw [← hv]
    unfold condV
    rw [if_pos (by simp only [List.all_eq_true, List.mem_range]; intro q hq; exact hs q (by omega))]
    by_cases h : Os.length < Ns.length
    · rw [if_pos h, if_pos h, show i = Os.length by omega]
    · rw [if_neg h, if_neg h, show i = Ns.length by omega]
  have hnone : i < min Os.length Ns.length → posOf T Os Ns i = none → v = .tup [fmV 0 0 [] true [], .int .i64 8] := by
    intro hlt hp
    rw [← hv]
    unfold condV
    rw [if_neg]
    simp only [List.all_eq_true, List.mem_range]
    intro hall
    have := hall i hlt
    rw [hp] at this
    cases this
  have next : ∀ (j' : Int) (cs : List V) σ' (Hx : Nat → Nat → Option V) (cx : Nat), (∀ i k, ¬ (i = n ∧ 1 ≤ k) → Hx i k = upd2 O H n 0 (fmV 0 0 [] true []) i k) → j' = (i : Int) + 1 → posOf T Os Ns i = some (listV false cs) → i < min Os.length Ns.length →
      σ' 0 = .sl nt 4 xT → σ' 1 = .sl no 4 xO → σ' 2 = .sl nn 4 xN → σ' 6 = .ref n 0 0 → σ' 8 = grV (outL T Os Ns (i + 1)) → σ' 9 = grV (eqL Os Ns (i + 1)) → σ' 10 = .int .i64 j' →
      K σ' ⟨Hx, n + 1, n, cx, O, hO⟩ := by
    intro j' cs σ' Hx cx hHx hj' hp hlt s0 s1 s2 s6 s8 s9 s10
    have hs1 : ∀ q, q < i + 1 → (posOf T Os Ns q).isSome = true := fun q hq => by
      by_cases hqi : q = i
      · rw [hqi, hp]; rfl
      · exact hs q (by omega)
    refine hK σ' _ (i + 1, j') (by show _ - (i + 1) < _ - i; omega) ⟨by simpa using hj', by show i + 1 ≤ _; omega, hs1⟩ (Drops.tab hw (Nat.le_refl _) [fmV 0 0 [] true []] hHx ⟨hz _, trivial⟩ ?_)
    refine ⟨.inl s0.symm, by simp only [V.refsB]; exact rT _, .inl s1.symm, by simp only [V.refsB]; exact rO _, .inl s2.symm, by simp only [V.refsB]; exact rN _, .inl s6.symm, ?_, .inl s8.symm, ?_, .inl s9.symm, ?_, .inl s10.symm, ?_, trivial⟩
    · simp only [V.refsB, ok_iff]; exact ⟨Nat.lt_succ_self _, fun _ => Nat.lt_succ_self _⟩
    · have h0 : outL T Os Ns (i + 1) ≠ [] := fun e => by have := outL_length T Os Ns (i + 1); rw [e] at this; cases this
      show (grV (outL T Os Ns (i + 1))).refsB _
      rw [grV_ne h0]; simp only [V.refsB]; exact outL_refs T Os Ns _ hs1 _
    · have h0 : eqL Os Ns (i + 1) ≠ [] := fun e => by have := eqL_length Os Ns (i + 1); rw [e] at this; cases this
      show (grV (eqL Os Ns (i + 1))).refsB _
      rw [grV_ne h0]; simp only [V.refsB]; exact eqL_refs Os Ns _ _
    · simp only [V.refsB]
  have g8 : grV (outL T Os Ns (i + 1)) = .gr 24 false 4 (outL T Os Ns i ++ [callV [97, 110, 100] (eqL Os Ns i ++ [(posOf T Os Ns i).getD .nilp])]) := by rw [← e9]; exact grV_ne (by rw [e9]; simp)
  have g9 : grV (eqL Os Ns (i + 1)) = .gr 24 false 4 (eqL Os Ns i ++ [callV [61] [enc (Ns.getD i dF), enc (Os.getD i dF)]]) := by rw [← e8]; exact grV_ne (by rw [e8]; simp)
  rw [g8, g9] at next
  clear g8 g9 e8 e9 hv hs hK
  have gt := gT i j hj
  have ga := gO i j hj
  have gb := gN i j hj
  have c23 := h23 (T.getD i dF) (Os.getD i dF) (Ns.getD i dF)
  change ∀ S, Pl.Pure P 23 _ S (pairV _ (posOf T Os Ns i)) at c23
  have rp : ∀ c, posOf T Os Ns i = some c → (∃ cs, c = listV false cs) ∧ ∀ p, c.refsB p := fun c hp => ⟨posV_shape hp, posV_refs hp (fun p => enc_refsB p _) (fun p => enc_refsB p _)⟩
  obtain ⟨tk, tm, tt, tn, tx, ht⟩ := enc_fmV (T.getD i dF)
  obtain ⟨ak, am, at', an, ax, hA⟩ := enc_fmV (Os.getD i dF)
  obtain ⟨bk, bm, bt, bn, bx, hB⟩ := enc_fmV (Ns.getD i dF)
  have ra : ∀ p, V.refsBs p ax := fun p => by have := enc_refsB p (Os.getD i dF); rw [hA] at this; simpa only [fmV, V.refsB, V.refsBs, true_and, and_true] using this
  have rb : ∀ p, V.refsBs p bx := fun p => by have := enc_refsB p (Ns.getD i dF); rw [hB] at this; simpa only [fmV, V.refsB, V.refsBs, true_and, and_true] using this
  rw [ht] at gt c23
  rw [hA] at ga c23 next
  rw [hB] at gb c23 next
  generalize hp : posOf T Os Ns i = pos at *
  show vc P F12.N n _ _ (tabF [(0, .sl nt 4 xT), (1, .sl no 4 xO), (2, .sl nn 4 xN), (6, .ref n 0 0), (8, grV (outL T Os Ns i)), (9, grV (eqL Os Ns i)), (10, .int .i64 j)]) _
  generalize hLo : outL T Os Ns i = Lo at *
  generalize hLe : eqL Os Ns i = Le at *
  obtain ⟨so, hso⟩ : ∃ f : V → List V, ∀ x, f x = Lo ++ [x] := ⟨fun x => Lo ++ [x], fun _ => rfl⟩
  obtain ⟨se, hse⟩ : ∃ f : V → List V, ∀ x, f x = Le ++ [x] := ⟨fun x => Le ++ [x], fun _ => rfl⟩
  have ao : ∀ x, O.app Lo [x] = so x := fun x => by rw [hso]; subst hO; rfl
  have ae : ∀ x, O.app Le [x] = se x := fun x => by rw [hse]; subst hO; rfl
  have fo : ∀ x, O.fit 56 Lo [x] = true := fun x => w_fit hO (by simp only [List.length_nil, List.length_cons]; omega)
  have fe : ∀ x, O.fit 56 Le [x] = true := fun x => w_fit hO (by simp only [List.length_nil, List.length_cons]; omega)
  have f0 : O.fit 56 [] Le = true := w_fit hO (by simp only [List.length_nil, List.length_cons]; omega)
  obtain ⟨L8, hL8⟩ : ∃ L : Int, L = Lo.length := ⟨_, rfl⟩
  have z8 : O.len Lo = L8 := by rw [w_len hO, hL8]
  have em : O.emp Le = Le.isEmpty := by subst hO; rfl
  simp only [← hso, ← hse] at next hcv
  replace hLO : LO = (Os.length : Int) := hLO
  replace hLN : LN = (Ns.length : Int) := hLN
  have hem : (Le = [] ∧ O.emp Le = true) ∨ (O.emp Le = false) := by
    rw [em]
    cases Le with
    | nil => exact .inl ⟨rfl, rfl⟩
    | cons => exact .inr rfl
  clear hLo hLe em
  by_cases hlt : i < min Os.length Ns.length
  · have e1 : O.ilt j LO = true := w_ilt_t hO (by omega)
    have e2 : O.ilt j LN = true := w_ilt_t hO (by omega)
    have gt := gt (by omega)
    have ga := ga (by omega)
    have gb := gb (by omega)
    clear hcv
    cases pos with
    | none =>
      rw [hnone hlt rfl]
      simp only [pairV] at c23
      clear next hnone hj
      rcases hg with ⟨g8, g9, z1, z2⟩ | ⟨g8, g9, z1⟩
      all_goals
        rw [g8, g9]
        clear g8 g9
        (try cbv; repeat (simp (disch := first | assumption | omega | decide | exact byEq (enc_data _) | exact byEq (enc_cells_length _) | (refine byEq ?_; with_unfolding_all rfl)) only [w_same hO, lO, lN, e1, e2, gt, ga, gb]; try cbv))
        refine ⟨_, c23 _, ?_⟩
        (try cbv; repeat (simp (disch := first | assumption | omega | decide | exact byEq (enc_data _) | exact byEq (enc_cells_length _) | (refine byEq ?_; with_unfolding_all rfl)) only [w_same hO]; try cbv))
        (intro i k x hx; have hne := WFS.ne hw i k x hx; first | exact hx | (simp (disch := assumption) only [w_upd2_ne hO]; exact hx))
    | some c =>
      obtain ⟨⟨cs, rfl⟩, rc⟩ := rp c rfl
      simp only [pairV] at c23
      simp only [Option.getD_some] at next
      clear hnone rp
      obtain ⟨j', hj'⟩ : ∃ j', j' = j + 1 := ⟨_, rfl⟩
      have hadd := w_add hO (a := j) (b := 1) (by omega) (by omega)
      rw [← hj'] at hadd
      have hnx := next j' cs
      clear next
      have hL1 : (se (listV false cs)).length ≤ 1000000000 := by rw [hse]; simp only [List.length_append, List.length_cons, List.length_nil]; omega
      have hR1 : ∀ p, V.refsBs p (se (listV false cs)) := fun p => by rw [hse]; exact refsBs_append (re p) ⟨rc p, trivial⟩
      have z0 : Lo = [] → so = fun x => [x] := fun h => by funext x; rw [hso, h]; rfl
      have y0 : Le = [] → se = fun x => [x] := fun h => by funext x; rw [hse, h]; rfl
      have fin : ∀ σ' Hx cx, (∀ i k, ¬ (i = n ∧ 1 ≤ k) → Hx i k = upd2 O H n 0 (fmV 0 0 [] true []) i k) → σ' 0 = .sl nt 4 xT → σ' 1 = .sl no 4 xO → σ' 2 = .sl nn 4 xN → σ' 6 = .ref n 0 0 →
          σ' 8 = .gr 24 false 4 (so (callV [97, 110, 100] (se (listV false cs)))) → σ' 9 = .gr 24 false 4 (se (callV [61] [fmV bk bm bt bn bx, fmV ak am at' an ax])) → σ' 10 = .int .i64 j' → K σ' ⟨Hx, n + 1, n, cx, O, hO⟩ :=
        fun σ' Hx cx h1 => hnx σ' Hx cx h1 (by omega) rfl hlt
      clear hnx
      rcases hg with ⟨g8, g9, z1, z2⟩ | ⟨g8, g9, z1⟩
      · obtain rfl : so = fun x => [x] := z0 z1
        obtain rfl : se = fun x => [x] := y0 z2
        rw [g8, g9]
        clear g8 g9 z0 y0 hso hse ao ae
        subst z1 z2
        simp only at fin hL1 hR1
        have em : O.emp [] = true := w_emp_n hO
        clear hem
        (try cbv; repeat (simp (disch := first | assumption | omega | decide | exact byEq (enc_data _) | exact byEq (enc_cells_length _) | (refine byEq ?_; with_unfolding_all rfl)) only [w_same hO, lO, lN, e1, e2, gt, ga, gb]; try cbv))
        refine ⟨_, c23 _, ?_⟩
        (try cbv; repeat (simp (disch := first | assumption | omega | decide | exact byEq (enc_data _) | exact byEq (enc_cells_length _) | (refine byEq ?_; with_unfolding_all rfl)) only [w_same hO, w_good0 hO, w_good1 hO, em, f0, w_app_n hO, fe, w_emp_c hO]; try cbv))
        refine ⟨_, h24 _ _ [listV false cs] hL1 hR1 _, ?_⟩
        (try cbv; repeat (simp (disch := first | assumption | omega | decide | exact byEq (enc_data _) | exact byEq (enc_cells_length _) | (refine byEq ?_; with_unfolding_all rfl)) only [w_same hO, w_good1 hO, fo, w_app_n hO, w_emp_c hO, lO, lN, gt, ga, gb, w_good2 hO]; try cbv))
        refine ⟨_, h24 _ _ _ (by simp) (by (intro p; simp only [callV, listV, wordV, fmV, V.refsB, V.refsBs, and_self, ra, rb])) _, ?_⟩
        (try cbv; repeat (simp (disch := first | assumption | omega | decide | exact byEq (enc_data _) | exact byEq (enc_cells_length _) | (refine byEq ?_; with_unfolding_all rfl)) only [w_same hO, w_good1 hO, fe, w_app_n hO, w_emp_c hO, hadd]; try cbv))
        exact fin _ _ _ (by intro i k hne; simp (disch := first | exact hne | decide) only [upd2_above hO]; rfl) rfl rfl rfl rfl rfl rfl rfl
      · rw [g8, g9]
        clear g8 g9
        rcases hem with ⟨_, em⟩ | em
        all_goals
          (try cbv; repeat (simp (disch := first | assumption | omega | decide | exact byEq (enc_data _) | exact byEq (enc_cells_length _) | (refine byEq ?_; with_unfolding_all rfl)) only [w_same hO, lO, lN, e1, e2, gt, ga, gb]; try cbv))
          refine ⟨_, c23 _, ?_⟩
          (try cbv; repeat (simp (disch := first | assumption | omega | decide | exact byEq (enc_data _) | exact byEq (enc_cells_length _) | (refine byEq ?_; with_unfolding_all rfl)) only [w_same hO, w_good0 hO, w_good1 hO, em, f0, w_app_n hO, fe, ae]; try cbv))
          refine ⟨_, h24 _ _ (se (listV false cs)) hL1 hR1 _, ?_⟩
          (try cbv; repeat (simp (disch := first | assumption | omega | decide | exact byEq (enc_data _) | exact byEq (enc_cells_length _) | (refine byEq ?_; with_unfolding_all rfl)) only [w_same hO, w_good1 hO, fo, ao, lO, lN, gt, ga, gb, w_good2 hO]; try cbv))
          refine ⟨_, h24 _ _ _ (by simp) (by (intro p; simp only [callV, listV, wordV, fmV, V.refsB, V.refsBs, and_self, ra, rb])) _, ?_⟩
          (try cbv; repeat (simp (disch := first | assumption | omega | decide | exact byEq (enc_data _) | exact byEq (enc_cells_length _) | (refine byEq ?_; with_unfolding_all rfl)) only [w_same hO, w_good1 hO, fe, ae, hadd]; try cbv))
          exact fin _ _ _ (by intro i k hne; simp (disch := first | exact hne | decide) only [upd2_above hO]; rfl) rfl rfl rfl rfl rfl rfl rfl
  · have him : i = min Os.length Ns.length := by omega
    replace hcv := hcv him
    clear next hnone rp c23 gt ga gb
    by_cases hgt : Os.length < Ns.length
    · have g1 : O.ilt LO LN = true := w_ilt_t hO (by omega)
      have g2 : O.ilt j LO = false := w_ilt_f hO (by omega)
      rw [if_pos hgt] at hcv
      by_cases hz0 : Os.length = 0
      · rw [if_pos hz0] at hcv
        have hi0 : i = 0 := by omega
        rcases hg with ⟨g8, g9, z1, z2⟩ | ⟨g8, g9, z1⟩
        · have z8 : O.len [] = 0 := by rw [w_len hO]; rfl
          rw [hcv, g8, g9]
          clear g8 g9 hcv
          (try cbv; repeat (simp (disch := first | assumption | omega | decide | exact byEq (enc_data _) | exact byEq (enc_cells_length _) | (refine byEq ?_; with_unfolding_all rfl)) only [w_same hO, lO, lN, g1, g2, z8, w_ieq_t hO]; try cbv))
          refine Pure.go (h24 _ _ [] (by simp) (fun p => trivial) _) ?_
          (try cbv; repeat (simp (disch := first | assumption | omega | decide | exact byEq (enc_data _) | exact byEq (enc_cells_length _) | (refine byEq ?_; with_unfolding_all rfl)) only [w_same hO]; try cbv))
          (intro i k x hx; have hne := WFS.ne hw i k x hx; first | exact hx | (simp (disch := assumption) only [w_upd2_ne hO]; exact hx))
        · omega
      · rw [if_neg hz0] at hcv
        rcases hg with ⟨g8, g9, z1, z2⟩ | ⟨g8, g9, z1⟩
        · rw [z1] at ll; simp at ll; omega
        · have z9 : O.ieq L8 0 = false := w_ieq_f hO (by omega)
          have hL2 : Le.length ≤ 1000000000 := by omega
          have hL3 : (so (callV [97, 110, 100] Le)).length ≤ 1000000000 := by rw [hso]; simp only [List.length_append, List.length_cons, List.length_nil]; omega
          have hR3 : ∀ p, V.refsBs p (so (callV [97, 110, 100] Le)) := fun p => by rw [hso]; exact refsBs_append (rl p) ⟨callV_refs re p, trivial⟩
          rw [hcv, g8, g9]
          clear g8 g9 hcv
          (try cbv; repeat (simp (disch := first | assumption | omega | decide | exact byEq (enc_data _) | exact byEq (enc_cells_length _) | (refine byEq ?_; with_unfolding_all rfl)) only [w_same hO, lO, lN, g1, g2, z8, z9]; try cbv))
          refine Pure.go (h24 _ _ Le hL2 re _) ?_
          (try cbv; repeat (simp (disch := first | assumption | omega | decide | exact byEq (enc_data _) | exact byEq (enc_cells_length _) | (refine byEq ?_; with_unfolding_all rfl)) only [w_same hO, w_good1 hO, fo, ao]; try cbv))
          refine Pure.go (h24 _ _ (so (callV [97, 110, 100] Le)) hL3 hR3 _) ?_
          (try cbv; repeat (simp (disch := first | assumption | omega | decide | exact byEq (enc_data _) | exact byEq (enc_cells_length _) | (refine byEq ?_; with_unfolding_all rfl)) only [w_same hO]; try cbv))
          (intro i k x hx; have hne := WFS.ne hw i k x hx; first | exact hx | (simp (disch := assumption) only [w_upd2_ne hO]; exact hx))
    · have g1 : O.ilt LO LN = false := w_ilt_f hO (by omega)
      rw [if_neg hgt] at hcv
      have hL2 : Lo.length ≤ 1000000000 := by omega
      have g2 : (O.ilt j LO = false) ∨ (O.ilt j LO = true ∧ O.ilt j LN = false) := by
        by_cases h : i < Os.length
        · exact .inr ⟨w_ilt_t hO (by omega), w_ilt_f hO (by omega)⟩
        · exact .inl (w_ilt_f hO (by omega))
      rcases hg with ⟨g8, g9, z1, z2⟩ | ⟨g8, g9, z1⟩
      · rw [hcv, g8, g9, z1]
        clear g8 g9 hcv
        rcases g2 with g2 | ⟨g2, g3⟩
        · (try cbv; repeat (simp (disch := first | assumption | omega | decide | exact byEq (enc_data _) | exact byEq (enc_cells_length _) | (refine byEq ?_; with_unfolding_all rfl)) only [w_same hO, lO, lN, g1, g2]; try cbv))
          refine Pure.go (h24 _ _ [] (by simp) (fun p => trivial) _) ?_
          (try cbv; repeat (simp (disch := first | assumption | omega | decide | exact byEq (enc_data _) | exact byEq (enc_cells_length _) | (refine byEq ?_; with_unfolding_all rfl)) only [w_same hO]; try cbv))
          (intro i k x hx; have hne := WFS.ne hw i k x hx; first | exact hx | (simp (disch := assumption) only [w_upd2_ne hO]; exact hx))
        · (try cbv; repeat (simp (disch := first | assumption | omega | decide | exact byEq (enc_data _) | exact byEq (enc_cells_length _) | (refine byEq ?_; with_unfolding_all rfl)) only [w_same hO, lO, lN, g1, g2, g3]; try cbv))
          refine Pure.go (h24 _ _ [] (by simp) (fun p => trivial) _) ?_
          (try cbv; repeat (simp (disch := first | assumption | omega | decide | exact byEq (enc_data _) | exact byEq (enc_cells_length _) | (refine byEq ?_; with_unfolding_all rfl)) only [w_same hO]; try cbv))
          (intro i k x hx; have hne := WFS.ne hw i k x hx; first | exact hx | (simp (disch := assumption) only [w_upd2_ne hO]; exact hx))
      · rw [hcv, g8, g9]
        clear g8 g9 hcv
        rcases g2 with g2 | ⟨g2, g3⟩
        · (try cbv; repeat (simp (disch := first | assumption | omega | decide | exact byEq (enc_data _) | exact byEq (enc_cells_length _) | (refine byEq ?_; with_unfolding_all rfl)) only [w_same hO, lO, lN, g1, g2]; try cbv))
          refine Pure.go (h24 _ _ Lo hL2 rl _) ?_
          (try cbv; repeat (simp (disch := first | assumption | omega | decide | exact byEq (enc_data _) | exact byEq (enc_cells_length _) | (refine byEq ?_; with_unfolding_all rfl)) only [w_same hO]; try cbv))
          (intro i k x hx; have hne := WFS.ne hw i k x hx; first | exact hx | (simp (disch := assumption) only [w_upd2_ne hO]; exact hx))
        · (try cbv; repeat (simp (disch := first | assumption | omega | decide | exact byEq (enc_data _) | exact byEq (enc_cells_length _) | (refine byEq ?_; with_unfolding_all rfl)) only [w_same hO, lO, lN, g1, g2, g3]; try cbv))
          refine Pure.go (h24 _ _ Lo hL2 rl _) ?_
          (try cbv; repeat (simp (disch := first | assumption | omega | decide | exact byEq (enc_data _) | exact byEq (enc_cells_length _) | (refine byEq ?_; with_unfolding_all rfl)) only [w_same hO]; try cbv))
          (intro i k x hx; have hne := WFS.ne hw i k x hx; first | exact hx | (simp (disch := assumption) only [w_upd2_ne hO]; exact hx))
end Go.Pl.Z
