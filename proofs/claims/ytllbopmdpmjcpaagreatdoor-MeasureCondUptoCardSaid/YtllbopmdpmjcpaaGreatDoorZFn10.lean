/- measure.cond -/
import Derived.Test.YtllbopmdpmjcpaaGreatDoorZFn9
set_option linter.unusedSimpArgs false
set_option linter.unusedVariables false
set_option linter.unusedSectionVars false
open Go Go.Pl Go.Proofs
namespace Go.Pl.Z
set_option maxRecDepth 100000

theorem posV_shape {k : Int} {t hd : List UInt8} {a b c : V} (h : posV k t hd a b = some c) : ∃ cs, c = listV false cs := by
  unfold posV properV at h
  repeat' split at h
  all_goals first
    | (simp only [reduceCtorEq] at h; done)
    | (simp only [Option.some.injEq] at h; subst h; exact ⟨_, rfl⟩)

theorem enc_fmV (f : Fm) : ∃ k m t nl xs, enc f = fmV k m t nl xs := by
  obtain ⟨k, m, t, nl, l⟩ := f
  exact ⟨k, m, t, nl, encs l, rfl⟩

theorem grV_ne {l : List V} (h : l ≠ []) : grV l = .gr 24 false 4 l := by cases l <;> first | exact absurd rfl h | rfl

theorem dropH {H : Nat → Nat → Option V} {n b c : Nat} {O : Ops} {hO : O = Ops.std} (hw : WFS ⟨H, n, b, c, O, hO⟩) {z y y' : V} (hz : ∀ p, z.refsB p) (i k : Nat) (x : V) (hx : upd2 O H n 0 z i k = some x) :
    upd2 O (upd2 O (upd2 O H n 0 z) n 1 y) n 1 y' i k = some x ∧ (⟨upd2 O H n 0 z, n + 1, n, 1, O, hO⟩ : St).ok i k = true ∧ x.refsB (⟨upd2 O H n 0 z, n + 1, n, 1, O, hO⟩ : St).ok := by
  rw [upd2_eq hO] at hx
  rw [upd2_eq hO, upd2_eq hO, upd2_eq hO, ok_iff]
  by_cases h : i = n ∧ k = 0
  · obtain ⟨rfl, rfl⟩ := h
    simp only [and_self, if_true, Option.some.injEq] at hx
    subst hx
    exact ⟨by simp, ⟨Nat.lt_succ_self _, fun _ => Nat.zero_lt_one⟩, hz _⟩
  · rw [if_neg h] at hx
    have h1 := hw i k x hx
    have h2 := (ok_iff _ _ _).1 h1.1
    simp only at h2
    have hne : i ≠ n := Nat.ne_of_lt h2.1
    refine ⟨?_, ⟨Nat.lt_succ_of_lt h2.1, fun e => absurd e hne⟩, ?_⟩
    · rw [if_neg (fun e => hne e.1), if_neg (fun e => hne e.1), if_neg h]; exact hx
    · refine refsB_mono (fun i' k' h' => ?_) x h1.2
      rw [ok_iff] at h' ⊢
      simp only at h' ⊢
      exact ⟨Nat.lt_succ_of_lt h'.1, fun e => absurd e (Nat.ne_of_lt h'.1)⟩

set_option maxHeartbeats 1000000 in
theorem w22 (P : Program) (nt no nn : Bool) (T Os Ns : List Fm) (hT : T.length = Os.length) (hO1 : Os.length ≤ 100000000) (hN1 : Ns.length ≤ 100000000)
    (h44 : ∀ t a b : Fm, ∀ S, Pl.Pure P 44 [enc t, enc a, enc b] S (pairV (enc t) (posV t.kind t.text (headF t) (enc a) (enc b)))) (h45 : Makes P 45)
    (h46 : ∀ nl xs, xs.length ≤ 1000000000 → (∀ p, V.refsBs p xs) → ∀ S, Pl.Pure P 46 [.sl nl 4 xs] S (cloneV nl xs)) :
    Walks P F22 [.sl nt 4 (encs T), .sl no 4 (encs Os), .sl nn 4 (encs Ns)] (condV T Os Ns) := by
  intro H n b c O hO hw
  generalize hv : condV T Os Ns = v
  obtain ⟨LO, hLO⟩ : ∃ L : Int, L = Os.length := ⟨_, rfl⟩
  obtain ⟨LN, hLN⟩ : ∃ L : Int, L = Ns.length := ⟨_, rfl⟩
  have lT : O.len (encs T) = LO := by rw [w_len hO, encs_length, hT, hLO]
  have lO : O.len (encs Os) = LO := by rw [w_len hO, encs_length, hLO]
  have lN : O.len (encs Ns) = LN := by rw [w_len hO, encs_length, hLN]
  have gT : ∀ (i : Nat) (j : Int), j = i → i < T.length → O.get (encs T) j = some (enc (T.getD i dF)) := fun i j hj hi => w_get hO (by omega) (by subst hj; simp [encs_get, hi])
  have gO : ∀ (i : Nat) (j : Int), j = i → i < Os.length → O.get (encs Os) j = some (enc (Os.getD i dF)) := fun i j hj hi => w_get hO (by omega) (by subst hj; simp [encs_get, hi])
  have gN : ∀ (i : Nat) (j : Int), j = i → i < Ns.length → O.get (encs Ns) j = some (enc (Ns.getD i dF)) := fun i j hj hi => w_get hO (by omega) (by subst hj; simp [encs_get, hi])
  have rT := fun p => encs_refsB p T
  have rO := fun p => encs_refsB p Os
  have rN := fun p => encs_refsB p Ns
  generalize encs T = xT at lT gT rT ⊢
  generalize encs Os = xO at lO gO rO ⊢
  generalize encs Ns = xN at lN gN rN ⊢
  have hself : O.ilt LO LO = false := w_ilt_f hO (Int.le_refl _)
  obtain ⟨M, hM⟩ : ∃ M : Int, M = (min Os.length Ns.length : Nat) := ⟨_, rfl⟩
  have hmn : (bif O.ilt LN LO then LN else LO) = M := by
    by_cases h : LN < LO
    · rw [w_ilt_t hO h]; simp only [cond_true]; omega
    · rw [w_ilt_f hO (by omega)]; simp only [cond_false]; omega
  (try cbv; repeat (simp (disch := first | assumption | omega | decide | exact byEq (enc_data _) | exact byEq (enc_cells_length _) | (refine byEq ?_; with_unfolding_all rfl)) only [w_same hO, lT, lO, lN, hself, hmn]; try cbv))
  refine AW_loopD (fun k σ S => σ 0 = .sl nt 4 xT ∧ σ 1 = .sl no 4 xO ∧ σ 2 = .sl nn 4 xN ∧ σ 6 = .ref n 0 0 ∧ σ 7 = .int .i64 0 ∧ σ 19 = .int .i64 M ∧
    (∃ (i : Nat) (j : Int), σ 20 = .int .i64 j ∧ j = i ∧ i ≤ min Os.length Ns.length ∧ k = min Os.length Ns.length - i ∧ (∀ j', j' < i → (posOf T Os Ns j').isSome = true) ∧
      σ 8 = grV (outL T Os Ns i) ∧ σ 9 = grV (eqL Os Ns i)) ∧ S = ⟨upd2 O H n 0 (fmV 0 0 [] true []), n + 1, n, 1, O, hO⟩) (min Os.length Ns.length) ?_ ?_
  · exact ⟨rfl, rfl, rfl, rfl, rfl, congrArg (V.int .i64) hmn, ⟨0, 0, rfl, rfl, Nat.zero_le _, rfl, fun j' h => absurd h (Nat.not_lt_zero _), rfl, rfl⟩, rfl⟩
  rintro k σ S ⟨h0, h1, h2, h6, h7, h19, ⟨i, j, h20, hj, hi, hk, hs, h8, h9⟩, rfl⟩
  replace hj : j = (i : Int) := hj
  replace hM : M = ((min Os.length Ns.length : Nat) : Int) := hM
  replace hLO : LO = (Os.length : Int) := hLO
  replace hLN : LN = (Ns.length : Int) := hLN
  by_cases hlt : i < min Os.length Ns.length
  · have e1 : O.ilt j M = true := w_ilt_t hO (by omega)
    have gt := gT i j hj (by omega)
    have ga := gO i j hj (by omega)
    have gb := gN i j hj (by omega)
    have c44 := h44 (T.getD i dF) (Os.getD i dF) (Ns.getD i dF)
    change ∀ S, Pl.Pure P 44 _ S (pairV _ (posOf T Os Ns i)) at c44
    obtain ⟨tk, tm, tt, tn, tx, ht⟩ := enc_fmV (T.getD i dF)
    obtain ⟨ak, am, at', an, ax, hA⟩ := enc_fmV (Os.getD i dF)
    obtain ⟨bk, bm, bt, bn, bx, hB⟩ := enc_fmV (Ns.getD i dF)
    have e8 := eqL_succ Os Ns i
    have e9 := outL_succ T Os Ns i
    have ra : ∀ p, V.refsBs p ax := fun p => by have := enc_refsB p (Os.getD i dF); rw [hA] at this; simpa only [fmV, V.refsB, V.refsBs, true_and, and_true] using this
    have rb : ∀ p, V.refsBs p bx := fun p => by have := enc_refsB p (Ns.getD i dF); rw [hB] at this; simpa only [fmV, V.refsB, V.refsBs, true_and, and_true] using this
    rw [ht] at gt c44
    rw [hA] at ga c44 e8
    rw [hB] at gb c44 e8
    cases hp : posOf T Os Ns i with
    | none =>
      rw [hp] at c44
      simp only [pairV] at c44
      have ev : v = .tup [fmV 0 0 [] true [], .int .i64 8] := by
        rw [← hv]
        unfold condV
        rw [if_neg]
        simp only [List.all_eq_true, List.mem_range]
        intro hall
        have := hall i hlt
        rw [hp] at this
        cases this
      rw [ev]
      clear hv e8 e9 hs h8 h9 hp
      (try cbv; repeat (simp (disch := first | assumption | omega | decide | exact byEq (enc_data _) | exact byEq (enc_cells_length _) | (refine byEq ?_; with_unfolding_all rfl)) only [w_same hO, h0, h1, h2, h6, h7, h19, h20, e1, gt, ga, gb]; try cbv))
      refine ⟨_, c44 _, ?_⟩
      (try cbv; repeat (simp (disch := first | assumption | omega | decide | exact byEq (enc_data _) | exact byEq (enc_cells_length _) | (refine byEq ?_; with_unfolding_all rfl)) only [w_same hO, h6, h7]; try cbv))
      (intro i k x hx; have hne := WFS.ne hw i k x hx; first | exact hx | (simp (disch := assumption) only [w_upd2_ne hO]; exact hx))
    | some cpos =>
      obtain ⟨cs, rfl⟩ := posV_shape hp
      have rc := posV_refs hp (fun p => enc_refsB p _) (fun p => enc_refsB p _)
      rw [hp] at c44 e9
      simp only [pairV, Option.getD_some] at c44 e9
      by_cases hi0 : i = 0
      · subst hi0
        have h8' : σ 8 = .sl true 4 [] := h8
        have h9' : σ 9 = .sl true 4 [] := h9
        have hfit0 : ∀ x, O.fit 56 [] [x] = true := fun x => w_fit hO (by simp only [List.length_nil, List.length_cons]; omega)
        have c46 := h46 true [] (Nat.zero_le _) (fun p => trivial)
        simp only [cloneV] at c46
        obtain ⟨j', hj'⟩ : ∃ j', j' = j + 1 := ⟨_, rfl⟩
        have hadd := w_add hO (a := j) (b := 1) (by omega) (by omega)
        rw [← hj'] at hadd
        clear hv
        (try cbv; repeat (simp (disch := first | assumption | omega | decide | exact byEq (enc_data _) | exact byEq (enc_cells_length _) | (refine byEq ?_; with_unfolding_all rfl)) only [w_same hO, h0, h1, h2, h6, h7, h19, h20, e1, gt, ga, gb]; try cbv))
        refine ⟨_, c44 _, ?_⟩
        (try cbv; repeat (simp (disch := first | assumption | omega | decide | exact byEq (enc_data _) | exact byEq (enc_cells_length _) | (refine byEq ?_; with_unfolding_all rfl)) only [w_same hO, h6, h7, h8', h9']; try cbv))
        refine ⟨_, c46 _, ?_⟩
        (try cbv; repeat (simp (disch := first | assumption | omega | decide | exact byEq (enc_data _) | exact byEq (enc_cells_length _) | (refine byEq ?_; with_unfolding_all rfl)) only [w_same hO, w_good1 hO, hfit0, w_app_n hO, w_emp_c hO]; try cbv))
        refine ⟨_, h45 _ _ _ (by simp) (by intro p; exact ⟨rc p, trivial⟩) _, ?_⟩
        (try cbv; repeat (simp (disch := first | assumption | omega | decide | exact byEq (enc_data _) | exact byEq (enc_cells_length _) | (refine byEq ?_; with_unfolding_all rfl)) only [w_same hO, w_good1 hO, hfit0, w_app_n hO, w_emp_c hO, h0, h1, h2, h9', h20, ga, gb, w_good2 hO]; try cbv))
        refine ⟨_, h45 _ _ _ (by simp) (by (intro p; simp only [callV, listV, wordV, fmV, V.refsB, V.refsBs, and_self, ra, rb])) _, ?_⟩
        (try cbv; repeat (simp (disch := first | assumption | omega | decide | exact byEq (enc_data _) | exact byEq (enc_cells_length _) | (refine byEq ?_; with_unfolding_all rfl)) only [w_same hO, w_good1 hO, hfit0, w_app_n hO, w_emp_c hO, h20, hadd]; try cbv))
        replace hj' : j' = j + 1 := hj'
        replace hj : j = ((0 : Nat) : Int) := hj
        refine ⟨k - 1, _, ⟨upd2 O H n 0 (fmV 0 0 [] true []), n + 1, n, 1, O, hO⟩, by omega, ?_, Drops.keep [0, 1, 2, 6, 7, 8, 9, 19, 20] ?_ ?_ ?_⟩
        · have hs1 : ∀ q, q < 0 + 1 → (posOf T Os Ns q).isSome = true := fun q hq => by
            have hq0 : q = 0 := by omega
            rw [hq0, hp]; rfl
          exact ⟨h0, h1, h2, h6, h7, h19, ⟨0 + 1, j', rfl, (by omega : j' = ((0 + 1 : Nat) : Int)), by omega, by omega, hs1, by rw [e9]; rfl, by rw [e8]; rfl⟩, rfl⟩
        · exact ⟨Nat.le_refl _, Nat.lt_succ_self _⟩
        · intro t ht
          simp only [List.mem_cons, List.not_mem_nil, or_false] at ht
          rcases ht with rfl | rfl | rfl | rfl | rfl | rfl | rfl | rfl | rfl
          · show (σ 0).refsB _
            rw [h0]; simp only [V.refsB]; exact rT _
          · show (σ 1).refsB _
            rw [h1]; simp only [V.refsB]; exact rO _
          · show (σ 2).refsB _
            rw [h2]; simp only [V.refsB]; exact rN _
          · show (σ 6).refsB _
            rw [h6]; simp only [V.refsB, ok_iff]; omega
          · show (σ 7).refsB _
            rw [h7]; simp only [V.refsB]
          · show (V.gr 24 false 4 [callV [97, 110, 100] [listV false cs]]).refsB _
            simp only [V.refsB, V.refsBs, and_true]
            exact callV_refs (xs := [listV false cs]) (fun p => ⟨rc p, trivial⟩) _
          · show (V.gr 24 false 4 [callV [61] [fmV bk bm bt bn bx, fmV ak am at' an ax]]).refsB _
            simp only [V.refsB, V.refsBs, and_true]
            exact callV_refs (xs := [fmV bk bm bt bn bx, fmV ak am at' an ax]) (fun p => ⟨fmV_refs rb p, fmV_refs ra p, trivial⟩) _
          · show (σ 19).refsB _
            rw [h19]; simp only [V.refsB]
          · show (V.int .i64 j').refsB _
            simp only [V.refsB]
        · exact fun i k x hx => dropH hw (fmV_refs (xs := []) fun p => trivial) i k x hx
      · have lo : outL T Os Ns i ≠ [] := fun e => by have := outL_length T Os Ns i; rw [e] at this; exact hi0 this.symm
        have le : eqL Os Ns i ≠ [] := fun e => by have := eqL_length Os Ns i; rw [e] at this; exact hi0 this.symm
        have h8' : σ 8 = .gr 24 false 4 (outL T Os Ns i) := by rw [h8, grV_ne lo]
        have h9' : σ 9 = .gr 24 false 4 (eqL Os Ns i) := by rw [h9, grV_ne le]
        have ll := outL_length T Os Ns i
        have ln := eqL_length Os Ns i
        have rl := outL_refs T Os Ns i hs
        have re := eqL_refs Os Ns i
        clear h8 h9 lo le
        generalize outL T Os Ns i = Lo at h8' ll rl e9
        generalize eqL Os Ns i = Le at h9' ln re e8 e9
        obtain ⟨so, hso⟩ : ∃ f : V → List V, ∀ x, f x = Lo ++ [x] := ⟨fun x => Lo ++ [x], fun _ => rfl⟩
        obtain ⟨se, hse⟩ : ∃ f : V → List V, ∀ x, f x = Le ++ [x] := ⟨fun x => Le ++ [x], fun _ => rfl⟩
        have ao : ∀ x, O.app Lo [x] = so x := fun x => by rw [hso]; subst hO; rfl
        have ae : ∀ x, O.app Le [x] = se x := fun x => by rw [hse]; subst hO; rfl
        have fo : ∀ x, O.fit 56 Lo [x] = true := fun x => w_fit hO (by simp only [List.length_nil, List.length_cons]; omega)
        have fe : ∀ x, O.fit 56 Le [x] = true := fun x => w_fit hO (by simp only [List.length_nil, List.length_cons]; omega)
        have c46 := h46 false Le (by omega) re
        simp only [cloneV] at c46
        obtain ⟨j', hj'⟩ : ∃ j', j' = j + 1 := ⟨_, rfl⟩
        have hadd := w_add hO (a := j) (b := 1) (by omega) (by omega)
        rw [← hj'] at hadd
        clear hv
        (try cbv; repeat (simp (disch := first | assumption | omega | decide | exact byEq (enc_data _) | exact byEq (enc_cells_length _) | (refine byEq ?_; with_unfolding_all rfl)) only [w_same hO, h0, h1, h2, h6, h7, h19, h20, e1, gt, ga, gb]; try cbv))
        refine ⟨_, c44 _, ?_⟩
        (try cbv; repeat (simp (disch := first | assumption | omega | decide | exact byEq (enc_data _) | exact byEq (enc_cells_length _) | (refine byEq ?_; with_unfolding_all rfl)) only [w_same hO, h6, h7, h8', h9']; try cbv))
        refine ⟨_, c46 _, ?_⟩
        (try cbv; repeat (simp (disch := first | assumption | omega | decide | exact byEq (enc_data _) | exact byEq (enc_cells_length _) | (refine byEq ?_; with_unfolding_all rfl)) only [w_same hO, w_good1 hO, fe, ae]; try cbv))
        refine ⟨_, h45 _ _ (se (listV false cs)) (by rw [hse]; simp only [List.length_append, List.length_cons, List.length_nil]; omega) (by intro p; rw [hse]; exact refsBs_append (re p) ⟨rc p, trivial⟩) _, ?_⟩
        (try cbv; repeat (simp (disch := first | assumption | omega | decide | exact byEq (enc_data _) | exact byEq (enc_cells_length _) | (refine byEq ?_; with_unfolding_all rfl)) only [w_same hO, w_good1 hO, fo, ao, fe, ae, h0, h1, h2, h9', h20, ga, gb, w_good2 hO]; try cbv))
        refine ⟨_, h45 _ _ _ (by simp) (by (intro p; simp only [callV, listV, wordV, fmV, V.refsB, V.refsBs, and_self, ra, rb])) _, ?_⟩
        (try cbv; repeat (simp (disch := first | assumption | omega | decide | exact byEq (enc_data _) | exact byEq (enc_cells_length _) | (refine byEq ?_; with_unfolding_all rfl)) only [w_same hO, w_good1 hO, fe, ae, h20, hadd]; try cbv))
        replace hj' : j' = j + 1 := hj'
        replace hj : j = (i : Int) := hj
        have hs1 : ∀ q, q < i + 1 → (posOf T Os Ns q).isSome = true := fun q hq => by
          by_cases hqi : q = i
          · rw [hqi, hp]; rfl
          · exact hs q (by omega)
        have n8 : V.gr 24 false 4 (so (callV [97, 110, 100] (se (listV false cs)))) = grV (outL T Os Ns (i + 1)) := by rw [e9, grV_ne (by simp), hso, hse]
        have n9 : V.gr 24 false 4 (se (callV [61] [fmV bk bm bt bn bx, fmV ak am at' an ax])) = grV (eqL Os Ns (i + 1)) := by rw [e8, grV_ne (by simp), hse]
        refine ⟨k - 1, _, ⟨upd2 O H n 0 (fmV 0 0 [] true []), n + 1, n, 1, O, hO⟩, by omega, ?_, Drops.keep [0, 1, 2, 6, 7, 8, 9, 19, 20] ?_ ?_ ?_⟩
        · exact ⟨h0, h1, h2, h6, h7, h19, ⟨i + 1, j', rfl, (by omega : j' = ((i + 1 : Nat) : Int)), by omega, by omega, hs1, n8, n9⟩, rfl⟩
        · exact ⟨Nat.le_refl _, Nat.lt_succ_self _⟩
        · have rse : ∀ p, V.refsBs p (se (listV false cs)) := fun p => by rw [hse]; exact refsBs_append (re p) ⟨rc p, trivial⟩
          intro t ht
          simp only [List.mem_cons, List.not_mem_nil, or_false] at ht
          rcases ht with rfl | rfl | rfl | rfl | rfl | rfl | rfl | rfl | rfl
          · show (σ 0).refsB _
            rw [h0]; simp only [V.refsB]; exact rT _
          · show (σ 1).refsB _
            rw [h1]; simp only [V.refsB]; exact rO _
          · show (σ 2).refsB _
            rw [h2]; simp only [V.refsB]; exact rN _
          · show (σ 6).refsB _
            rw [h6]; simp only [V.refsB, ok_iff]; omega
          · show (σ 7).refsB _
            rw [h7]; simp only [V.refsB]
          · show (V.gr 24 false 4 (so (callV [97, 110, 100] (se (listV false cs))))).refsB _
            simp only [V.refsB, hso]
            exact refsBs_append (rl _) ⟨callV_refs rse _, trivial⟩
          · show (V.gr 24 false 4 (se (callV [61] [fmV bk bm bt bn bx, fmV ak am at' an ax]))).refsB _
            simp only [V.refsB, hse]
            exact refsBs_append (re _) ⟨callV_refs (xs := [fmV bk bm bt bn bx, fmV ak am at' an ax]) (fun p => ⟨fmV_refs rb p, fmV_refs ra p, trivial⟩) _, trivial⟩
          · show (σ 19).refsB _
            rw [h19]; simp only [V.refsB]
          · show (V.int .i64 j').refsB _
            simp only [V.refsB]
        · exact fun i k x hx => dropH hw (fmV_refs (xs := []) fun p => trivial) i k x hx
  · have him : i = min Os.length Ns.length := by omega
    have e1 : O.ilt j M = false := w_ilt_f hO (by omega)
    have hall : (List.range (min Os.length Ns.length)).all (fun j => (posOf T Os Ns j).isSome) = true := by
      simp only [List.all_eq_true, List.mem_range]
      intro q hq; exact hs q (by omega)
    have ll := outL_length T Os Ns i
    have ln := eqL_length Os Ns i
    have rl := outL_refs T Os Ns i hs
    have re := eqL_refs Os Ns i
    have hcv : v = (if Os.length < Ns.length then (if Os.length = 0 then .tup [callV [97, 110, 100] [], .int .i64 0]
      else .tup [callV [111, 114] (outL T Os Ns i ++ [callV [97, 110, 100] (eqL Os Ns i)]), .int .i64 0]) else .tup [callV [111, 114] (outL T Os Ns i), .int .i64 0]) := by
      rw [← hv]
      unfold condV
      rw [if_pos hall]
      by_cases h : Os.length < Ns.length
      · rw [if_pos h, if_pos h, show i = Os.length by omega]
      · rw [if_neg h, if_neg h, show i = Ns.length by omega]
    clear hv hs hall
    by_cases hgt : Os.length < Ns.length
    · have g1 : O.ilt LO LN = true := w_ilt_t hO (by omega)
      rw [if_pos hgt] at hcv
      by_cases hz : Os.length = 0
      · rw [if_pos hz] at hcv
        have hi0 : i = 0 := by omega
        subst hi0
        have h8' : σ 8 = .sl true 4 [] := h8
        have z1 : O.len [] = 0 := by rw [w_len hO]; rfl
        rw [hcv]
        (try cbv; repeat (simp (disch := first | assumption | omega | decide | exact byEq (enc_data _) | exact byEq (enc_cells_length _) | (refine byEq ?_; with_unfolding_all rfl)) only [w_same hO, h0, h1, h2, h6, h7, h19, h20, e1, lN, lO, g1, h8', z1, w_ieq_t hO]; try cbv))
        refine Pure.go (h45 _ _ [] (by simp) (fun p => trivial) _) ?_
        (try cbv; repeat (simp (disch := first | assumption | omega | decide | exact byEq (enc_data _) | exact byEq (enc_cells_length _) | (refine byEq ?_; with_unfolding_all rfl)) only [w_same hO, h6, h7]; try cbv))
        (intro i k x hx; have hne := WFS.ne hw i k x hx; first | exact hx | (simp (disch := assumption) only [w_upd2_ne hO]; exact hx))
      · rw [if_neg hz] at hcv
        have hi0 : i ≠ 0 := by omega
        have lo : outL T Os Ns i ≠ [] := fun e => by rw [e] at ll; exact hi0 ll.symm
        have le : eqL Os Ns i ≠ [] := fun e => by rw [e] at ln; exact hi0 ln.symm
        have h8' : σ 8 = .gr 24 false 4 (outL T Os Ns i) := by rw [h8, grV_ne lo]
        have h9' : σ 9 = .gr 24 false 4 (eqL Os Ns i) := by rw [h9, grV_ne le]
        clear h8 h9 lo le
        generalize outL T Os Ns i = Lo at h8' ll rl hcv
        generalize eqL Os Ns i = Le at h9' ln re hcv
        obtain ⟨so, hso⟩ : ∃ f : V → List V, ∀ x, f x = Lo ++ [x] := ⟨fun x => Lo ++ [x], fun _ => rfl⟩
        rw [← hso] at hcv
        have ao : ∀ x, O.app Lo [x] = so x := fun x => by rw [hso]; subst hO; rfl
        have fo : ∀ x, O.fit 56 Lo [x] = true := fun x => w_fit hO (by simp only [List.length_nil, List.length_cons]; omega)
        obtain ⟨L8, hL8⟩ : ∃ L : Int, L = Lo.length := ⟨_, rfl⟩
        have z1 : O.len Lo = L8 := by rw [w_len hO, hL8]
        have z2 : O.ieq L8 0 = false := w_ieq_f hO (by omega)
        rw [hcv]
        (try cbv; repeat (simp (disch := first | assumption | omega | decide | exact byEq (enc_data _) | exact byEq (enc_cells_length _) | (refine byEq ?_; with_unfolding_all rfl)) only [w_same hO, h0, h1, h2, h6, h7, h19, h20, e1, lN, lO, g1, h8', h9', z1, z2]; try cbv))
        refine Pure.go (h45 _ _ Le (by omega) re _) ?_
        (try cbv; repeat (simp (disch := first | assumption | omega | decide | exact byEq (enc_data _) | exact byEq (enc_cells_length _) | (refine byEq ?_; with_unfolding_all rfl)) only [w_same hO, w_good1 hO, fo, ao]; try cbv))
        refine Pure.go (h45 _ _ (so (callV [97, 110, 100] Le)) (by rw [hso]; simp only [List.length_append, List.length_cons, List.length_nil]; omega) (by intro p; rw [hso]; exact refsBs_append (rl p) ⟨callV_refs re p, trivial⟩) _) ?_
        (try cbv; repeat (simp (disch := first | assumption | omega | decide | exact byEq (enc_data _) | exact byEq (enc_cells_length _) | (refine byEq ?_; with_unfolding_all rfl)) only [w_same hO, h6, h7]; try cbv))
        (intro i k x hx; have hne := WFS.ne hw i k x hx; first | exact hx | (simp (disch := assumption) only [w_upd2_ne hO]; exact hx))
    · have g1 : O.ilt LO LN = false := w_ilt_f hO (by omega)
      rw [if_neg hgt] at hcv
      by_cases hi0 : i = 0
      · have h8' : σ 8 = .sl true 4 [] := by rw [h8, hi0]; rfl
        have hcv' : v = .tup [callV [111, 114] [], .int .i64 0] := by rw [hcv, hi0]; rfl
        rw [hcv']
        clear h8 h9 hcv hcv'
        (try cbv; repeat (simp (disch := first | assumption | omega | decide | exact byEq (enc_data _) | exact byEq (enc_cells_length _) | (refine byEq ?_; with_unfolding_all rfl)) only [w_same hO, h0, h1, h2, h6, h7, h19, h20, e1, lN, lO, g1, h8']; try cbv))
        refine Pure.go (h45 _ _ [] (by simp) (fun p => trivial) _) ?_
        (try cbv; repeat (simp (disch := first | assumption | omega | decide | exact byEq (enc_data _) | exact byEq (enc_cells_length _) | (refine byEq ?_; with_unfolding_all rfl)) only [w_same hO, h6, h7]; try cbv))
        (intro i k x hx; have hne := WFS.ne hw i k x hx; first | exact hx | (simp (disch := assumption) only [w_upd2_ne hO]; exact hx))
      · have lo : outL T Os Ns i ≠ [] := fun e => by rw [e] at ll; exact hi0 ll.symm
        have h8' : σ 8 = .gr 24 false 4 (outL T Os Ns i) := by rw [h8, grV_ne lo]
        clear h8 h9 lo
        generalize outL T Os Ns i = Lo at h8' ll rl hcv
        rw [hcv]
        (try cbv; repeat (simp (disch := first | assumption | omega | decide | exact byEq (enc_data _) | exact byEq (enc_cells_length _) | (refine byEq ?_; with_unfolding_all rfl)) only [w_same hO, h0, h1, h2, h6, h7, h19, h20, e1, lN, lO, g1, h8']; try cbv))
        refine Pure.go (h45 _ _ Lo (by omega) rl _) ?_
        (try cbv; repeat (simp (disch := first | assumption | omega | decide | exact byEq (enc_data _) | exact byEq (enc_cells_length _) | (refine byEq ?_; with_unfolding_all rfl)) only [w_same hO, h6, h7]; try cbv))
        (intro i k x hx; have hne := WFS.ne hw i k x hx; first | exact hx | (simp (disch := assumption) only [w_upd2_ne hO]; exact hx))
end Go.Pl.Z
