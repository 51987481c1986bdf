/- sane: the layer does what it is for, at two numbers. -/
import Derived.Test.YtllbopmdpmjcpaaGreatDoorZFn12
import Derived.Test.YtllbopmdpmjcpaaGreatDoorZFn11
import Derived.Test.YtllbopmdpmjcpaaGreatDoorZLits2
set_option linter.unusedSimpArgs false
set_option linter.unusedVariables false
set_option linter.unusedSectionVars false
open Go Go.Pl Go.Proofs
namespace Go.Pl.Z
set_option maxRecDepth 100000

theorem w83n (P : Program) (m : Int) (h0 : 0 ≤ m) (h1 : m ≤ 5) : Walks P F83 [enc (num m)] (.bool true) := by
  intro H n b c O hO hw
  have e1 : O.ile (-1152921504606846976) m = true := w_ile_t hO (by omega)
  have e2 : O.ile m 1152921504606846976 = true := w_ile_t hO (by omega)
  have e3 : O.len [] = 0 := by rw [w_len hO]; rfl
  (try cbv; repeat (simp (disch := first | assumption | omega | decide | exact byEq (enc_data _) | exact byEq (enc_cells_length _) | (refine byEq ?_; with_unfolding_all rfl)) only [w_same hO, w_ieq_t hO, w_seq_t hO, e1, e2, e3]; try cbv))
  (intro i k x hx; have hne := WFS.ne hw i k x hx; first | exact hx | (simp (disch := assumption) only [w_upd2_ne hO]; exact hx))

theorem w27n (P : Program) (m : Int) : Walks P F27 [enc (num m)] (.bool true) := by
  intro H n b c O hO hw
  (try cbv; repeat (simp (disch := first | assumption | omega | decide | exact byEq (enc_data _) | exact byEq (enc_cells_length _) | (refine byEq ?_; with_unfolding_all rfl)) only [w_same hO, w_ieq_t hO]; try cbv))
  (intro i k x hx; have hne := WFS.ne hw i k x hx; first | exact hx | (simp (disch := assumption) only [w_upd2_ne hO]; exact hx))

theorem w15n (P : Program) (h28 : ∀ f : Fm, ∀ S, Pl.Pure P 28 [enc f] S (.str (headF f))) : Walks P F15 [enc (num 2), enc (num 1)] (.bool true) := by
  intro H n b c O hO hw
  have k1 := h28 (num 1)
  have k2 := h28 (num 2)
  (try cbv; repeat (simp (disch := first | assumption | omega | decide | exact byEq (enc_data _) | exact byEq (enc_cells_length _) | (refine byEq ?_; with_unfolding_all rfl)) only [w_same hO]; try cbv))
  refine ⟨_, k2 _, ?_⟩
  (try cbv; repeat (simp (disch := first | assumption | omega | decide | exact byEq (enc_data _) | exact byEq (enc_cells_length _) | (refine byEq ?_; with_unfolding_all rfl)) only [w_same hO]; try cbv))
  refine ⟨_, k1 _, ?_⟩
  (try cbv; repeat (simp (disch := first | assumption | omega | decide | exact byEq (enc_data _) | exact byEq (enc_cells_length _) | (refine byEq ?_; with_unfolding_all rfl)) only [w_same hO, w_ieq_t hO, w_ilt_t hO, w_ile_t hO]; try cbv))
  (intro i k x hx; have hne := WFS.ne hw i k x hx; first | exact hx | (simp (disch := assumption) only [w_upd2_ne hO]; exact hx))

/-- A walk with an end of any kind. -/
def WalksE (P : Program) (F : F) (args : List V) (S : St) (Q : AE → St → Prop) : Prop :=
  WFS S → vc P F.N S.n F.c (retPost F.rs S Q) (frame0 args) S.enter

theorem w50n (P : Program) (m : Int) (S : St) (i : Nat) (hS : S.H i 1 = some (.int .i64 20000)) (h83 : ∀ S, Pl.Pure P 83 [enc (num m)] S (.bool true)) :
    WalksE P F50 [enc (num m), .ref i 1 0, .int .i64 100] S fun e S' => e = .ret (.bool true) ∧ S' = S.set i 1 (.int .i64 19999) := by
  obtain ⟨H, n, b, c, O, hO⟩ := S
  intro hw
  have hne := WFS.ne hw i 1 _ hS
  have hok := (hw i 1 _ hS).1
  simp only at hS
  have e0 : O.same i n = false := w_same_f hO hne
  have e2 : O.same n i = false := w_same_f hO (fun e => hne e.symm)
  have e1 : O.iop .sub .i64 20000 .i64 1 = some (.int .i64 19999) := by subst hO; rfl
  have e3 : O.len [] = 0 := by rw [w_len hO]; rfl
  generalize hQ : (fun e S' => e = AE.ret (V.bool true) ∧ S' = St.set ⟨H, n, b, c, O, hO⟩ i 1 (.int .i64 19999)) = Q
  (try cbv; repeat (simp (disch := first | assumption | omega | decide | exact byEq (enc_data _) | exact byEq (enc_cells_length _) | (refine byEq ?_; with_unfolding_all rfl)) only [w_same hO, hS, e0, e2, e1, w_ilt_f hO, w_ieq_f hO]; try cbv))
  refine Pure.go (h83 _) ?_
  (try cbv; repeat (simp (disch := first | assumption | omega | decide | exact byEq (enc_data _) | exact byEq (enc_cells_length _) | (refine byEq ?_; with_unfolding_all rfl)) only [w_same hO, e3, w_ilt_f hO]; try cbv))
  refine AW_rounds 2 ?_
  (try cbv; repeat (simp (disch := first | assumption | omega | decide | exact byEq (enc_data _) | exact byEq (enc_cells_length _) | (refine byEq ?_; with_unfolding_all rfl)) only [w_same hO, e3, w_ilt_f hO]; try cbv))
  refine ⟨_, St.set ⟨H, n, b, c, O, hO⟩ i 1 (.int .i64 19999), rfl, trivial, Over.of rfl rfl rfl (WFS.set hw hok (show (V.int .i64 19999).refsB _ from trivial)) ?_, by rw [← hQ]; exact ⟨rfl, rfl⟩⟩
  intro i' k' hne'
  exact upd2_congr hO (upd2_ne hO hne')

theorem w26n (P : Program) (m : Int) (h50 : ∀ S i, S.H i 1 = some (.int .i64 20000) → ACalls P 50 [enc (num m), .ref i 1 0, .int .i64 100] S fun e S' => e = .ret (.bool true) ∧ S' = S.set i 1 (.int .i64 19999)) :
    Walks P F26 [enc (num m)] (.bool true) := by
  intro H n b c O hO hw
  (try cbv; repeat (simp (disch := first | assumption | omega | decide | exact byEq (enc_data _) | exact byEq (enc_cells_length _) | (refine byEq ?_; with_unfolding_all rfl)) only [w_same hO]; try cbv))
  refine ACalls.mono (h50 _ n ?_) ?_
  · show upd2 O _ n 1 _ n 1 = _
    rw [upd2_eq hO, if_pos ⟨rfl, rfl⟩]
  rintro e S' ⟨rfl, rfl⟩
  (try cbv; repeat (simp (disch := first | assumption | omega | decide | exact byEq (enc_data _) | exact byEq (enc_cells_length _) | (refine byEq ?_; with_unfolding_all rfl)) only [w_same hO]; try cbv))
  (intro i k x hx; have hne := WFS.ne hw i k x hx; first | exact hx | (simp (disch := assumption) only [w_upd2_ne hO]; exact hx))

theorem w14n (P : Program) (m : Int) (h26 : ∀ S, Pl.Pure P 26 [enc (num m)] S (.bool true)) (h27 : ∀ S, Pl.Pure P 27 [enc (num m)] S (.bool true)) : Walks P F14 [enc (num m)] (.bool true) := by
  intro H n b c O hO hw
  (try cbv; repeat (simp (disch := first | assumption | omega | decide | exact byEq (enc_data _) | exact byEq (enc_cells_length _) | (refine byEq ?_; with_unfolding_all rfl)) only [w_same hO]; try cbv))
  refine Pure.go (h26 _) ?_
  (try cbv; repeat (simp (disch := first | assumption | omega | decide | exact byEq (enc_data _) | exact byEq (enc_cells_length _) | (refine byEq ?_; with_unfolding_all rfl)) only [w_same hO]; try cbv))
  refine Pure.go (h27 _) ?_
  (try cbv; repeat (simp (disch := first | assumption | omega | decide | exact byEq (enc_data _) | exact byEq (enc_cells_length _) | (refine byEq ?_; with_unfolding_all rfl)) only [w_same hO]; try cbv))
  (intro i k x hx; have hne := WFS.ne hw i k x hx; first | exact hx | (simp (disch := assumption) only [w_upd2_ne hO]; exact hx))

theorem w6n (P : Program) (h14 : ∀ m : Int, 0 ≤ m → m ≤ 5 → ∀ S, Pl.Pure P 14 [enc (num m)] S (.bool true)) (h15 : ∀ S, Pl.Pure P 15 [enc (num 2), enc (num 1)] S (.bool true)) :
    Walks P F6 [enc (num 2), enc (num 1)] (.tup [.bool true, .int .i64 0]) := by
  intro H n b c O hO hw
  have k2 := h14 2 (by decide) (by decide)
  have k1 := h14 1 (by decide) (by decide)
  clear h14
  (try cbv; repeat (simp (disch := first | assumption | omega | decide | exact byEq (enc_data _) | exact byEq (enc_cells_length _) | (refine byEq ?_; with_unfolding_all rfl)) only [w_same hO]; try cbv))
  refine Pure.go (k2 _) ?_
  (try cbv; repeat (simp (disch := first | assumption | omega | decide | exact byEq (enc_data _) | exact byEq (enc_cells_length _) | (refine byEq ?_; with_unfolding_all rfl)) only [w_same hO]; try cbv))
  refine Pure.go (k1 _) ?_
  (try cbv; repeat (simp (disch := first | assumption | omega | decide | exact byEq (enc_data _) | exact byEq (enc_cells_length _) | (refine byEq ?_; with_unfolding_all rfl)) only [w_same hO]; try cbv))
  refine Pure.go (h15 _) ?_
  (try cbv; repeat (simp (disch := first | assumption | omega | decide | exact byEq (enc_data _) | exact byEq (enc_cells_length _) | (refine byEq ?_; with_unfolding_all rfl)) only [w_same hO]; try cbv))
  (intro i k x hx; have hne := WFS.ne hw i k x hx; first | exact hx | (simp (disch := assumption) only [w_upd2_ne hO]; exact hx))

theorem w10 (P : Program) (h21 : ∀ n S, Pl.Pure P 21 [.int .i64 n] S (enc (num n))) (h6 : ∀ S, Pl.Pure P 6 [enc (num 2), enc (num 1)] S (.tup [.bool true, .int .i64 0])) : Walks P F10 [] (.bool true) := by
  intro H n b c O hO hw
  have k2 := h21 2
  have k1 := h21 1
  clear h21
  (try cbv; repeat (simp (disch := first | assumption | omega | decide | exact byEq (enc_data _) | exact byEq (enc_cells_length _) | (refine byEq ?_; with_unfolding_all rfl)) only [w_same hO]; try cbv))
  refine Pure.go (k2 _) ?_
  (try cbv; repeat (simp (disch := first | assumption | omega | decide | exact byEq (enc_data _) | exact byEq (enc_cells_length _) | (refine byEq ?_; with_unfolding_all rfl)) only [w_same hO]; try cbv))
  refine Pure.go (k1 _) ?_
  (try cbv; repeat (simp (disch := first | assumption | omega | decide | exact byEq (enc_data _) | exact byEq (enc_cells_length _) | (refine byEq ?_; with_unfolding_all rfl)) only [w_same hO]; try cbv))
  refine Pure.go (h6 _) ?_
  (try cbv; repeat (simp (disch := first | assumption | omega | decide | exact byEq (enc_data _) | exact byEq (enc_cells_length _) | (refine byEq ?_; with_unfolding_all rfl)) only [w_same hO, w_ieq_t hO]; try cbv))
  (intro i k x hx; have hne := WFS.ne hw i k x hx; first | exact hx | (simp (disch := assumption) only [w_upd2_ne hO]; exact hx))

/-- The law's walk. -/
theorem w5 (P : Program) (nt no nn : Bool) (T Os Ns : List V) (k m : Int) (t : List UInt8) (nl : Bool) (xs : List V) (e : Int) (hr : ∀ p, V.refsBs p xs)
    (h11 : ∀ S, Pl.Pure P 11 [.sl nt 4 T, .sl no 4 Os, .sl nn 4 Ns] S (.tup [fmV k m t nl xs, .int .i64 e])) (h12 : ∀ S, Pl.Pure P 12 [.sl nt 4 T, .sl no 4 Os, .sl nn 4 Ns] S (.tup [fmV k m t nl xs, .int .i64 e]))
    (h13 : ∀ S, Pl.Pure P 13 [fmV k m t nl xs, fmV k m t nl xs] S (.bool true)) (h10 : ∀ S, Pl.Pure P 10 [] S (.bool true)) :
    Walks P F5 [.sl nt 4 T, .sl no 4 Os, .sl nn 4 Ns] (.bool true) := by
  intro H n b c O hO hw
  (try cbv; repeat (simp (disch := first | assumption | omega | decide | exact byEq (enc_data _) | exact byEq (enc_cells_length _) | (refine byEq ?_; with_unfolding_all rfl)) only [w_same hO]; try cbv))
  refine Pure.go (h11 _) ?_
  (try cbv; repeat (simp (disch := first | assumption | omega | decide | exact byEq (enc_data _) | exact byEq (enc_cells_length _) | (refine byEq ?_; with_unfolding_all rfl)) only [w_same hO]; try cbv))
  refine Pure.go (h12 _) ?_
  (try cbv; repeat (simp (disch := first | assumption | omega | decide | exact byEq (enc_data _) | exact byEq (enc_cells_length _) | (refine byEq ?_; with_unfolding_all rfl)) only [w_same hO, w_ieq_t hO]; try cbv))
  refine Pure.go (h13 _) ?_
  (try cbv; repeat (simp (disch := first | assumption | omega | decide | exact byEq (enc_data _) | exact byEq (enc_cells_length _) | (refine byEq ?_; with_unfolding_all rfl)) only [w_same hO]; try cbv))
  refine Pure.go (h10 _) ?_
  (try cbv; repeat (simp (disch := first | assumption | omega | decide | exact byEq (enc_data _) | exact byEq (enc_cells_length _) | (refine byEq ?_; with_unfolding_all rfl)) only [w_same hO]; try cbv))
  (intro i k x hx; have hne := WFS.ne hw i k x hx; first | exact hx | (simp (disch := assumption) only [w_upd2_ne hO]; exact hx))
end Go.Pl.Z
