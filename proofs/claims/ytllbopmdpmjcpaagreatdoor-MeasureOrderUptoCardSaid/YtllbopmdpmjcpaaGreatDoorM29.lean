import Derived.Test.YtllbopmdpmjcpaaGreatDoorM28
set_option linter.unusedSimpArgs false
set_option linter.unusedVariables false
set_option linter.unusedSectionVars false
namespace Go.Pl
section
variable {P : Program} {S : St}
@[congr] theorem bnd_congr {o o' : Option V} (h : o = o') (K : V → Prop) : bnd o K = bnd o' K := by rw [h]
@[congr] theorem brV_congr {x x' : V} (h : x = x') (A B : Prop) : brV x A B = brV x' A B := by rw [h]
@[congr] theorem gdV_congr {x x' : V} (h : x = x') (w : Bool) (A B : Prop) : gdV x w A B = gdV x' w A B := by rw [h]
@[congr] theorem effA_congr {m m' : M} (h : m = m') (S : St) (K : V → St → Prop) : effA S m K = effA S m' K := by rw [h]
@[congr] theorem callA_congr {a a' : List V} (h : a = a') (P : Program) (f : Nat) (S : St) (Kr Kp : V → St → Prop) : callA P f a S Kr Kp = callA P f a' S Kr Kp := by rw [h]
@[congr] theorem callP_congr {a a' : List V} (h : a = a') (P : Program) (f : Nat) (S : St) (Kr : V → Prop) : callP P f a S Kr = callP P f a' S Kr := by rw [h]
@[congr] theorem callvA_congr {x x' : V} {a a' : List V} (hx : x = x') (h : a = a') (P : Program) (S : St) (Kr Kp : V → St → Prop) : callvA P x a S Kr Kp = callvA P x' a' S Kr Kp := by rw [h, hx]
@[congr] theorem callvP_congr {x x' : V} {a a' : List V} (hx : x = x') (h : a = a') (P : Program) (S : St) (Kr : V → Prop) : callvP P x a S Kr = callvP P x' a' S Kr := by rw [h, hx]
@[congr] theorem panA_congr {x x' : V} (h : x = x') (S : St) (Kp : V → St → Prop) : panA x S Kp = panA x' S Kp := by rw [h]
@[simp] theorem bnd_some' (v : V) (K : V → Prop) : bnd (some v) K = K v := rfl
@[simp] theorem bnd_none (K : V → Prop) : bnd none K = False := rfl
@[simp] theorem brV_true (A B : Prop) : brV (.bool true) A B = A := rfl
@[simp] theorem brV_false (A B : Prop) : brV (.bool false) A B = B := rfl
@[simp] theorem gdV_tt (A B : Prop) : gdV (.bool true) true A B = A := rfl
@[simp] theorem gdV_tf (A B : Prop) : gdV (.bool true) false A B = B := rfl
@[simp] theorem gdV_ft (A B : Prop) : gdV (.bool false) true A B = B := rfl
@[simp] theorem gdV_ff (A B : Prop) : gdV (.bool false) false A B = A := rfl
@[simp] theorem gdV_undef (w : Bool) (A B : Prop) : gdV V.undef w A B = B := rfl
@[simp] theorem callvA_fn (f : Nat) (caps args : List V) (Kr Kp : V → St → Prop) : callvA P (.fn f caps) args S Kr Kp = callA P f (args ++ caps) S Kr Kp := rfl
@[simp] theorem callvP_fn (f : Nat) (caps args : List V) (Kr : V → Prop) : callvP P (.fn f caps) args S Kr = callP P f (args ++ caps) S Kr := rfl
@[simp] theorem panA_iface (t : Nat) (y : V) (Kp : V → St → Prop) : panA (.iface t y) S Kp = Kp (.iface t y) S := rfl
@[simp] theorem kp_eq (K : AE → St → Prop) (v : V) (S : St) : kp K v S = K (.pan v) S := rfl
theorem br {b : Bool} {A B : Prop} (h1 : b = true → A) (h2 : b = false → B) : brV (.bool b) A B := by cases b; exact h2 rfl; exact h1 rfl
theorem brD {p : Prop} [Decidable p] {A B : Prop} (h1 : p → A) (h2 : ¬ p → B) : brV (.bool (decide p)) A B := br (fun h => h1 (of_decide_eq_true h)) (fun h => h2 (of_decide_eq_false h))
theorem gdT {b : Bool} {A B : Prop} (h1 : b = true → A) (h2 : b = false → B) : gdV (.bool b) true A B := by cases b; exact h2 rfl; exact h1 rfl
theorem gdF {b : Bool} {A B : Prop} (h1 : b = true → B) (h2 : b = false → A) : gdV (.bool b) false A B := by cases b; exact h2 rfl; exact h1 rfl
theorem gdTD {p : Prop} [Decidable p] {A B : Prop} (h1 : p → A) (h2 : ¬ p → B) : gdV (.bool (decide p)) true A B := gdT (fun h => h1 (of_decide_eq_true h)) (fun h => h2 (of_decide_eq_false h))
theorem gdFD {p : Prop} [Decidable p] {A B : Prop} (h1 : p → B) (h2 : ¬ p → A) : gdV (.bool (decide p)) false A B := gdF (fun h => h1 (of_decide_eq_true h)) (fun h => h2 (of_decide_eq_false h))
@[simp] theorem plain_enc (f : Fm) : (enc f).plain = enc f := enc_plain f
@[simp] theorem plain_int (k : IntKind) (n : Int) : (V.int k n).plain = .int k n := rfl
@[simp] theorem plain_bool (b : Bool) : (V.bool b).plain = .bool b := rfl
@[simp] theorem plain_str (s : List UInt8) : (V.str s).plain = .str s := rfl
@[simp] theorem plain_sl (n : Bool) (s : Nat) (l : List V) : (V.sl n s l).plain = .sl n s l := rfl
@[simp] theorem plain_gr (e : Nat) (n : Bool) (s : Nat) (l : List V) : (V.gr e n s l).plain = .sl n s l := rfl
@[simp] theorem plain_ro (x : V) : (V.ro x).plain = .ro x := rfl
@[simp] theorem plain_agg (l : List V) : (V.agg l).plain = .agg l := rfl
@[simp] theorem plain_tup (l : List V) : (V.tup l).plain = .tup l := rfl
@[simp] theorem plain_fn (f : Nat) (l : List V) : (V.fn f l).plain = .fn f l := rfl
@[simp] theorem plain_iface (t : Nat) (x : V) : (V.iface t x).plain = .iface t x := rfl
@[simp] theorem plain_nilp : V.nilp.plain = .nilp := rfl
@[simp] theorem plain_nilfn : V.nilfn.plain = .nilfn := rfl
@[simp] theorem plain_niliface : V.niliface.plain = .niliface := rfl
@[simp] theorem plain_nilmap : V.nilmap.plain = .nilmap := rfl
@[simp] theorem plain_ref (i k o : Nat) : (V.ref i k o).plain = .ref i k o := rfl
@[simp] theorem plain_mref (i k : Nat) : (V.mref i k).plain = .mref i k := rfl
@[simp] theorem plain_bs (i k s : Nat) (o l : Int) : (V.bs i k s o l).plain = .bs i k s o l := rfl
@[simp] theorem plain_eref (i k s : Nat) (j : Int) : (V.eref i k s j).plain = .eref i k s j := rfl
@[simp] theorem plain_undef : V.undef.plain = V.undef := rfl
@[simp] theorem plain_any : V.any.plain = .any := rfl
attribute [simp] plain_plain
attribute [simp] enc_data enc_isAgg enc_isGr enc_cells_length
@[simp] theorem data_int (k : IntKind) (n : Int) : (V.int k n).data = true := rfl
@[simp] theorem data_bool (b : Bool) : (V.bool b).data = true := rfl
@[simp] theorem data_str (s : List UInt8) : (V.str s).data = true := rfl
@[simp] theorem data_sl (n : Bool) (s : Nat) (l : List V) : (V.sl n s l).data = true := rfl
@[simp] theorem data_ro (x : V) : (V.ro x).data = true := rfl
@[simp] theorem data_agg (l : List V) : (V.agg l).data = true := rfl
@[simp] theorem data_fn (f : Nat) (l : List V) : (V.fn f l).data = true := rfl
@[simp] theorem data_iface (t : Nat) (x : V) : (V.iface t x).data = true := rfl
@[simp] theorem data_niliface : V.niliface.data = true := rfl
@[simp] theorem data_nilfn : V.nilfn.data = true := rfl
@[simp] theorem data_nilp : V.nilp.data = true := rfl
@[simp] theorem data_nilmap : V.nilmap.data = true := rfl
@[simp] theorem data_ref (i k o : Nat) : (V.ref i k o).data = true := rfl
@[simp] theorem data_mref (i k : Nat) : (V.mref i k).data = true := rfl
@[congr] theorem gjn_congr {α : Type} (A : α → Prop) (J : α) : gjn A J = gjn A J := rfl
@[simp] theorem gjn_eq {α : Type} (A : α → Prop) (J : α) : gjn A J = A J := propext ⟨fun h => h.out, fun h => ⟨h⟩⟩
@[simp] theorem eff_boxr (v : V) (K : V → St → Prop) : effA S (.boxr (.k v)) K = (v.data = true ∧ K (.ro v) S) := by
 unfold effA
 simp only [M.eff, X.ev]
 by_cases h : v.data = true
 ·simp [h]
 ·simp [h]
@[simp] theorem eff_boxs (sz : Nat) (v : V) (K : V → St → Prop) : effA S (.boxs sz (.k v)) K = ((v.data = true ∧ v.cells.length = sz) ∧ K (.ro v) S) := by
 have e : effA S (.boxs sz (.k v)) K = (match (if v.data = true ∧ v.cells.length = sz then some (V.ro v, (fun _ : Nat => V.any), S) else none) with
  | some (v, _, S') => K v S'
  | none => False) := rfl
 rw [e]
 by_cases h : v.data = true ∧ v.cells.length = sz
 ·rw [if_pos h]; exact propext ⟨fun hk => ⟨h, hk⟩, fun hk => hk.2⟩
 ·rw [if_neg h]; exact propext ⟨fun hk => hk.elim, fun hk => h hk.1⟩
@[simp] theorem cells_int (k : IntKind) (n : Int) : (V.int k n).cells = [.int k n] := rfl
@[simp] theorem cells_bool (b : Bool) : (V.bool b).cells = [.bool b] := rfl
@[simp] theorem cells_str (s : List UInt8) : (V.str s).cells = [.str s] := rfl
@[simp] theorem cells_sl (n : Bool) (s : Nat) (l : List V) : (V.sl n s l).cells = [.sl n s l] := rfl
@[simp] theorem cells_agg (l : List V) : (V.agg l).cells = l := rfl
@[simp] theorem cells_fn (f : Nat) (l : List V) : (V.fn f l).cells = [.fn f l] := rfl
def own (S : St) : List V → St
 | [] => S
 | x :: l => own (S.add x) l
@[simp] theorem own_nil (S : St) : own S [] = S := rfl
@[simp] theorem own_b : ∀ (l : List V) (S : St), (own S l).b = S.b
 | [], _ => rfl
 | x :: l, S => own_b l (S.add x)
@[simp] theorem own_n : ∀ (l : List V) (S : St), (own S l).n = S.n
 | [], _ => rfl
 | x :: l, S => own_n l (S.add x)
@[simp] theorem own_c : ∀ (l : List V) (S : St), (own S l).c = S.c + l.length
 | [], _ => rfl
 | x :: l, S => by
  simp only [own, List.length_cons]
  rw [own_c l (S.add x)]
  show S.c + 1 + l.length = _
  omega
theorem own_H : ∀ (l : List V) (S : St) (i k : Nat), (own S l).H i k = if i = S.b ∧ S.c ≤ k ∧ k < S.c + l.length then l[k - S.c]? else S.H i k
 | [], S, i, k => by
  rw [if_neg (by simp only [List.length_nil]; omega)]; rfl
 | x :: l, S, i, k => by
  simp only [own]
  rw [own_H l (S.add x)]
  simp only [St.add, List.length_cons, upd2_eq S.hO]
  by_cases hi : i = S.b
  ·subst hi
   by_cases hk : k = S.c
   ·subst hk
    rw [if_neg (by omega), if_pos ⟨rfl, rfl⟩, if_pos (by omega)]
    simp
   ·by_cases hk2 : S.c + 1 ≤ k ∧ k < S.c + 1 + l.length
    ·rw [if_pos ⟨rfl, hk2⟩, if_pos (by omega)]
     have : k - S.c = (k - (S.c + 1)) + 1 := by omega
     rw [this]; rfl
    ·rw [if_neg (fun h => hk2 h.2), if_neg (fun h => hk h.2), if_neg (by omega)]
  ·rw [if_neg (fun h => hi h.1), if_neg (fun h => hi h.1), if_neg (fun h => hi h.1)]
theorem own_at {l : List V} {S : St} {k : Nat} {x : V} (h : l[k]? = some x) : (own S l).H S.b (S.c + k) = some x := by
 have hlt : k < l.length := (List.getElem?_eq_some_iff.1 h).1
 rw [own_H, if_pos (by omega)]
 simpa using h
theorem own_add : ∀ (l : List V) (S : St) (z : V), (own S l).add z = own S (l ++ [z])
 | [], _, _ => rfl
 | x :: l, S, z => own_add l (S.add x) z
theorem own_set {l : List V} {S : St} {k : Nat} {y : V} (hk : k < l.length) : (own S l).set S.b (S.c + k) y = own S (l.set k y) := by
 refine St.ext' ?_ (by simp [St.set]) (by simp [St.set]) (by simp [St.set]) (by rw [(own S _).hO, St.hO])
 funext i j
 simp only [St.set, upd2_eq (own S l).hO]
 rw [own_H, own_H]
 simp only [List.length_set]
 by_cases hi : i = S.b
 ·subst hi
  by_cases hj : j = S.c + k
  ·subst hj
   rw [if_pos ⟨rfl, rfl⟩, if_pos (by omega)]
   simp [hk]
  ·rw [if_neg (fun h => hj h.2)]
   by_cases h2 : S.c ≤ j ∧ j < S.c + l.length
   ·rw [if_pos ⟨rfl, h2⟩, if_pos ⟨rfl, h2⟩, List.getElem?_set_ne (by omega)]
   ·rw [if_neg (fun h => h2 h.2), if_neg (fun h => h2 h.2)]
 ·rw [if_neg (fun h => hi h.1), if_neg (fun h => hi h.1), if_neg (fun h => hi h.1)]
def Own (S S' : St) : Prop := ∃ l, S' = own S l
@[simp] theorem Own.refl (S : St) : Own S S := ⟨[], rfl⟩
@[simp] theorem Own.own (S : St) (l : List V) : Own S (own S l) := ⟨l, rfl⟩
@[simp] theorem eff_new (z : V) (K : V → St → Prop) : effA S (.new z) K = K (.ref S.b S.c 0) (own S [z]) := rfl
@[simp] theorem eff_new' (l : List V) (z : V) (K : V → St → Prop) : effA (own S l) (.new z) K = K (.ref S.b (S.c + l.length) 0) (own S (l ++ [z])) := by
 have h1 : effA (own S l) (.new z) K = K (.ref (own S l).b (own S l).c 0) ((own S l).add z) := rfl
 rw [h1, own_add, own_b, own_c]
@[simp] theorem eff_box (v : V) (K : V → St → Prop) : effA S (.box (.k v)) K = (v.data = true ∧ K (.ref S.b S.c 0) (own S [v])) := by
 unfold effA
 simp only [M.eff, X.ev]
 by_cases h : v.data = true
 ·simp [h]; rfl
 ·simp [h]
@[simp] theorem eff_box' (l : List V) (v : V) (K : V → St → Prop) : effA (own S l) (.box (.k v)) K = (v.data = true ∧ K (.ref S.b (S.c + l.length) 0) (own S (l ++ [v]))) := by
 unfold effA
 simp only [M.eff, X.ev]
 by_cases h : v.data = true
 ·simp only [h, if_true, true_and]; rw [own_add, own_b, own_c]
 ·simp [h]
theorem op_ld_own {l : List V} {k off sz : Nat} {ag : Bool} {x y : V} (h : l[k]? = some x) (hp : x.part off sz ag = some y) (hg : y.isGr = false) : opV (own S l) (.ld sz ag (.k (.ref S.b (S.c + k) off))) = some y := by
 simp [opV, M.val, X.ev, own_at h, hp, hg]
theorem op_ld_own0 {l : List V} {off sz : Nat} {ag : Bool} {x y : V} (h : l[0]? = some x) (hp : x.part off sz ag = some y) (hg : y.isGr = false) : opV (own S l) (.ld sz ag (.k (.ref S.b S.c off))) = some y :=
 op_ld_own (k := 0) h hp hg
@[simp] theorem part_enc (f : Fm) : (enc f).part 0 4 true = some (enc f) := by
 cases f; rfl
@[simp] theorem op_fa_ref (off sz : Nat) (ag : Bool) (i k o : Nat) : opV S (.fa off sz ag (.k (.ref i k o))) = some (.ref i k (o + off)) := rfl
theorem eff_st_own {l : List V} {k : Nat} {z y : V} {sz : Nat} {K : V → St → Prop} (hz : l[k]? = some z) (h0 : z.isBig = false) (h1 : z.isAgg = true) (h2 : y.data = true) (h2' : y.isAgg = true) (h3 : y.cells.length = sz) (h4 : z.cells.length = sz)
  (hk : K .any (own S (l.set k y))) : effA (own S l) (.st sz (.k (.ref S.b (S.c + k) 0)) (.k y)) K := by
 have hlt : k < l.length := (List.getElem?_eq_some_iff.1 hz).1
 have e : z.withCells (setAll z.cells 0 y.cells) = y := by
  have e1 : setAll z.cells 0 y.cells = y.cells := by
   apply List.ext_getElem?
   intro j
   rw [setAll_get]
   by_cases hj : j < y.cells.length
   ·rw [if_pos (by omega)]; simp
   ·rw [if_neg (by omega), List.getElem?_eq_none (by omega), List.getElem?_eq_none (by omega)]
  rw [e1]
  cases z <;> simp [V.isAgg] at h1
  cases y <;> simp [V.isAgg] at h2'
  rfl
 have e2 : stE (own S l) sz (.ref S.b (S.c + k) 0) y = some ((own S l).set S.b (S.c + k) y) := by
  simp only [stE, own_at hz]
  rw [if_pos ⟨h0, h2, h3, by omega, .inl h1⟩, e]
 unfold effA
 rw [st_eff]
 change (match (stE (own S l) sz (.ref S.b (S.c + k) 0) y).map (fun S' => (V.any, (fun _ : Nat => V.any), S')) with
  | some (v, _, S') => K v S'
  | none => False)
 rw [e2, own_set hlt]
 exact hk
theorem eff_st_own0 {l : List V} {z y : V} {sz : Nat} {K : V → St → Prop} (hz : l[0]? = some z) (h0 : z.isBig = false) (h1 : z.isAgg = true) (h2 : y.data = true) (h2' : y.isAgg = true) (h3 : y.cells.length = sz) (h4 : z.cells.length = sz)
  (hk : K .any (own S (l.set 0 y))) : effA (own S l) (.st sz (.k (.ref S.b S.c 0)) (.k y)) K := eff_st_own (k := 0) hz h0 h1 h2 h2' h3 h4 hk
@[simp] theorem op_ld_enc (f : Fm) : opV S (.ld 4 true (.k (.ro (enc f)))) = some (enc f) := by simp [opV, M.val, X.ev]
@[simp] theorem op_ld_int (k : IntKind) (n : Int) : opV S (.ld 1 false (.k (.ro (.int k n)))) = some (.int k n) := rfl
@[simp] theorem op_ld_bool (b : Bool) : opV S (.ld 1 false (.k (.ro (.bool b)))) = some (.bool b) := rfl
@[simp] theorem op_ld_str (s : List UInt8) : opV S (.ld 1 false (.k (.ro (.str s)))) = some (.str s) := rfl
@[simp] theorem op_ld_sl (n : Bool) (s : Nat) (l : List V) : opV S (.ld 1 false (.k (.ro (.sl n s l)))) = some (.sl n s l) := rfl
@[simp] theorem op_ld_fn (f : Nat) (l : List V) : opV S (.ld 1 false (.k (.ro (.fn f l)))) = some (.fn f l) := rfl
@[simp] theorem op_ld_ro (x : V) : opV S (.ld 1 false (.k (.ro (.ro x)))) = some (.ro x) := rfl
@[simp] theorem op_fa_0 (f : Fm) : opV S (.fa 0 1 false (.k (.ro (enc f)))) = some (.ro (.int .i64 f.kind)) := by cases f; rfl
@[simp] theorem op_fa_1 (f : Fm) : opV S (.fa 1 1 false (.k (.ro (enc f)))) = some (.ro (.int .i64 f.n)) := by cases f; rfl
@[simp] theorem op_fa_2 (f : Fm) : opV S (.fa 2 1 false (.k (.ro (enc f)))) = some (.ro (.str f.text)) := by cases f; rfl
@[simp] theorem op_fa_3 (f : Fm) : opV S (.fa 3 1 false (.k (.ro (enc f)))) = some (.ro (.sl f.nl 4 (encs f.kids))) := by cases f; rfl
@[simp] theorem op_fld_0 (f : Fm) : opV S (.fld 0 1 false (.k (enc f))) = some (.int .i64 f.kind) := by cases f; rfl
@[simp] theorem op_fld_1 (f : Fm) : opV S (.fld 1 1 false (.k (enc f))) = some (.int .i64 f.n) := by cases f; rfl
@[simp] theorem op_fld_2 (f : Fm) : opV S (.fld 2 1 false (.k (enc f))) = some (.str f.text) := by cases f; rfl
@[simp] theorem op_fld_3 (f : Fm) : opV S (.fld 3 1 false (.k (enc f))) = some (.sl f.nl 4 (encs f.kids)) := by cases f; rfl
theorem op_bin (op : BinOp) (x y : V) : opV S (.bin op (.k x) (.k y)) = binV Ops.std op x y := by simp only [opV, M.val, X.ev, S.hO]
@[simp] theorem op_eql (k : IntKind) (a b : Int) : opV S (.bin .eql (.k (.int k a)) (.k (.int k b))) = some (.bool (decide (a = b))) := by rw [op_bin]; simp [binV, V.int?, binI, Ops.std]
@[simp] theorem op_neq (k : IntKind) (a b : Int) : opV S (.bin .neq (.k (.int k a)) (.k (.int k b))) = some (.bool (decide (a ≠ b))) := by rw [op_bin]; simp [binV, V.int?, binI, Ops.std]
@[simp] theorem op_lss (k : IntKind) (a b : Int) : opV S (.bin .lss (.k (.int k a)) (.k (.int k b))) = some (.bool (decide (a < b))) := by rw [op_bin]; simp [binV, V.int?, binI, Ops.std]
@[simp] theorem op_leq (k : IntKind) (a b : Int) : opV S (.bin .leq (.k (.int k a)) (.k (.int k b))) = some (.bool (decide (a ≤ b))) := by rw [op_bin]; simp [binV, V.int?, binI, Ops.std]
@[simp] theorem op_gtr (k : IntKind) (a b : Int) : opV S (.bin .gtr (.k (.int k a)) (.k (.int k b))) = some (.bool (decide (b < a))) := by rw [op_bin]; simp [binV, V.int?, binI, Ops.std]
@[simp] theorem op_geq (k : IntKind) (a b : Int) : opV S (.bin .geq (.k (.int k a)) (.k (.int k b))) = some (.bool (decide (b ≤ a))) := by rw [op_bin]; simp [binV, V.int?, binI, Ops.std]
@[simp] theorem op_seql (a b : List UInt8) : opV S (.bin .eql (.k (.str a)) (.k (.str b))) = some (.bool (decide (a = b))) := by rw [op_bin]; simp [binV, V.int?, V.str?, binS, Ops.std]
@[simp] theorem op_sneq (a b : List UInt8) : opV S (.bin .neq (.k (.str a)) (.k (.str b))) = some (.bool (decide (a ≠ b))) := by rw [op_bin]; simp [binV, V.int?, V.str?, binS, Ops.std]
theorem op_add {a b : Int} (h : -9223372036854775808 ≤ a + b) (h' : a + b ≤ 9223372036854775807) : opV S (.bin .add (.k (.int .i64 a)) (.k (.int .i64 b))) = some (.int .i64 (a + b)) := by
 rw [op_bin]; simp only [binV, V.int?, binI, if_true]; exact w_add rfl h h'
theorem op_sub {a b : Int} (h : -9223372036854775808 ≤ a - b) (h' : a - b ≤ 9223372036854775807) : opV S (.bin .sub (.k (.int .i64 a)) (.k (.int .i64 b))) = some (.int .i64 (a - b)) := by
 rw [op_bin]; simp only [binV, V.int?, binI, if_true]
 have : IntKind.i64.wrap (a - b) = a - b := by
  simp [IntKind.wrap, IntKind.bits, IntKind.signed]
  omega
 simp [Ops.std, binOp, Op.intArith, this, absS]
 rfl
@[simp] theorem op_not (b : Bool) : opV S (.un .not (.k (.bool b))) = some (.bool (!b)) := by cases b <;> rfl
@[simp] theorem op_pick (b : Bool) (x y : V) : opV S (.pick (.k (.bool b)) (.k x) (.k y)) = some (bif b then x else y) := rfl
@[simp] theorem op_eqb (a b : Bool) : opV S (.eqb false (.k (.bool a)) (.k (.bool b))) = some (.bool (a == b)) := by cases a <;> cases b <;> rfl
@[simp] theorem op_neb (a b : Bool) : opV S (.eqb true (.k (.bool a)) (.k (.bool b))) = some (.bool (a != b)) := by cases a <;> cases b <;> rfl
@[simp] theorem op_lns (s : List UInt8) : opV S (.lns (.k (.str s))) = some (.int .i64 s.length) := by simp [opV, M.val, X.ev, V.str?, S.hO, Ops.std]
@[simp] theorem op_cvs (s : List UInt8) : opV S (.cvs (.k (.str s))) = some (.str s) := rfl
@[simp] theorem op_cvi (k k' : IntKind) (n : Int) : opV S (.cvi k (.k (.int k' n))) = some (.int k (k.wrap n)) := by simp [opV, M.val, X.ev, V.int?, S.hO, Ops.std]
@[simp] theorem op_len (n : Bool) (s : Nat) (l : List V) : opV S (.len (.k (.sl n s l))) = some (.int .i64 l.length) := by simp [opV, M.val, X.ev, S.hO, Ops.std]
attribute [simp] encs_length
theorem op_ia {n : Bool} {s : Nat} {l : List V} {i : Int} {x : V} (h0 : 0 ≤ i) (h : l[i.toNat]? = some x) : opV S (.ia s (.k (.sl n s l)) (.k (.int .i64 i))) = some (.ro x) := by
 have hlt : i.toNat < l.length := (List.getElem?_eq_some_iff.1 h).1
 have : i < l.length := by omega
 simp [opV, M.val, X.ev, V.int?, S.hO, Ops.std, h0, this]
 exact (List.getElem?_eq_some_iff.1 h).2
theorem op_iaE {n : Bool} {l : List Fm} {i : Int} {f : Fm} (h0 : 0 ≤ i) (h : l[i.toNat]? = some f) : opV S (.ia 4 (.k (.sl n 4 (encs l))) (.k (.int .i64 i))) = some (.ro (enc f)) :=
 op_ia h0 (by rw [encs_get, h]; rfl)
theorem op_slc {n : Bool} {s : Nat} {xs : List V} {l h : Int} (h0 : 0 ≤ l) (h1 : l ≤ h) (h2 : h ≤ xs.length) :
  opV S (.slc s (.k (.sl n s xs)) (some (.k (.int .i64 l))) (some (.k (.int .i64 h))) none) = some (.sl n s ((xs.take h.toNat).drop l.toNat)) := by
 simp [opV, M.val, X.ev, optInt, V.int?, S.hO, Ops.std, h0, h1, h2]
theorem op_slcL {n : Bool} {s : Nat} {xs : List V} {l : Int} (h0 : 0 ≤ l) (h1 : l ≤ xs.length) :
  opV S (.slc s (.k (.sl n s xs)) (some (.k (.int .i64 l))) none none) = some (.sl n s (xs.drop l.toNat)) := by
 simp [opV, M.val, X.ev, optInt, V.int?, S.hO, Ops.std, h0, h1]
theorem op_slcE {n : Bool} {ls : List Fm} {l : Int} (h0 : 0 ≤ l) (h1 : l ≤ ls.length) :
  opV S (.slc 4 (.k (.sl n 4 (encs ls))) (some (.k (.int .i64 l))) none none) = some (.sl n 4 (encs (ls.drop l.toNat))) := by
 rw [op_slcL h0 (by rw [encs_length]; exact h1), encs_drop]
@[simp] theorem op_isnil (neg n : Bool) (s : Nat) (l : List V) : opV S (.isnil neg (.k (.sl n s l))) = some (.bool (bif neg then !n else n)) := by cases neg <;> cases n <;> rfl
@[simp] theorem op_inil (neg : Bool) (t : Nat) (x : V) : opV S (.inil neg (.k (.iface t x))) = some (.bool neg) := rfl
@[simp] theorem op_inil' (neg : Bool) : opV S (.inil neg (.k .niliface)) = some (.bool !neg) := by cases neg <;> rfl
theorem op_mki {t : Nat} {x : V} (h : x.data = true) : opV S (.mki t (.k x)) = some (.iface t x) := by simp [opV, M.val, X.ev, h]
@[simp] theorem op_ext0 (x : V) (l : List V) : opV S (.ext (.k (.tup (x :: l))) 0) = if x.isGr then none else some x := rfl
@[simp] theorem op_ext1 (x y : V) (l : List V) : opV S (.ext (.k (.tup (x :: y :: l))) 1) = if y.isGr then none else some y := rfl
@[simp] theorem op_ext2 (x y z : V) (l : List V) : opV S (.ext (.k (.tup (x :: y :: z :: l))) 2) = if z.isGr then none else some z := rfl
@[simp] theorem gr_int (k : IntKind) (n : Int) : (V.int k n).isGr = false := rfl
@[simp] theorem gr_bool (b : Bool) : (V.bool b).isGr = false := rfl
@[simp] theorem gr_str (s : List UInt8) : (V.str s).isGr = false := rfl
@[simp] theorem gr_sl (n : Bool) (s : Nat) (l : List V) : (V.sl n s l).isGr = false := rfl
@[simp] theorem gr_agg (l : List V) : (V.agg l).isGr = false := rfl
@[simp] theorem gr_fn (f : Nat) (l : List V) : (V.fn f l).isGr = false := rfl
@[simp] theorem gr_ro (x : V) : (V.ro x).isGr = false := rfl
@[simp] theorem gr_plain (x : V) : x.plain.isGr = false := plain_isGr x
theorem eff_mks {e sz : Nat} {l : List X} {K : V → St → Prop} (h : ∀ x ∈ l.map (·.ev fun _ => V.any), x.data = true ∧ x.cells.length = sz) (hl : l.length * sz ≤ 16777216) (hk : K (.gr e false sz (l.map (·.ev fun _ => V.any))) S) : effA S (.mks e sz l) K := by
 unfold effA
 have hg : S.O.good sz (l.map (·.ev fun _ => V.any)) = true := by
  rw [S.hO]; simp only [Ops.std, Bool.and_eq_true, List.all_eq_true, decide_eq_true_eq, beq_iff_eq, List.length_map]
  exact ⟨h, hl⟩
 simp only [M.eff, hg]
 exact hk
theorem eff_mks1 {e sz : Nat} {x : V} {K : V → St → Prop} (h : x.data = true ∧ x.cells.length = sz) (hl : sz ≤ 16777216) (hk : K (.gr e false sz [x]) S) : effA S (.mks e sz [.k x]) K :=
 eff_mks (l := [.k x]) (by intro y hy; simp [X.ev] at hy; subst hy; exact h) (by simpa using hl) hk
theorem eff_mks2 {e sz : Nat} {x y : V} {K : V → St → Prop} (h : x.data = true ∧ x.cells.length = sz) (h' : y.data = true ∧ y.cells.length = sz) (hl : 2 * sz ≤ 16777216) (hk : K (.gr e false sz [x, y]) S) : effA S (.mks e sz [.k x, .k y]) K :=
 eff_mks (l := [.k x, .k y]) (by intro z hz; simp [X.ev] at hz; rcases hz with rfl | rfl; exact h; exact h') (by simpa using hl) hk
theorem app_gr {e sz bytes : Nat} {nl nl' : Bool} {xs ys : List V} (h : (xs.length + ys.length) * bytes ≤ 1099511627776) (h' : xs.length + ys.length ≤ 1099511627776) :
  appV Ops.std e sz bytes (.gr e nl sz xs) (.sl nl' sz ys) = some (.gr e (nl && ys.isEmpty) sz (xs ++ ys)) := by
 have hf : Ops.std.fit bytes xs ys = true := by simp [Ops.std, h, h']
 simp only [appV, growOf, and_self, if_true, true_or, hf]
 cases nl <;> rfl
theorem app_nil {e sz s' bytes : Nat} {nl' : Bool} {ys : List V} (h : ys.length * bytes ≤ 1099511627776) (h' : ys.length ≤ 1099511627776) :
  appV Ops.std e sz bytes (.sl true s' []) (.sl nl' sz ys) = some (.gr e ys.isEmpty sz ys) := by
 have hf : Ops.std.fit bytes [] ys = true := by simp [Ops.std, h, h']
 simp only [appV, growOf, true_or, if_true, hf]
 rfl
end
def AE.refsB (p : Nat → Nat → Bool) : AE → Prop
 | .ret v | .pan v => v.refsB p
theorem Thr_of_lvcB {P : Program} {f : Nat} {fn : Func} {L : LF} {args : List V} {r : AE} (hm : P.follows .mixedOrders = true) (hf : P.funcs[f]? = some fn) (hgo : isGo P f = true) {ms : List Nat} (hc : compFm P fn ms = some L.er)
  (hN : args.length ≤ L.N) (hr : ∀ p, r.refsB p) (h : ∀ S, lvc P L.c (retL L.rs fun e S' => e = r ∧ Own S S') (frame0 args) S) : Thr P f args r := by
 intro S
 refine ACalls_of_vcm hm hf hgo hc hN fun hw => (lvc_sound L.c _ _ _ (h S.enter)).imp fun e σ S1 he => retL_retPost (fun e S1 hk => ?_) he
 obtain ⟨rfl, l, rfl⟩ := hk
 refine ⟨S, ?_, ⟨Nat.le_refl _, rfl, Nat.le_refl _, fun i k x hx => ?_⟩, rfl, rfl⟩
 ·have := hr S.ok
  cases e <;> exact this
 ·have h2 := hw i k x hx
  refine ⟨?_, h2⟩
  have h3 := (ok_iff _ _ _).1 h2.1
  rw [own_H, if_neg (by simp only [St.enter]; omega)]
  exact hx
end Go.Pl
namespace Go.Pl
section
variable {S : St}
@[simp] theorem op_ia0 (n : Bool) (s : Nat) (x : V) (l : List V) : opV S (.ia s (.k (.sl n s (x :: l))) (.k (.int .i64 0))) = some (.ro x) := op_ia (Int.le_refl 0) rfl
@[simp] theorem op_ia1 (n : Bool) (s : Nat) (x y : V) (l : List V) : opV S (.ia s (.k (.sl n s (x :: y :: l))) (.k (.int .i64 1))) = some (.ro y) := op_ia (by decide) rfl
@[simp] theorem op_ia2 (n : Bool) (s : Nat) (x y z : V) (l : List V) : opV S (.ia s (.k (.sl n s (x :: y :: z :: l))) (.k (.int .i64 2))) = some (.ro z) := op_ia (by decide) rfl
@[simp] theorem op_slc1 (n : Bool) (s : Nat) (x : V) (l : List V) : opV S (.slc s (.k (.sl n s (x :: l))) (some (.k (.int .i64 1))) none none) = some (.sl n s l) := by
 rw [op_slcL (by decide) (by simp only [List.length_cons]; omega)]; rfl
@[simp] theorem op_slc2 (n : Bool) (s : Nat) (x y : V) (l : List V) : opV S (.slc s (.k (.sl n s (x :: y :: l))) (some (.k (.int .i64 2))) none none) = some (.sl n s l) := by
 rw [op_slcL (by decide) (by simp only [List.length_cons]; omega)]; rfl
@[simp] theorem encs_nil : encs [] = [] := rfl
@[simp] theorem encs_cons (f : Fm) (l : List Fm) : encs (f :: l) = enc f :: encs l := rfl
end
end Go.Pl
namespace Go.Pl
structure Grew (S S' : St) : Prop where
 n : S.n ≤ S'.n
 b : S'.b = S.b
 c : S.c ≤ S'.c
 H : ∀ i k x, S.H i k = some x → S'.H i k = some x
theorem Grew.refl (S : St) : Grew S S := ⟨Nat.le_refl _, rfl, Nat.le_refl _, fun _ _ _ h => h⟩
theorem Thr_of_lvcG {P : Program} {f : Nat} {fn : Func} {L : LF} {args : List V} {r : AE} (hm : P.follows .mixedOrders = true) (hf : P.funcs[f]? = some fn) (hgo : isGo P f = true) {ms : List Nat} (hc : compFm P fn ms = some L.er)
  (hN : args.length ≤ L.N) (hr : ∀ p, r.refsB p) (h : ∀ S, WFS S → lvc P L.c (retL L.rs fun e S' => e = r ∧ Grew S S') (frame0 args) S) : Thr P f args r := by
 intro S
 refine ACalls_of_vcm hm hf hgo hc hN fun hw => (lvc_sound L.c _ _ _ (h S.enter ?_)).imp fun e σ S1 he => retL_retPost (fun e S1 hk => ?_) he
 ·intro i k x hx
  have h2 := hw i k x hx
  have up : ∀ i k, S.ok i k = true → S.enter.ok i k = true := fun i k h => by
   rw [ok_iff] at h ⊢
   simp only [St.enter]
   omega
  exact ⟨up _ _ h2.1, refsB_mono up x h2.2⟩
 obtain ⟨rfl, hg⟩ := hk
 refine ⟨S, ?_, ⟨Nat.le_refl _, rfl, Nat.le_refl _, fun i k x hx => ⟨hg.H i k x hx, hw i k x hx⟩⟩, rfl, rfl⟩
 have := hr S.ok
 cases e <;> exact this
section
variable {S : St}
@[simp] theorem eff_mmk (K : V → St → Prop) : effA S .mmk K = K (.mref S.b S.c) (own S [.mapv [] []]) := rfl
theorem op_mlk_none {kt ok : Bool} {z : V} {i j : Nat} {k : V} {ks vs : List V} (hH : S.H i j = some (.mapv ks vs)) (hf : findV kt ks vs k = some none) :
  opV S (.mlk kt ok z (.k (.mref i j)) (.k k)) = some (bif ok then .tup [z, .bool false] else z) := by
 have hO : S.O.mfind = findV := by rw [S.hO]; rfl
 simp only [opV, M.val, X.ev, hH, hO, hf]
theorem op_mlk_some {kt ok : Bool} {z : V} {i j : Nat} {k v : V} {ks vs : List V} (hH : S.H i j = some (.mapv ks vs)) (hf : findV kt ks vs k = some (some v)) (hg : v.isGr = false) :
  opV S (.mlk kt ok z (.k (.mref i j)) (.k k)) = some (bif ok then .tup [v, .bool true] else v) := by
 have hO : S.O.mfind = findV := by rw [S.hO]; rfl
 simp only [opV, M.val, X.ev, hH, hO, hf, hg]
 rfl
theorem eff_mup {kt : Bool} {i j : Nat} {k v : V} {ks vs : List V} {p : List V × List V} {K : V → St → Prop} (hH : S.H i j = some (.mapv ks vs)) (hp : putV kt ks vs k v = some p) (hk : K .any (S.set i j (.mapv p.1 p.2))) :
  effA S (.mup kt (.k (.mref i j)) (.k k) (.k v)) K := by
 have hO : S.O.mput = putV := by rw [S.hO]; rfl
 unfold effA
 simp only [M.eff, X.ev, hH, hO, hp]
 exact hk
theorem own_H0 {l : List V} {x : V} : (own S (x :: l)).H S.b S.c = some x := own_at (k := 0) rfl
theorem own_set0 {l : List V} {x y : V} : (own S (x :: l)).set S.b S.c y = own S (y :: l) := own_set (k := 0) (by simp)
theorem eff_mup0 {kt : Bool} {k v : V} {ks vs l : List V} {p : List V × List V} {K : V → St → Prop} (hp : putV kt ks vs k v = some p) (hk : K .any (own S (.mapv p.1 p.2 :: l))) :
  effA (own S (.mapv ks vs :: l)) (.mup kt (.k (.mref S.b S.c)) (.k k) (.k v)) K := eff_mup own_H0 hp (by rw [own_set0]; exact hk)
def alK (l : List (List UInt8 × Int)) : List V := l.map fun p => .str p.1
def alV (l : List (List UInt8 × Int)) : List V := l.map fun p => .int .i64 p.2
def alGet : List (List UInt8 × Int) → List UInt8 → Option Int
 | [], _ => none
 | p :: l, k => if k = p.1 then some p.2 else alGet l k
def alPut : List (List UInt8 × Int) → List UInt8 → Int → List (List UInt8 × Int)
 | [], k, v => [(k, v)]
 | p :: l, k, v => if k = p.1 then (p.1, v) :: l else p :: alPut l k v
theorem al_find : ∀ (l : List (List UInt8 × Int)) (k : List UInt8), findV true (alK l) (alV l) (.str k) = some ((alGet l k).map fun n => .int .i64 n)
 | [], _ => rfl
 | p :: l, k => by
  have ih := al_find l k
  simp only [alK, alV] at ih
  simp only [alK, alV, List.map_cons, findV, keyEq, alGet]
  by_cases h : k = p.1
  ·simp [h]
  ·simp [h, ih]
theorem al_put : ∀ (l : List (List UInt8 × Int)) (k : List UInt8) (v : Int), putV true (alK l) (alV l) (.str k) (.int .i64 v) = some (alK (alPut l k v), alV (alPut l k v))
 | [], _, _ => rfl
 | p :: l, k, v => by
  have ih := al_put l k v
  simp only [alK, alV] at ih
  simp only [alK, alV, List.map_cons, putV, keyEq, alPut]
  by_cases h : k = p.1
  ·simp [h]
  ·simp [h, ih]
theorem op_mlk_al {i j : Nat} {l : List (List UInt8 × Int)} {h : List UInt8} (hH : S.H i j = some (.mapv (alK l) (alV l))) :
  opV S (.mlk true true (.int .i64 0) (.k (.mref i j)) (.k (.str h))) = some (.tup [.int .i64 ((alGet l h).getD 0), .bool (alGet l h).isSome]) := by
 have hf := al_find l h
 cases hg : alGet l h with
 | none => rw [hg] at hf; rw [op_mlk_none hH hf]; rfl
 | some m => rw [hg] at hf; rw [op_mlk_some hH hf rfl]; rfl
end
end Go.Pl
namespace Go.Pl
section
variable {S : St}
@[simp] theorem op_sleq (a b : List UInt8) : opV S (.bin .leq (.k (.str a)) (.k (.str b))) = some (.bool (Op.bytesLess a b || decide (a = b))) := by
 rw [op_bin]
 simp only [binV, V.int?, V.str?, binS, Ops.std]
 cases Op.bytesLess a b <;> rfl
@[simp] theorem op_slss (a b : List UInt8) : opV S (.bin .lss (.k (.str a)) (.k (.str b))) = some (.bool (Op.bytesLess a b)) := by
 rw [op_bin]
 simp only [binV, V.int?, V.str?, binS, Ops.std]
def stK (l : List (List UInt8)) : List V := l.map .str
def stV (l : List (List UInt8)) : List V := l.map fun _ => .bool true
theorem st_find : ∀ (l : List (List UInt8)) (k : List UInt8), findV true (stK l) (stV l) (.str k) = some (if k ∈ l then some (.bool true) else none)
 | [], _ => rfl
 | p :: l, k => by
  have ih := st_find l k
  simp only [stK, stV] at ih
  simp only [stK, stV, List.map_cons, findV, keyEq]
  by_cases h : k = p
  ·simp [h]
  ·simp [h, ih]
theorem st_put : ∀ (l : List (List UInt8)) (k : List UInt8), k ∉ l → putV true (stK l) (stV l) (.str k) (.bool true) = some (stK (l ++ [k]), stV (l ++ [k]))
 | [], _, _ => rfl
 | p :: l, k, h => by
  have ih := st_put l k (fun h' => h (by simp [h']))
  simp only [stK, stV] at ih
  have hne : k ≠ p := fun e => h (by simp [e])
  simp only [stK, stV, List.map_cons, List.cons_append, putV, keyEq]
  simp [hne, ih]
theorem op_mlk_st {i j : Nat} {l : List (List UInt8)} {h : List UInt8} (hH : S.H i j = some (.mapv (stK l) (stV l))) : opV S (.mlk true false (.bool false) (.k (.mref i j)) (.k (.str h))) = some (.bool (decide (h ∈ l))) := by
 have hf := st_find l h
 by_cases hg : h ∈ l
 ·rw [if_pos hg] at hf; rw [op_mlk_some hH hf rfl]; simp [hg]
 ·rw [if_neg hg] at hf; rw [op_mlk_none hH hf]; simp [hg]
end
end Go.Pl
