/- The walks put together: what MeasureCond comes to. -/
import Derived.Test.YtllbopmdpmjcpaaGreatDoorZFn13
set_option linter.unusedSimpArgs false
set_option linter.unusedVariables false
set_option linter.unusedSectionVars false
open Go Go.Pl Go.Proofs
namespace Go.Pl.Z
set_option maxRecDepth 100000


mutual
def small : Fm → Prop
  | .mk _ _ _ _ l => l.length ≤ 1000000000 ∧ smalls l
def smalls : List Fm → Prop
  | [] => True
  | f :: r => small f ∧ smalls r
end
theorem smalls_mem {l : List Fm} (h : smalls l) {f : Fm} (hf : f ∈ l) : small f := by
  induction l with
  | nil => cases hf
  | cons a r ih =>
    rcases List.mem_cons.1 hf with rfl | hf
    · exact h.1
    · exact ih h.2 hf

theorem rI (k : IntKind) (n : Int) (p : Nat → Nat → Bool) : (V.int k n).refsB p := by simp only [V.refsB]
theorem rB (b : Bool) (p : Nat → Nat → Bool) : (V.bool b).refsB p := by simp only [V.refsB]
theorem rS (s : List UInt8) (p : Nat → Nat → Bool) : (V.str s).refsB p := by simp only [V.refsB]
theorem r0 (p : Nat → Nat → Bool) : V.refsBs p [] := by simp only [V.refsBs]

theorem p21 (n : Int) (S : St) : Pl.Pure Tryz.prog 21 [.int .i64 n] S (enc (num n)) := mkPure hm Tryz.func21 g21 c21 (Nat.le_of_ble_eq_true rfl) (fun p => enc_refsB p _) (w21 _ n) S
theorem p80 (n : Int) (S : St) : Pl.Pure Tryz.prog 80 [.int .i64 n] S (enc (num n)) := mkPure hm Tryz.func80 g80 c80 (Nat.le_of_ble_eq_true rfl) (fun p => enc_refsB p _) (w80 _ n) S
theorem p48 (s : List UInt8) (S : St) : Pl.Pure Tryz.prog 48 [.str s] S (wordV s) := mkPure hm Tryz.func48 g48 c48 (Nat.le_of_ble_eq_true rfl) (fun p => enc_refsB p (word s)) (w48 _ s) S
theorem p82 (s : List UInt8) (S : St) : Pl.Pure Tryz.prog 82 [.str s] S (wordV s) := mkPure hm Tryz.func82 g82 c82 (Nat.le_of_ble_eq_true rfl) (fun p => enc_refsB p (word s)) (w82 _ s) S
theorem p47 (nl : Bool) (xs : List V) (hr : ∀ p, V.refsBs p xs) (S : St) : Pl.Pure Tryz.prog 47 [.sl nl 4 xs] S (listV nl xs) := mkPure hm Tryz.func47 g47 c47 (Nat.le_of_ble_eq_true rfl) (listV_refs hr) (w47v _ nl xs) S
theorem p81 (nl : Bool) (xs : List V) (hr : ∀ p, V.refsBs p xs) (S : St) : Pl.Pure Tryz.prog 81 [.sl nl 4 xs] S (listV nl xs) := mkPure hm Tryz.func81 g81 c81 (Nat.le_of_ble_eq_true rfl) (listV_refs hr) (w81v _ nl xs) S
theorem p24 : Makes Tryz.prog 24 := fun s nl xs hl hr S => mkPure hm Tryz.func24 g24 c24 (Nat.le_of_ble_eq_true rfl) (callV_refs hr) (w24v _ s nl xs hl hr p48 p47) S
theorem p45 : Makes Tryz.prog 45 := fun s nl xs hl hr S => mkPure hm Tryz.func45 g45 c45 (Nat.le_of_ble_eq_true rfl) (callV_refs hr) (w45v _ s nl xs hl hr p82 p81) S
theorem p49 (a b : Bool) (S : St) : Pl.Pure Tryz.prog 49 [.bool a, .bool b] S (.int .i64 (sgn a b)) := mkPure hm Tryz.func49 g49 c49 (Nat.le_of_ble_eq_true rfl) (rI _ _) (w49 _ a b) S

theorem p25 : ∀ (f : Fm), small f → ∀ S : St, Pl.Pure Tryz.prog 25 [enc f, enc f] S (.int .i64 0)
  | .mk k n t b l, h, S =>
    mkPure hm Tryz.func25 g25 c25 (Nat.le_of_ble_eq_true rfl) (rI _ _) (w25 _ (.mk k n t b l) h.1 p49 (fun f hf S => p25 f (smalls_mem h.2 hf) S)) S
  termination_by f _ _ => SizeOf.sizeOf f
  decreasing_by
  have := List.sizeOf_lt_of_mem hf
  simp only [Fm.kids] at this
  simp only [Fm.mk.sizeOf_spec]
  omega

theorem p13 (f : Fm) (h : small f) (S : St) : Pl.Pure Tryz.prog 13 [enc f, enc f] S (.bool true) := mkPure hm Tryz.func13 g13 c13 (Nat.le_of_ble_eq_true rfl) (rB _) (w13 _ f (p25 f h)) S

theorem kidsF_refs (f : Fm) (p : Nat → Nat → Bool) : (kidsF f).refsB p := by
  unfold kidsF
  split
  · simp only [V.refsB]; exact encs_refsB p _
  · trivial
theorem p58 (f : Fm) (S : St) : Pl.Pure Tryz.prog 58 [enc f] S (kidsF f) := mkPure hm Tryz.func58 g58 c58 (Nat.le_of_ble_eq_true rfl) (kidsF_refs f) (w58 _ f) S
theorem p36 (f : Fm) (S : St) : Pl.Pure Tryz.prog 36 [enc f] S (.str (headF f)) := mkPure hm Tryz.func36 g36 c36 (Nat.le_of_ble_eq_true rfl) (rS _) (w36 _ f) S
theorem p28 (f : Fm) (S : St) : Pl.Pure Tryz.prog 28 [enc f] S (.str (headF f)) := mkPure hm Tryz.func28 g28 c28 (Nat.le_of_ble_eq_true rfl) (rS _) (w28 _ f (p58 f)) S
theorem p38 (s row : List UInt8) (h : row.length ≤ 1000000000) (S : St) : Pl.Pure Tryz.prog 38 [.str s, .str row] S (.bool (inRow s row)) := mkPure hm Tryz.func38 g38 c38 (Nat.le_of_ble_eq_true rfl) (rB _) (w38 _ s row h) S
theorem p38a (s : List UInt8) (S : St) : Pl.Pure Tryz.prog 38 [.str s, .str setBag] S (.bool (decide (s = kSet ∨ s = kBag))) := by
  have h := p38 s setBag (by decide) S
  have e : splitAux [] setBag = [kSet, kBag] := by decide
  rw [inRow, e] at h
  simpa using h
theorem p38b (s : List UInt8) (S : St) : Pl.Pure Tryz.prog 38 [.str s, .str funImapMaybe] S (.bool (decide (s = kImap ∨ s = kFun ∨ s = kMaybe))) := by
  have h := p38 s funImapMaybe (by decide) S
  have e : splitAux [] funImapMaybe = [kFun, kImap, kMaybe] := by decide
  rw [inRow, e] at h
  have : (s ∈ [kFun, kImap, kMaybe]) ↔ (s = kImap ∨ s = kFun ∨ s = kMaybe) := by
    simp only [List.mem_cons, List.not_mem_nil, or_false]
    constructor
    · rintro (h | h | h)
      · exact .inr (.inl h)
      · exact .inl h
      · exact .inr (.inr h)
    · rintro (h | h | h)
      · exact .inr (.inl h)
      · exact .inl h
      · exact .inr (.inr h)
  rw [decide_eq_decide.2 this] at h
  exact h

theorem properV_refs {a b : V} (ha : ∀ p, a.refsB p) (hb : ∀ p, b.refsB p) (p : Nat → Nat → Bool) : (properV a b).refsB p := by
  simp only [properV, callV, listV, wordV, V.refsB, V.refsBs, ha p, hb p, and_self]

theorem p79 (ka ma : Int) (ta : List UInt8) (na : Bool) (xa : List V) (kb mb : Int) (tb : List UInt8) (nb : Bool) (xb : List V) (ha : ∀ p, V.refsBs p xa) (hb : ∀ p, V.refsBs p xb) (S : St) :
    Pl.Pure Tryz.prog 79 [fmV ka ma ta na xa, fmV kb mb tb nb xb] S (properV (fmV ka ma ta na xa) (fmV kb mb tb nb xb)) :=
  mkPure hm Tryz.func79 g79 c79 (Nat.le_of_ble_eq_true rfl) (properV_refs (fmV_refs ha) (fmV_refs hb)) (w79 _ ka ma ta na xa kb mb tb nb xb ha hb p45) S

theorem pairV_refs {z : V} {o : Option V} (hz : ∀ p, z.refsB p) (ho : ∀ c, o = some c → ∀ p, c.refsB p) (p : Nat → Nat → Bool) : (pairV z o).refsB p := by
  cases o with
  | none => simp only [pairV, V.refsB, V.refsBs, hz p, and_self]
  | some c => simp only [pairV, V.refsB, V.refsBs, ho c rfl p, and_self]

theorem p44 (t a b : Fm) (S : St) : Pl.Pure Tryz.prog 44 [enc t, enc a, enc b] S (pairV (enc t) (posV t.kind t.text (headF t) (enc a) (enc b))) := by
  have h28 := p28 t
  have rt : ∀ p, V.refsBs p (encs t.kids) := fun p => encs_refsB p _
  obtain ⟨tk, tm, tt, tn, tl⟩ := t
  obtain ⟨ak, am, at', an, al⟩ := a
  obtain ⟨bk, bm, bt, bn, bl⟩ := b
  have ra : ∀ p, V.refsBs p (encs al) := fun p => encs_refsB p _
  have rb : ∀ p, V.refsBs p (encs bl) := fun p => encs_refsB p _
  generalize headF (.mk tk tm tt tn tl) = hd at *
  simp only [Fm.kids] at rt
  change ∀ S, Pl.Pure Tryz.prog 28 [fmV tk tm tt tn (encs tl)] S _ at h28
  change Pl.Pure Tryz.prog 44 [fmV tk tm tt tn (encs tl), fmV ak am at' an (encs al), fmV bk bm bt bn (encs bl)] S (pairV (fmV tk tm tt tn (encs tl)) (posV tk tt hd (fmV ak am at' an (encs al)) (fmV bk bm bt bn (encs bl))))
  generalize encs tl = xt at *
  generalize encs al = xa at *
  generalize encs bl = xb at *
  have w := w44 Tryz.prog tk tm tt tn xt hd ak am at' an xa bk bm bt bn xb ra rb p45 p80 p79 h28
  exact mkPure hm Tryz.func44 g44 c44 (Nat.le_of_ble_eq_true rfl) (pairV_refs (fmV_refs rt) fun c hc => posV_refs hc (fmV_refs ra) (fmV_refs rb)) w S

theorem headF_kind (f : Fm) (h : f.kind ≠ 3) : headF f = [] := by unfold headF; rw [if_neg h]

theorem p23s (ka ma : Int) (ta : List UInt8) (na : Bool) (xa : List V) (kb mb : Int) (tb : List UInt8) (nb : Bool) (xb : List V) (ha : ∀ p, V.refsBs p xa) (hb : ∀ p, V.refsBs p xb) (S : St) :
    Pl.Pure Tryz.prog 23 [fmV 3 0 [] false [wordV kSet], fmV ka ma ta na xa, fmV kb mb tb nb xb] S (.tup [properV (fmV ka ma ta na xa) (fmV kb mb tb nb xb), .bool true]) := by
  have e : pairV (fmV 0 0 [] true []) (posV 3 [] kSet (fmV ka ma ta na xa) (fmV kb mb tb nb xb)) = .tup [properV (fmV ka ma ta na xa) (fmV kb mb tb nb xb), .bool true] := by
    have : posV 3 [] kSet (fmV ka ma ta na xa) (fmV kb mb tb nb xb) = some (properV (fmV ka ma ta na xa) (fmV kb mb tb nb xb)) := by
      unfold posV
      rw [if_neg (by decide), if_neg (by decide), if_neg (by decide), if_pos (by decide)]
    rw [this]; rfl
  rw [← e]
  have h36 : ∀ S, Pl.Pure Tryz.prog 36 [fmV 3 0 [] false [wordV kSet]] S (.str kSet) := p36 (call kSet [])
  have w := w23 Tryz.prog 3 0 [] false [wordV kSet] kSet ka ma ta na xa kb mb tb nb xb ha hb (fun h => absurd rfl h) p24 p21 h36 p38a p38b (fun h => absurd h (by decide))
  exact mkPure hm Tryz.func23 g23 c23 (Nat.le_of_ble_eq_true rfl) (pairV_refs (fmV_refs r0) fun c hc => posV_refs hc (fmV_refs ha) (fmV_refs hb)) w S

theorem p23 (t a b : Fm) (S : St) : Pl.Pure Tryz.prog 23 [enc t, enc a, enc b] S (pairV (fmV 0 0 [] true []) (posV t.kind t.text (headF t) (enc a) (enc b))) := by
  have h36 := p36 t
  have hk := headF_kind t
  have rt : ∀ p, V.refsBs p (encs t.kids) := fun p => encs_refsB p _
  obtain ⟨tk, tm, tt, tn, tl⟩ := t
  obtain ⟨ak, am, at', an, al⟩ := a
  obtain ⟨bk, bm, bt, bn, bl⟩ := b
  have ra : ∀ p, V.refsBs p (encs al) := fun p => encs_refsB p _
  have rb : ∀ p, V.refsBs p (encs bl) := fun p => encs_refsB p _
  generalize headF (.mk tk tm tt tn tl) = hd at *
  simp only [Fm.kind, Fm.text, Fm.kids] at hk rt ⊢
  change ∀ S, Pl.Pure Tryz.prog 36 [fmV tk tm tt tn (encs tl)] S _ at h36
  change Pl.Pure Tryz.prog 23 [fmV tk tm tt tn (encs tl), fmV ak am at' an (encs al), fmV bk bm bt bn (encs bl)] S (pairV _ (posV _ _ _ (fmV ak am at' an (encs al)) (fmV bk bm bt bn (encs bl))))
  generalize encs tl = xt at *
  generalize encs al = xa at *
  generalize encs bl = xb at *
  have rk : ∀ k m t n xs, (∀ p, V.refsBs p xs) → ∀ p, V.refsBs p [wordV [107, 101, 121, 115], fmV k m t n xs] := fun k m t n xs h p => by simp only [wordV, fmV, V.refsB, V.refsBs, h p, and_self]
  have h23 : hd = kMap → ∀ S, Pl.Pure Tryz.prog 23 [callV kSet [], callV [107, 101, 121, 115] [fmV ak am at' an xa], callV [107, 101, 121, 115] [fmV bk bm bt bn xb]] S
      (.tup [properV (callV [107, 101, 121, 115] [fmV ak am at' an xa]) (callV [107, 101, 121, 115] [fmV bk bm bt bn xb]), .bool true]) := fun _ S =>
    p23s 3 0 [] false [wordV [107, 101, 121, 115], fmV ak am at' an xa] 3 0 [] false [wordV [107, 101, 121, 115], fmV bk bm bt bn xb] (rk _ _ _ _ _ ra) (rk _ _ _ _ _ rb) S
  have w := w23 Tryz.prog tk tm tt tn xt hd ak am at' an xa bk bm bt bn xb ra rb hk p24 p21 h36 p38a p38b h23
  exact mkPure hm Tryz.func23 g23 c23 (Nat.le_of_ble_eq_true rfl) (pairV_refs (fmV_refs r0) fun c hc => posV_refs hc (fmV_refs ra) (fmV_refs rb)) w S

theorem cloneV_refs (nl : Bool) (xs : List V) (hr : ∀ p, V.refsBs p xs) (p : Nat → Nat → Bool) : (cloneV nl xs).refsB p := by
  cases nl
  · simp only [cloneV, V.refsB]; exact hr p
  · trivial
theorem p46 (nl : Bool) (xs : List V) (hl : xs.length ≤ 1000000000) (hr : ∀ p, V.refsBs p xs) (S : St) : Pl.Pure Tryz.prog 46 [.sl nl 4 xs] S (cloneV nl xs) := mkPure hm Tryz.func46 g46 c46 (Nat.le_of_ble_eq_true rfl) (cloneV_refs nl xs hr) (w46 _ nl xs hl) S

theorem condV_refs (T Os Ns : List Fm) (h : T.length = Os.length) (p : Nat → Nat → Bool) : (condV T Os Ns).refsB p := by
  have := condAllV_refs T Os Ns p
  rwa [condAllV, if_pos h] at this
theorem p22 (nt no nn : Bool) (T Os Ns : List Fm) (hT : T.length = Os.length) (h1 : Os.length ≤ 100000000) (h2 : Ns.length ≤ 100000000) (S : St) :
    Pl.Pure Tryz.prog 22 [.sl nt 4 (encs T), .sl no 4 (encs Os), .sl nn 4 (encs Ns)] S (condV T Os Ns) :=
  mkPure hm Tryz.func22 g22 c22 (Nat.le_of_ble_eq_true rfl) (condV_refs T Os Ns hT) (w22 _ nt no nn T Os Ns hT h1 h2 p44 p45 p46) S
theorem p11 (nt no nn : Bool) (T Os Ns : List Fm) (h1 : Os.length ≤ 100000000) (h2 : Ns.length ≤ 100000000) (S : St) :
    Pl.Pure Tryz.prog 11 [.sl nt 4 (encs T), .sl no 4 (encs Os), .sl nn 4 (encs Ns)] S (condAllV T Os Ns) :=
  mkPure hm Tryz.func11 g11 c11 (Nat.le_of_ble_eq_true rfl) (condAllV_refs T Os Ns) (w11 _ nt no nn T Os Ns (fun h => p22 nt no nn T Os Ns h h1 h2)) S
theorem p12 (nt no nn : Bool) (T Os Ns : List Fm) (h1 : Os.length ≤ 100000000) (h2 : Ns.length ≤ 100000000) (S : St) :
    Pl.Pure Tryz.prog 12 [.sl nt 4 (encs T), .sl no 4 (encs Os), .sl nn 4 (encs Ns)] S (condAllV T Os Ns) :=
  mkPure hm Tryz.func12 g12 c12 (Nat.le_of_ble_eq_true rfl) (condAllV_refs T Os Ns) (w12 _ nt no nn T Os Ns h1 h2 p23 p24) S

theorem p83n (m : Int) (h0 : 0 ≤ m) (h1 : m ≤ 5) (S : St) : Pl.Pure Tryz.prog 83 [enc (num m)] S (.bool true) := mkPure hm Tryz.func83 g83 c83 (Nat.le_of_ble_eq_true rfl) (rB _) (w83n _ m h0 h1) S
theorem p27n (m : Int) (S : St) : Pl.Pure Tryz.prog 27 [enc (num m)] S (.bool true) := mkPure hm Tryz.func27 g27 c27 (Nat.le_of_ble_eq_true rfl) (rB _) (w27n _ m) S
theorem p50n (m : Int) (h0 : 0 ≤ m) (h1 : m ≤ 5) (S : St) (i : Nat) (hS : S.H i 1 = some (.int .i64 20000)) : ACalls Tryz.prog 50 [enc (num m), .ref i 1 0, .int .i64 100] S fun e S' => e = .ret (.bool true) ∧ S' = S.set i 1 (.int .i64 19999) :=
  ACalls_of_vc hm Tryz.func50 g50 c50 (Nat.le_of_ble_eq_true rfl) (w50n _ m S i hS (p83n m h0 h1))
theorem p26n (m : Int) (h0 : 0 ≤ m) (h1 : m ≤ 5) (S : St) : Pl.Pure Tryz.prog 26 [enc (num m)] S (.bool true) := mkPure hm Tryz.func26 g26 c26 (Nat.le_of_ble_eq_true rfl) (rB _) (w26n _ m (p50n m h0 h1)) S
theorem p14n (m : Int) (h0 : 0 ≤ m) (h1 : m ≤ 5) (S : St) : Pl.Pure Tryz.prog 14 [enc (num m)] S (.bool true) := mkPure hm Tryz.func14 g14 c14 (Nat.le_of_ble_eq_true rfl) (rB _) (w14n _ m (p26n m h0 h1) (p27n m)) S
theorem p15n (S : St) : Pl.Pure Tryz.prog 15 [enc (num 2), enc (num 1)] S (.bool true) := mkPure hm Tryz.func15 g15 c15 (Nat.le_of_ble_eq_true rfl) (rB _) (w15n _ p28) S
theorem p6n (S : St) : Pl.Pure Tryz.prog 6 [enc (num 2), enc (num 1)] S (.tup [.bool true, .int .i64 0]) := mkPure hm Tryz.func6 g6 c6 (Nat.le_of_ble_eq_true rfl) (fun p => by simp only [V.refsB, V.refsBs, and_self]) (w6n _ p14n p15n) S
theorem p10 (S : St) : Pl.Pure Tryz.prog 10 [] S (.bool true) := mkPure hm Tryz.func10 g10 c10 (Nat.le_of_ble_eq_true rfl) (rB _) (w10 _ p21 p6n) S

/-! What the condition is, is a form. -/
def isF (v : V) : Prop := ∃ f, enc f = v ∧ small f
theorem isF_list : ∀ {xs : List V}, (∀ x ∈ xs, isF x) → ∃ l, encs l = xs ∧ smalls l
  | [], _ => ⟨[], rfl, trivial⟩
  | x :: r, h => by
    obtain ⟨f, e, s⟩ := h x (List.mem_cons_self ..)
    obtain ⟨l, e2, s2⟩ := isF_list (xs := r) fun y hy => h y (List.mem_cons_of_mem _ hy)
    exact ⟨f :: l, by simp only [encs, e, e2], s, s2⟩
theorem isF_call {s : List UInt8} {xs : List V} (h : ∀ x ∈ xs, isF x) (hl : xs.length ≤ 999999999) : isF (callV s xs) := by
  obtain ⟨l, e, hs⟩ := isF_list h
  have : l.length = xs.length := by rw [← e, encs_length]
  refine ⟨call s l, by rw [enc_call, e], ?_⟩
  simp only [call, list, word, small, smalls, List.length_cons, List.length_nil]
  exact ⟨by omega, ⟨by omega, trivial⟩, hs⟩
theorem isF_num (n : Int) : isF (fmV 0 n [] true []) := ⟨num n, rfl, by simp [num, small, smalls]⟩

theorem isF_pos {k : Int} {t hd : List UInt8} {a b c : V} (h : posV k t hd a b = some c) (ha : isF a) (hb : isF b) : isF c := by
  have c1 : ∀ s x, isF x → isF (callV s [x]) := fun s x hx => isF_call (by simpa using hx) (by simp)
  have c2 : ∀ s x y, isF x → isF y → isF (callV s [x, y]) := fun s x y hx hy => isF_call (by simpa using ⟨hx, hy⟩) (by simp)
  have c0 : ∀ s, isF (callV s []) := fun s => isF_call (by simp) (by simp)
  have pr : ∀ x y, isF x → isF y → isF (properV x y) := fun x y hx hy => c2 _ _ _ (c2 _ _ _ (c2 _ _ _ hx hy) hy) (c1 _ _ (c2 _ _ _ hx hy))
  unfold posV at h
  repeat' split at h
  all_goals first
    | (simp only [reduceCtorEq] at h; done)
    | (simp only [Option.some.injEq] at h; subst h)
  · exact c2 _ _ _ (c2 _ _ _ hb ha) (c2 _ _ _ (isF_num 0) ha)
  · exact c2 _ _ _ (c1 _ _ hb) ha
  · exact c0 _
  · exact c2 _ _ _ (c1 _ _ hb) (c1 _ _ ha)
  · exact c2 _ _ _ (c1 _ _ hb) (c1 _ _ ha)
  · exact pr _ _ ha hb
  · exact pr _ _ (c1 _ _ ha) (c1 _ _ hb)
  · exact c0 _

theorem isF_eqL {Os Ns : List Fm} (ho : smalls Os) (hn : smalls Ns) (i : Nat) (x : V) (hx : x ∈ eqL Os Ns i) : isF x := by
  simp only [eqL, List.mem_map] at hx
  obtain ⟨j, _, rfl⟩ := hx
  have get : ∀ l : List Fm, smalls l → isF (enc (l.getD j dF)) := fun l hl => by
    refine ⟨_, rfl, ?_⟩
    rw [List.getD_eq_getElem?_getD]
    cases h : l[j]? with
    | none => simp [dF, small, smalls]
    | some f => exact smalls_mem hl (List.mem_of_getElem? h)
  exact isF_call (by simpa using ⟨get _ hn, get _ ho⟩) (by simp)

theorem isF_outL {T Os Ns : List Fm} (ho : smalls Os) (hn : smalls Ns) (i : Nat) (hi : i ≤ 100000000) (hs : ∀ j, j < i → (posOf T Os Ns j).isSome = true) (x : V) (hx : x ∈ outL T Os Ns i) : isF x := by
  simp only [outL, List.mem_map, List.mem_range] at hx
  obtain ⟨j, hj, rfl⟩ := hx
  have get : ∀ l : List Fm, smalls l → isF (enc (l.getD j dF)) := fun l hl => by
    refine ⟨_, rfl, ?_⟩
    rw [List.getD_eq_getElem?_getD]
    cases h : l[j]? with
    | none => simp [dF, small, smalls]
    | some f => exact smalls_mem hl (List.mem_of_getElem? h)
  obtain ⟨c, hc⟩ := Option.isSome_iff_exists.1 (hs j hj)
  rw [hc]
  refine isF_call (fun y hy => ?_) ?_
  · rcases List.mem_append.1 hy with h | h
    · exact isF_eqL ho hn j y h
    · simp only [Option.getD_some, List.mem_cons, List.not_mem_nil, or_false] at h
      subst h
      exact isF_pos hc (get _ ho) (get _ hn)
  · simp only [List.length_append, eqL_length, List.length_cons, List.length_nil]; omega

theorem condAllV_isF {T Os Ns : List Fm} (ho : smalls Os) (hn : smalls Ns) (h1 : Os.length ≤ 100000000) (h2 : Ns.length ≤ 100000000) : ∃ f e, condAllV T Os Ns = .tup [enc f, .int .i64 e] ∧ small f := by
  have of : ∀ v e, condAllV T Os Ns = .tup [v, .int .i64 e] → isF v → ∃ f e, condAllV T Os Ns = .tup [enc f, .int .i64 e] ∧ small f := by
    rintro v e h ⟨f, rfl, hf⟩
    exact ⟨f, e, h, hf⟩
  by_cases hT : T.length = Os.length
  case neg => exact of _ 1 (by unfold condAllV; rw [if_neg hT]) (isF_num 0)
  have hu : condAllV T Os Ns = condV T Os Ns := by unfold condAllV; rw [if_pos hT]
  rw [hu] at of ⊢
  unfold condV at of ⊢
  split at of
  · rename_i hall
    have hs : ∀ j, j < min Os.length Ns.length → (posOf T Os Ns j).isSome = true := by
      intro j hj
      simp only [List.all_eq_true, List.mem_range] at hall
      exact hall j hj
    rw [if_pos hall]
    split at of
    · rename_i hlt
      rw [if_pos hlt]
      split at of
      · rename_i hz
        rw [if_pos hz]
        exact of _ 0 rfl (isF_call (by simp) (by simp))
      · rename_i hz
        rw [if_neg hz]
        refine of _ 0 rfl (isF_call (fun x hx => ?_) ?_)
        · rcases List.mem_append.1 hx with h | h
          · exact isF_outL ho hn _ h1 (fun j hj => hs j (by omega)) x h
          · simp only [List.mem_cons, List.not_mem_nil, or_false] at h
            subst h
            exact isF_call (fun y hy => isF_eqL ho hn _ y hy) (by rw [eqL_length]; omega)
        · simp only [List.length_append, outL_length, List.length_cons, List.length_nil]; omega
    · rename_i hlt
      rw [if_neg hlt]
      exact of _ 0 rfl (isF_call (fun x hx => isF_outL ho hn _ h2 (fun j hj => hs j (by omega)) x hx) (by rw [outL_length]; omega))
  · rename_i hall
    rw [if_neg hall]
    exact of _ 8 rfl (isF_num 0)

/-- THE LAW RETURNS true. -/
theorem p5 (nt no nn : Bool) (T Os Ns : List Fm) (ho : smalls Os) (hn : smalls Ns) (h1 : Os.length ≤ 100000000) (h2 : Ns.length ≤ 100000000) (S : St) :
    Pl.Pure Tryz.prog 5 [.sl nt 4 (encs T), .sl no 4 (encs Os), .sl nn 4 (encs Ns)] S (.bool true) := by
  obtain ⟨f, e, hc, hf⟩ := condAllV_isF (T := T) ho hn h1 h2
  have q11 := p11 nt no nn T Os Ns h1 h2
  have q12 := p12 nt no nn T Os Ns h1 h2
  rw [hc] at q11 q12
  have q13 := p13 f hf
  obtain ⟨k, m, t, nl, l⟩ := f
  exact mkPure hm Tryz.func5 g5 c5 (Nat.le_of_ble_eq_true rfl) (rB _) (w5 _ nt no nn (encs T) (encs Os) (encs Ns) k m t nl (encs l) e (fun p => encs_refsB p _) q11 q12 q13 p10) S
end Go.Pl.Z
