/- Regions that draw their order: one walk in the order of the text serves every order. -/
import Derived.Test.YtllbopmdpmjcpaaGreatDoorPlReg
set_option linter.unusedSimpArgs false
set_option linter.unusedVariables false
set_option linter.unusedSectionVars false
namespace Go.Pl

def X.tmps : X → List Nat
  | .t n => [n]
  | .k _ => []

def optX : Option X → List X
  | some x => [x]
  | none => []

def M.xs : M → List X
  | .mv x | .asg x | .box x | .ld _ _ x | .fa _ _ _ x | .fld _ _ _ x | .isnil _ x | .un _ x | .cvi _ x | .cvs x | .ext x _ | .len x | .lns x | .nck x | .mki _ x => [x]
  | .pick c a b => [c, a, b]
  | .new _ => []
  | .mk _ ps => ps.map (·.2.2)
  | .mks _ _ l => l
  | .st _ x y | .ia _ x y | .ix x y | .bin _ x y | .eqb _ x y | .app _ _ _ _ x y => [x, y]
  | .slc _ x lo hi mx => [x] ++ optX lo ++ optX hi ++ optX mx
  | .sls x lo hi => [x] ++ optX lo ++ optX hi
  | .fun_ _ l => l
  | .call _ l => l
  | .callv x l => x :: l
  | .mnx _ x l => x :: l

def M.reads (m : M) : List Nat := m.xs.flatMap X.tmps

def RO.reads (o : RO) : List Nat := o.m.reads ++ (match o.guard with
  | some (t, _) => [t]
  | none => [])

def X.tmp? : X → Option Nat
  | .t n => some n
  | .k _ => none

/-- The temporary whose claim is taken. -/
def M.downs : M → Option Nat
  | .asg x => x.tmp?
  | .app _ _ _ _ x _ => x.tmp?
  | _ => none

def downF (σ : Nat → V) : Option Nat → Nat → V
  | some n => upd σ n (σ n).plain
  | none => σ

def M.isBox : M → Bool
  | .new _ | .box _ => true
  | _ => false

/-- It looks at no box, makes none, and is no call. -/
def M.blind : M → Bool
  | .ld _ _ _ | .new _ | .box _ | .call _ _ | .callv _ _ | .st _ _ _ => false
  | _ => true

theorem blind_isBox {m : M} (h : m.blind = true) : m.isBox = false := by cases m <;> first | rfl | (simp [M.blind] at h)

/-- A store that is always wanted. -/
def RO.lateSt (o : RO) : Bool := o.m.isSt && o.guard.isNone && o.dst.isNone

def M.boxed (σ : Nat → V) : M → V
  | .new z => z
  | .box x => x.ev σ
  | _ => .any

/-- What an operation that may come up at any time yields: S the boxes as the region began, nm the name of a box that it makes. -/
def qval (P : Program) (S : St) (nm : Nat) (σ : Nat → V) : M → V → Prop
  | .call f args, v => Pure P f (args.map (·.ev σ)) S v
  | .callv x args, v => match x.ev σ with
    | .fn f caps => Pure P f (args.map (·.ev σ) ++ caps) S v
    | _ => False
  | .new _, v => v = .ref S.b nm 0
  | .box x, v => (x.ev σ).data = true ∧ v = .ref S.b nm 0
  | .asg x, v => v = x.raw σ
  | .mks e sz xs, v => S.O.good sz (xs.map (·.ev σ)) = true ∧ v = .gr e false sz (xs.map (·.ev σ))
  | .app _ e sz bytes x y, v => appV S.O e sz bytes (x.raw σ) (y.ev σ) = some v
  | .st _ _ _, _ => False
  | m, v => m.val σ S = some v

def gw (σ : Nat → V) : Option (Nat × Bool) → Option Bool
  | none => some true
  | some (t, want) => match (σ t).plain with
    | .bool b => some (b == want)
    | .tup _ => some false
    | _ => none

def stepF (o : RO) (wt : Bool) (v : V) (σ : Nat → V) : Nat → V := putD (if wt then downF σ o.m.downs else σ) o.dst v
def stepS (nm : Nat) (o : RO) (wt : Bool) (σ : Nat → V) (S : St) : St := if wt && o.m.isBox then S.set S.b nm (o.m.boxed σ) else S

/-- Operation o, at the name nm, in this state yields v; wt: it is wanted. -/
structure YA (P : Program) (N : Nat) (S₀ : St) (nm : Nat) (o : RO) (σ : Nat → V) (v : V) (wt : Bool) : Prop where
  g : gw σ o.guard = some wt
  d : ∀ k, o.dst = some k → k < N
  y : wt = true → qval P S₀ nm σ o.m v
  n : wt = false → v = .undef

def qOp (P : Program) (N : Nat) (S₀ : St) (nm : Nat) (o : RO) (K : (Nat → V) → St → Prop) (σ : Nat → V) (S : St) : Prop :=
  ∃ v wt, YA P N S₀ nm o σ v wt ∧ K (stepF o wt v σ) (stepS nm o wt σ S)

/-! ### Two operations that are apart -/
def RO.apart (x y : RO) : Bool :=
  (match x.dst with
    | some d => !y.reads.contains d && y.dst != some d
    | none => true) &&
  (match y.dst with
    | some d => !x.reads.contains d
    | none => true) &&
  (match x.m.downs, y.m.downs with
    | some m, some n => m != n
    | _, _ => true)

theorem downs_reads {m : M} {n : Nat} (h : m.downs = some n) : n ∈ m.reads := by
  cases m <;> simp only [M.downs, reduceCtorEq] at h
  case asg x => cases x <;> simp [X.tmp?] at h; subst h; simp [M.reads, M.xs, X.tmps]
  case app x y => cases x <;> simp [X.tmp?] at h; subst h; simp [M.reads, M.xs, X.tmps]

/-- Frames that are alike for an operation. -/
structure Alike (o : RO) (σ σ' : Nat → V) : Prop where
  p : ∀ t ∈ o.reads, (σ' t).plain = (σ t).plain
  r : ∀ n, o.m.downs = some n → σ' n = σ n

section
variable {P : Program} {N : Nat} {S₀ S : St} {σ σ' : Nat → V}

theorem ev_congr {x : X} (h : ∀ t ∈ x.tmps, (σ' t).plain = (σ t).plain) : x.ev σ' = x.ev σ := by
  cases x with
  | t n => exact h n (by simp [X.tmps])
  | k v => rfl

theorem evs_congr {l : List X} (h : ∀ t ∈ l.flatMap X.tmps, (σ' t).plain = (σ t).plain) : l.map (·.ev σ') = l.map (·.ev σ) :=
  List.map_congr_left fun x hx => ev_congr fun t ht => h t (List.mem_flatMap.2 ⟨x, hx, ht⟩)

theorem optInt_congr {o : Option X} {d : Int} (h : ∀ t ∈ (optX o).flatMap X.tmps, (σ' t).plain = (σ t).plain) : optInt σ' d o = optInt σ d o := by
  cases o with
  | none => rfl
  | some x => simp only [optInt]; rw [ev_congr (fun t ht => h t (by simpa [optX] using ht))]

theorem mnx_congr {O : Ops} {mx : Bool} : ∀ {l : List X} {m : V}, (∀ t ∈ l.flatMap X.tmps, (σ' t).plain = (σ t).plain) → mnxV O mx σ' m l = mnxV O mx σ m l
  | [], m, _ => rfl
  | x :: l, m, h => by
    simp only [List.flatMap_cons, List.mem_append] at h
    simp only [mnxV]
    rw [ev_congr fun t ht => h t (.inl ht)]
    split
    · split
      · exact mnx_congr fun t ht => h t (.inr ht)
      · rfl
    · rfl

theorem qval_congr {o : RO} (h : Alike o σ σ') (nm : Nat) (v : V) : qval P S₀ nm σ' o.m v = qval P S₀ nm σ o.m v := by
  have hp : ∀ t ∈ o.m.reads, (σ' t).plain = (σ t).plain := fun t ht => h.p t (by simp [RO.reads, ht])
  have hr := h.r
  unfold M.reads at hp
  revert hp hr
  generalize o.m = m
  intro hp hr
  cases m <;> simp only [M.xs, List.flatMap_cons, List.flatMap_nil, List.append_nil, List.mem_append, List.flatMap_append] at hp <;> simp only [qval, M.val]
  case call f l => rw [evs_congr hp]
  case callv x l => rw [ev_congr fun t ht => hp t (.inl ht), evs_congr fun t ht => hp t (.inr ht)]
  case asg x =>
    cases x with
    | t n => simp only [X.raw]; rw [hr n rfl]
    | k w => rfl
  case mks e sz l => rw [evs_congr hp]
  case app t e sz b x y =>
    rw [ev_congr fun t ht => hp t (.inr ht)]
    cases x with
    | t n => simp only [X.raw]; rw [hr n rfl]
    | k w => rfl
  case mk z ps =>
    have : ps.map (fun p => (p.1, p.2.1, p.2.2.ev σ')) = ps.map (fun p => (p.1, p.2.1, p.2.2.ev σ)) :=
      List.map_congr_left fun p hpp => by rw [ev_congr fun t ht => hp t (List.mem_flatMap.2 ⟨p.2.2, List.mem_map.2 ⟨p, hpp, rfl⟩, ht⟩)]
    rw [this]
  case slc sz x lo hi mx =>
    have e1 := ev_congr (x := x) (σ := σ) (σ' := σ') fun t ht => hp t (.inl (.inl (.inl ht)))
    have e2 : ∀ d, optInt σ' d lo = optInt σ d lo := fun d => optInt_congr fun t ht => hp t (.inl (.inl (.inr ht)))
    have e3 : ∀ d, optInt σ' d hi = optInt σ d hi := fun d => optInt_congr fun t ht => hp t (.inl (.inr ht))
    cases mx <;> simp only [e1, e2, e3]
  case sls x lo hi =>
    have e1 := ev_congr (x := x) (σ := σ) (σ' := σ') fun t ht => hp t (.inl (.inl ht))
    have e2 : ∀ d, optInt σ' d lo = optInt σ d lo := fun d => optInt_congr fun t ht => hp t (.inl (.inr ht))
    have e3 : ∀ d, optInt σ' d hi = optInt σ d hi := fun d => optInt_congr fun t ht => hp t (.inr ht)
    simp only [e1, e2, e3]
  case fun_ f l => rw [evs_congr hp]
  case mnx mx x l => rw [ev_congr fun t ht => hp t (.inl ht), mnx_congr fun t ht => hp t (.inr ht)]
  case pick c a b => rw [ev_congr fun t ht => hp t (.inl ht), ev_congr fun t ht => hp t (.inr (.inl ht)), ev_congr fun t ht => hp t (.inr (.inr ht))]
  all_goals first
    | rfl
    | (rw [ev_congr hp]; done)
    | (rw [ev_congr fun t ht => hp t (.inl ht), ev_congr fun t ht => hp t (.inr ht)]; done)

theorem boxed_congr {o : RO} (h : Alike o σ σ') : o.m.boxed σ' = o.m.boxed σ := by
  have hp : ∀ t ∈ o.m.reads, (σ' t).plain = (σ t).plain := fun t ht => h.p t (by simp [RO.reads, ht])
  unfold M.reads at hp
  revert hp
  generalize o.m = m
  intro hp
  cases m <;> simp only [M.boxed]
  case box x => exact ev_congr fun t ht => hp t (by simpa [M.xs] using ht)

theorem gw_congr {o : RO} (h : Alike o σ σ') : gw σ' o.guard = gw σ o.guard := by
  have hp := h.p
  unfold RO.reads at hp
  cases hg : o.guard with
  | none => rfl
  | some p =>
    obtain ⟨t, want⟩ := p
    rw [hg] at hp
    simp only [gw]
    rw [hp t (by simp)]

theorem plain_plain (x : V) : x.plain.plain = x.plain := by cases x <;> rfl

theorem downF_plain (σ : Nat → V) (n : Option Nat) (t : Nat) : (downF σ n t).plain = (σ t).plain := by
  cases n with
  | none => rfl
  | some n =>
    simp only [downF, upd]
    split
    · rename_i h; subst h; exact plain_plain _
    · rfl

theorem RO.apart_spec {x y : RO} (h : x.apart y = true) : (∀ d, x.dst = some d → d ∉ y.reads) ∧ (∀ d, x.dst = some d → y.dst ≠ some d) ∧ (∀ d, y.dst = some d → d ∉ x.reads) ∧
    ∀ m n, x.m.downs = some m → y.m.downs = some n → m ≠ n := by
  simp only [RO.apart, Bool.and_eq_true] at h
  obtain ⟨⟨h1, h2⟩, h3⟩ := h
  refine ⟨fun d hd => ?_, fun d hd => ?_, fun d hd => ?_, fun m n hm hn => ?_⟩
  · rw [hd] at h1; simp at h1; exact h1.1
  · rw [hd] at h1; simp at h1; exact h1.2
  · rw [hd] at h2; simp at h2; exact h2
  · rw [hm, hn] at h3; simpa using h3

theorem putD_other {d : Option Nat} {v : V} {t : Nat} (h : d ≠ some t) : putD σ d v t = σ t := by
  cases d with
  | none => rfl
  | some d => exact upd_ne _ _ (fun e => h (by rw [e]))

theorem downF_other {d : Option Nat} {t : Nat} (h : d ≠ some t) : downF σ d t = σ t := by
  cases d with
  | none => rfl
  | some d => exact upd_ne _ _ (fun e => h (by rw [e]))

theorem stepF_at {o : RO} {wt : Bool} {v : V} {t : Nat} (hd : o.dst ≠ some t) : stepF o wt v σ t = if wt then downF σ o.m.downs t else σ t := by
  unfold stepF
  rw [putD_other hd]
  cases wt <;> rfl

theorem stepF_down {o : RO} {wt : Bool} {v : V} {t : Nat} (hd : o.dst ≠ some t) (h : o.m.downs = some t) : stepF o wt v σ t = if wt then (σ t).plain else σ t := by
  rw [stepF_at hd, h]
  cases wt <;> simp [downF]

theorem stepF_other {o : RO} {wt : Bool} {v : V} {t : Nat} (hd : o.dst ≠ some t) : (stepF o wt v σ t).plain = (σ t).plain ∧ (o.m.downs ≠ some t → stepF o wt v σ t = σ t) := by
  rw [stepF_at hd]
  cases wt with
  | false => exact ⟨rfl, fun _ => rfl⟩
  | true => exact ⟨downF_plain _ _ _, fun hn => downF_other hn⟩

/-- An operation does not see another one that is apart. -/
theorem Alike.step {x y : RO} (h1 : ∀ d, x.dst = some d → d ∉ y.reads) (h2 : ∀ m n, x.m.downs = some m → y.m.downs = some n → m ≠ n) (wt : Bool) (v : V) : Alike y σ (stepF x wt v σ) where
  p t ht := (stepF_other fun e => h1 t e ht).1
  r n hn := by
    have hmem : n ∈ y.reads := by unfold RO.reads; exact List.mem_append_left _ (downs_reads hn)
    exact (stepF_other fun e => h1 n e hmem).2 fun e => h2 n n e hn rfl

theorem stepF_comm {x y : RO} (h : x.apart y = true) (wx wy : Bool) (vx vy : V) : stepF y wy vy (stepF x wx vx σ) = stepF x wx vx (stepF y wy vy σ) := by
  obtain ⟨a1, a2, a3, a4⟩ := RO.apart_spec h
  funext t
  by_cases hy : y.dst = some t
  · have hx : x.dst ≠ some t := fun e => a2 t e hy
    have e1 : stepF y wy vy (stepF x wx vx σ) t = vy := by simp [stepF, putD, hy]
    have hn : x.m.downs ≠ some t := fun e => a3 t hy (by unfold RO.reads; exact List.mem_append_left _ (downs_reads e))
    rw [e1, (stepF_other hx).2 hn]
    simp [stepF, putD, hy]
  · by_cases hx : x.dst = some t
    · have e1 : stepF x wx vx (stepF y wy vy σ) t = vx := by simp [stepF, putD, hx]
      have hn : y.m.downs ≠ some t := fun e => a1 t hx (by unfold RO.reads; exact List.mem_append_left _ (downs_reads e))
      rw [e1, (stepF_other hy).2 hn]
      simp [stepF, putD, hx]
    · by_cases hdx : x.m.downs = some t
      · have hdy : y.m.downs ≠ some t := fun e => a4 t t hdx e rfl
        rw [(stepF_other hy).2 hdy]
        rw [stepF_down hx hdx, stepF_down hx hdx, (stepF_other hy).2 hdy]
      · rw [(stepF_other (σ := stepF y wy vy σ) hx).2 hdx]
        by_cases hdy : y.m.downs = some t
        · rw [stepF_down hy hdy, stepF_down hy hdy, (stepF_other hx).2 hdx]
        · rw [(stepF_other hy).2 hdy, (stepF_other hy).2 hdy, (stepF_other hx).2 hdx]

theorem St.ext' {A B : St} (h1 : A.H = B.H) (h2 : A.n = B.n) (h3 : A.b = B.b) (h4 : A.c = B.c) (h5 : A.O = B.O) : A = B := by
  cases A; cases B
  simp only at h1 h2 h3 h4 h5
  subst h1; subst h2; subst h3; subst h4; subst h5; rfl

/-- TWO OPERATIONS THAT ARE APART, ONE AND THEN THE OTHER: the other and then the one. -/
theorem YA.comm {x y : RO} {nx ny : Nat} {vx vy : V} {wx wy : Bool} (h : x.apart y = true) (hne : x.m.isBox = true → y.m.isBox = true → nx ≠ ny) (hx : YA P N S₀ nx x σ vx wx)
    (hy : YA P N S₀ ny y (stepF x wx vx σ) vy wy) :
    YA P N S₀ ny y σ vy wy ∧ YA P N S₀ nx x (stepF y wy vy σ) vx wx ∧
      stepF y wy vy (stepF x wx vx σ) = stepF x wx vx (stepF y wy vy σ) ∧
      stepS ny y wy (stepF x wx vx σ) (stepS nx x wx σ S) = stepS nx x wx (stepF y wy vy σ) (stepS ny y wy σ S) := by
  obtain ⟨a1, a2, a3, a4⟩ := RO.apart_spec h
  have ay : Alike y σ (stepF x wx vx σ) := Alike.step a1 a4 wx vx
  have ax : Alike x σ (stepF y wy vy σ) := Alike.step a3 (fun m n hm hn => fun e => a4 n m hn hm e.symm) wy vy
  have keyS : ∀ (o : RO) (nm : Nat) (wt : Bool) (σ : Nat → V) (S : St) (i k : Nat), (stepS nm o wt σ S).H i k = if (wt && o.m.isBox) = true ∧ i = S.b ∧ k = nm then some (o.m.boxed σ) else S.H i k := by
    intro o nm wt σ S i k
    unfold stepS
    by_cases hc : (wt && o.m.isBox) = true
    · rw [if_pos hc]
      simp only [St.set, upd2_eq S.hO, hc, true_and]
    · rw [if_neg hc, if_neg (by simp [hc])]
  have keyB : ∀ (o : RO) (nm : Nat) (wt : Bool) (σ : Nat → V) (S : St), (stepS nm o wt σ S).b = S.b := by
    intro o nm wt σ S
    unfold stepS; split <;> rfl
  refine ⟨⟨by rw [← gw_congr ay]; exact hy.g, hy.d, fun hw => ?_, hy.n⟩, ⟨by rw [gw_congr ax]; exact hx.g, hx.d, fun hw => ?_, hx.n⟩, stepF_comm h _ _ _ _, ?_⟩
  · have := hy.y hw
    rwa [qval_congr ay] at this
  · rw [qval_congr ax]; exact hx.y hw
  · refine St.ext' ?_ ?_ ?_ ?_ ?_
    · funext i k
      rw [keyS, keyS, keyS, keyS, keyB, keyB, boxed_congr ay, boxed_congr ax]
      by_cases c1 : (wy && y.m.isBox) = true ∧ i = S.b ∧ k = ny
      · rw [if_pos c1]
        by_cases c2 : (wx && x.m.isBox) = true ∧ i = S.b ∧ k = nx
        · have h1 := c1.1; have h2 := c2.1
          simp only [Bool.and_eq_true] at h1 h2
          exact absurd (c2.2.2.symm.trans c1.2.2) (hne h2.2 h1.2)
        · rw [if_neg c2, if_pos c1]
      · rw [if_neg c1, if_neg c1]
    all_goals (unfold stepS St.set; split <;> split <;> rfl)

/-! ### Every order -/

/-- Does operation j wait for operation i by an edge of its own? -/
def waitsOn (ops : Array Oper) (j i : Nat) : Bool := match ops[j]? with
  | some o => o.after.any fun e => Region.binds .any e && e.on == i
  | none => false

/-- Operation i may be taken first: each other one that has not come up waits for it, or is one of the first kA and apart, or is a store that is apart from an operation that sees no box. -/
def freeA (ops : Array Oper) (ros : Array RO) (kA : Nat) (listed : Array Bool) (i : Nat) : Bool :=
  (List.range ops.size).all fun j => j == i || listed.getD j true || waitsOn ops j i || ((decide (j < kA) || ((ros.getD j default).lateSt && (ros.getD i default).m.blind)) && (ros.getD i default).apart (ros.getD j default))

/-- The first kA operations may be taken in the order of the text; each later one waits for all before it. -/
def lexAB (ops : Array Oper) (ros : Array RO) (kA : Nat) : Nat → Nat → Array Bool → Bool
  | 0, _, listed => (Region.ready .any ops listed).isEmpty
  | n + 1, k, listed =>
    (if k < kA then (Region.ready .any ops listed).contains k && freeA ops ros kA listed k else Region.ready .any ops listed == [k]) &&
    lexAB ops ros kA n (k + 1) (listed.setIfInBounds k true)

def laterWait (ops : Array Oper) (ros : Array RO) (kA : Nat) : Bool := (List.range ops.size).all fun k => decide (k < kA) || (List.range k).all fun i => waitsOn ops k i || ((ros.getD k default).lateSt && (ros.getD i default).m.blind)

def boxesB (l : List RO) : Nat := (l.filter (·.m.isBox)).length

/-- The name of the box that operation i makes. -/
def nameOf (ros : Array RO) (S₀ : St) (i : Nat) : Nat := S₀.c + boxesB (ros.toList.take i)

theorem boxesB_append (l r : List RO) : boxesB (l ++ r) = boxesB l + boxesB r := by simp [boxesB]

theorem nameOf_lt {ros : Array RO} {S₀ : St} {i j : Nat} {oi : RO} (hi : ros[i]? = some oi) (hb : oi.m.isBox = true) (hij : i < j) : nameOf ros S₀ i < nameOf ros S₀ j := by
  unfold nameOf
  have hi' : ros.toList[i]? = some oi := by simpa using hi
  have e : ros.toList.take j = ros.toList.take i ++ oi :: (ros.toList.take j).drop (i + 1) := by
    have h1 : i < (ros.toList.take j).length := by
      have := (List.getElem?_eq_some_iff.1 hi').1
      rw [List.length_take]; omega
    have h2 : (ros.toList.take j)[i] = oi := by
      have := (List.getElem?_eq_some_iff.1 hi').2
      simpa using this
    conv => lhs; rw [← List.take_append_drop i (ros.toList.take j)]
    rw [List.take_take, Nat.min_eq_left (by omega), List.drop_eq_getElem_cons h1, h2]
  rw [e, boxesB_append]
  have : boxesB (oi :: (ros.toList.take j).drop (i + 1)) = 1 + boxesB ((ros.toList.take j).drop (i + 1)) := by simp [boxesB, hb]; omega
  omega

theorem nameOf_ne {ros : Array RO} {S₀ : St} {i j : Nat} {oi oj : RO} (hi : ros[i]? = some oi) (hj : ros[j]? = some oj) (hij : i ≠ j) (h1 : oi.m.isBox = true) (h2 : oj.m.isBox = true) :
    nameOf ros S₀ i ≠ nameOf ros S₀ j := by
  rcases Nat.lt_or_ge i j with h | h
  · have := nameOf_lt (S₀ := S₀) hi h1 h; omega
  · have := nameOf_lt (S₀ := S₀) hj h2 (show j < i by omega); omega

section
variable (P : Program) (N : Nat) (S₀ : St) (ops : Array Oper) (ros : Array RO) (kA : Nat) (Q : AX → (Nat → V) → St → Prop)

def aOp (i : Nat) (K : (Nat → V) → St → Prop) (σ : Nat → V) (S : St) : Prop :=
  match ros[i]? with
  | none => False
  | some ro => if i < kA then qOp P N S₀ (nameOf ros S₀ i) ro K σ S else ro.vc P Q K σ S

def wpAnyA : Nat → Array Bool → (Nat → V) → St → Prop
  | 0, listed, σ, S => Region.ready .any ops listed = [] ∧ Q .normal σ S
  | n + 1, listed, σ, S => (Region.ready .any ops listed = [] → Q .normal σ S) ∧
      ∀ i ∈ Region.ready .any ops listed, aOp P N S₀ ros kA Q i (wpAnyA n (listed.setIfInBounds i true)) σ S
end

theorem qOp_mono {nm : Nat} {o : RO} {K K' : (Nat → V) → St → Prop} (h : ∀ σ S, K σ S → K' σ S) (hh : qOp P N S₀ nm o K σ S) : qOp P N S₀ nm o K' σ S :=
  let ⟨v, wt, h1, h2⟩ := hh
  ⟨v, wt, h1, h _ _ h2⟩

/-- A store behind an operation that sees no box: ahead of it. -/
theorem st_swap {x y : RO} (h : x.apart y = true) (hst : y.lateSt = true) (hbl : x.m.blind = true) {nm : Nat} {v : V} {wt : Bool} {Q : AX → (Nat → V) → St → Prop} {K K' : (Nat → V) → St → Prop}
    (hy : y.vc P Q K (stepF x wt v σ) (stepS nm x wt σ S)) (hK : ∀ S', K (stepF x wt v σ) S' → K' σ S') : y.vc P Q K' σ S := by
  obtain ⟨a1, a2, a3, a4⟩ := RO.apart_spec h
  have al : Alike y σ (stepF x wt v σ) := Alike.step a1 a4 wt v
  have e : stepS nm x wt σ S = S := by simp [stepS, blind_isBox hbl]
  rw [e] at hy
  have hp := al.p
  unfold RO.reads M.reads at hp
  unfold RO.lateSt at hst
  simp only [Bool.and_eq_true, Option.isNone_iff_eq_none] at hst
  obtain ⟨⟨h1, h2⟩, h3⟩ := hst
  unfold RO.vc RO.vc1 at hy ⊢
  rw [h2] at hy ⊢
  rw [h3] at hy ⊢
  simp only at hy ⊢
  revert hp h1 hy
  generalize y.m = m
  intro hy hp h1
  cases m with
  | st sz a b =>
    simp only [M.xs, List.flatMap_cons, List.flatMap_nil, List.append_nil, List.mem_append] at hp
    have ea : a.ev (stepF x wt v σ) = a.ev σ := ev_congr fun t ht => hp t (.inl (.inl ht))
    have eb : b.ev (stepF x wt v σ) = b.ev σ := ev_congr fun t ht => hp t (.inl (.inr ht))
    simp only [M.eff, M.val, ea, eb, putD] at hy ⊢
    generalize a.ev σ = A at hy ⊢
    cases A with
    | ref i k off =>
      simp only at hy ⊢
      generalize S.H i k = c at hy ⊢
      cases c with
      | none => exact hy.elim
      | some c =>
        simp only at hy ⊢
        by_cases hc : (b.ev σ).data = true ∧ (b.ev σ).cells.length = sz ∧ off + sz ≤ c.cells.length ∧ (c.isAgg = true ∨ (b.ev σ).isAgg = false)
        · rw [if_pos hc] at hy ⊢
          exact hK _ hy
        · rw [if_neg hc] at hy
          exact hy.elim
    | _ => exact hy.elim
  | _ => simp [M.isSt] at h1

section
variable {ops : Array Oper} {ros : Array RO} {kA : Nat} {Q : AX → (Nat → V) → St → Prop}

/-- **An operation of the first ones may be taken first.** -/
theorem wpAnyA_first {i : Nat} {oi : RO} {v : V} {wt : Bool} (hik : i < kA) (hi : ros[i]? = some oi) :
    ∀ (fuel : Nat) (listed : Array Bool) (σ : Nat → V) (S : St),
      (∀ j, j < ops.size → j ≠ i → listed.getD j true = false → waitsOn ops j i = false → ∃ oj, ros[j]? = some oj ∧ oi.apart oj = true ∧ (j < kA ∨ (oj.lateSt = true ∧ oi.m.blind = true))) →
      i ∈ Region.ready .any ops listed → YA P N S₀ (nameOf ros S₀ i) oi σ v wt →
      wpAnyA P N S₀ ops ros kA Q fuel (listed.setIfInBounds i true) (stepF oi wt v σ) (stepS (nameOf ros S₀ i) oi wt σ S) → wpAnyA P N S₀ ops ros kA Q (fuel + 1) listed σ S := by
  have self : ∀ (K : (Nat → V) → St → Prop) (σ : Nat → V) (S : St), YA P N S₀ (nameOf ros S₀ i) oi σ v wt → K (stepF oi wt v σ) (stepS (nameOf ros S₀ i) oi wt σ S) → aOp P N S₀ ros kA Q i K σ S := by
    intro K σ S hy hK
    unfold aOp
    simp only [hi]
    rw [if_pos hik]
    exact ⟨v, wt, hy, hK⟩
  intro fuel
  induction fuel with
  | zero =>
    intro listed σ S _ hr hy H
    refine ⟨fun h => (by rw [h] at hr; cases hr), fun j hj => ?_⟩
    by_cases hji : j = i
    · subst hji; exact self _ _ _ hy H
    · have := ready_mono hj hji
      rw [H.1] at this
      cases this
  | succ fuel ih =>
    intro listed σ S hfree hr hy H
    refine ⟨fun h => (by rw [h] at hr; cases hr), fun j hj => ?_⟩
    by_cases hji : j = i
    · subst hji; exact self _ _ _ hy H
    · have h1 := H.2 j (ready_mono hj hji)
      obtain ⟨hjun, oj', hoj', hall⟩ := mem_ready.1 hj
      have hjlt : j < ops.size := (Array.getElem?_eq_some_iff.1 hoj').1
      have hnot : waitsOn ops j i = false := by
        unfold waitsOn
        rw [hoj']
        simp only
        rw [Array.any_eq_false']
        intro e he hb
        simp only [Bool.and_eq_true, beq_iff_eq] at hb
        have h1 := hall e he hb.1
        have h0 := (mem_ready.1 hr).1
        rw [hb.2] at h1
        rcases Nat.lt_or_ge i listed.size with h' | h'
        · simp [h'] at h0 h1; rw [h0] at h1; cases h1
        · simp [Array.getElem?_eq_none h'] at h1
      obtain ⟨oj, hoj, hap, hkind⟩ := hfree j hjlt hji hjun hnot
      unfold aOp at h1
      simp only [hoj] at h1
      have hfree' : ∀ k, k < ops.size → k ≠ i → (listed.setIfInBounds j true).getD k true = false → waitsOn ops k i = false → ∃ oj, ros[k]? = some oj ∧ oi.apart oj = true ∧ (k < kA ∨ (oj.lateSt = true ∧ oi.m.blind = true)) := fun k hk hki hun hno => hfree k hk hki (by
        by_cases hjk : j = k
        · subst hjk; exact hjun
        · rw [getD_set_ne true hjk] at hun; exact hun) hno
      by_cases hjk : j < kA
      case neg =>
        rw [if_neg hjk] at h1
        obtain ⟨hst, hbl⟩ := hkind.resolve_left hjk
        unfold aOp
        simp only [hoj]
        rw [if_neg hjk]
        refine st_swap hap hst hbl h1 fun S' hK => ?_
        refine ih (listed.setIfInBounds j true) σ S' hfree' (ready_mono hr (Ne.symm hji)) hy ?_
        rw [Array.setIfInBounds_comm _ _ hji]
        have e : stepS (nameOf ros S₀ i) oi wt σ S' = S' := by simp [stepS, blind_isBox hbl]
        rw [e]
        exact hK
      rw [if_pos hjk] at h1
      obtain ⟨vj, wj, hyj, hKj⟩ := h1
      obtain ⟨c1, c2, c3, c4⟩ := YA.comm (S := S) hap (fun h1 h2 => nameOf_ne hi hoj (Ne.symm hji) h1 h2) hy hyj
      unfold aOp
      simp only [hoj]
      rw [if_pos hjk]
      refine ⟨vj, wj, c1, ?_⟩
      rw [c3, c4] at hKj
      refine ih (listed.setIfInBounds j true) _ _ hfree' (ready_mono hr (Ne.symm hji)) c2 ?_
      rw [Array.setIfInBounds_comm _ _ hji]
      exact hKj

end
end
end Go.Pl
