import Derived.Test.YtllbopmdpmjcpaaGreatDoorM07
set_option linter.unusedSimpArgs false
set_option linter.unusedVariables false
set_option linter.unusedSectionVars false
section
namespace Go.Pl
def X.tmps : X → List Nat
 | .t n => [n]
 | .k _ => []
def optX : Option X → List X
 | some x => [x]
 | none => []
def M.xs : M → List X
 | .mv x | .asg x | .box x | .boxr x | .boxs _ x | .clr _ _ x | .ld _ _ x | .fa _ _ _ x | .fld _ _ _ x | .isnil _ x | .un _ x | .cvi _ x | .cvs x | .ext x _ | .len x | .lns x | .nck x | .mki _ x | .mln x | .tas _ _ _ x | .inil _ x | .pan x => [x]
 | .mmk => []
 | .mup _ x k v => [x, k, v]
 | .mlk _ _ _ x k => [x, k]
 | .pick c a b => [c, a, b]
 | .new _ => []
 | .mk _ ps => ps.map (·.2.2)
 | .mks _ _ l => l
 | .st _ x y | .ia _ x y | .ix x y | .bin _ x y | .eqb _ x y | .app _ _ _ _ x y => [x, y]
 | .slc _ x lo hi mx => [x] ++ optX lo ++ optX hi ++ optX mx
 | .sls x lo hi => [x] ++ optX lo ++ optX hi
 | .fun_ _ l => l
 | .call _ l => l
 | .callv x l => x :: l
 | .mnx _ x l => x :: l
def M.reads (m : M) : List Nat := m.xs.flatMap X.tmps
def RO.reads (o : RO) : List Nat := o.m.reads ++ (match o.guard with
 | some (t, _) => [t]
 | none => [])
def X.tmp? : X → Option Nat
 | .t n => some n
 | .k _ => none
def M.downs : M → Option Nat
 | .asg x => x.tmp?
 | .app _ _ _ _ x _ => x.tmp?
 | _ => none
def downF (σ : Nat → V) : Option Nat → Nat → V
 | some n => upd σ n (σ n).plain
 | none => σ
def M.isBox : M → Bool
 | .new _ | .box _ => true
 | _ => false
def M.blind : M → Bool
 | .ld _ _ _ | .new _ | .box _ | .call _ _ | .callv _ _ | .st _ _ _ | .mlk _ _ _ _ _ | .mln _ | .mmk | .mup _ _ _ _ | .pan _ | .clr _ _ _ => false
 | _ => true
theorem blind_isBox {m : M} (h : m.blind = true) : m.isBox = false := by cases m <;> first | rfl | (simp [M.blind] at h)
def RO.lateSt (o : RO) : Bool := o.m.isSt && o.guard.isNone && o.dst.isNone
def M.boxed (σ : Nat → V) : M → V
 | .new z => z
 | .box x => x.ev σ
 | _ => .any
def qval (P : Program) (S : St) (nm : Nat) (σ : Nat → V) : M → V → Prop
 | .call f args, v => Pure P f (args.map (·.ev σ)) S v
 | .callv x args, v => match x.ev σ with
  | .fn f caps => Pure P f (args.map (·.ev σ) ++ caps) S v
  | _ => False
 | .new _, v => v = .ref S.b nm 0
 | .box x, v => (x.ev σ).data = true ∧ v = .ref S.b nm 0
 | .boxr x, v => (x.ev σ).data = true ∧ v = .ro (x.ev σ)
 | .asg x, v => v = x.raw σ
 | .mks e sz xs, v => S.O.good sz (xs.map (·.ev σ)) = true ∧ v = .gr e false sz (xs.map (·.ev σ))
 | .app _ e sz bytes x y, v => appV S.O e sz bytes (x.raw σ) (y.ev σ) = some v
 | .st _ _ _, _ => False
 | m, v => m.val σ S = some v
def gw (σ : Nat → V) : Option (Nat × Bool) → Option Bool
 | none => some true
 | some (t, want) => match (σ t).plain with
  | .bool b => some (b == want)
  | .tup _ => some false
  | _ => none
def stepF (o : RO) (wt : Bool) (v : V) (σ : Nat → V) : Nat → V := putD (if wt then downF σ o.m.downs else σ) o.dst v
def stepS (nm : Nat) (o : RO) (wt : Bool) (σ : Nat → V) (S : St) : St := if wt && o.m.isBox then S.set S.b nm (o.m.boxed σ) else S
structure YA (P : Program) (N : Nat) (S₀ : St) (nm : Nat) (o : RO) (σ : Nat → V) (v : V) (wt : Bool) : Prop where
 g : gw σ o.guard = some wt
 d : ∀ k, o.dst = some k → k < N
 y : wt = true → qval P S₀ nm σ o.m v
 n : wt = false → v = .undef
def qOp (P : Program) (N : Nat) (S₀ : St) (nm : Nat) (o : RO) (K : (Nat → V) → St → Prop) (σ : Nat → V) (S : St) : Prop :=
 ∃ v wt, YA P N S₀ nm o σ v wt ∧ K (stepF o wt v σ) (stepS nm o wt σ S)
def RO.apart (x y : RO) : Bool :=
 (match x.dst with
  | some d => !y.reads.contains d && y.dst != some d
  | none => true) &&
 (match y.dst with
  | some d => !x.reads.contains d
  | none => true) &&
 (match x.m.downs, y.m.downs with
  | some m, some n => m != n
  | _, _ => true)
theorem downs_reads {m : M} {n : Nat} (h : m.downs = some n) : n ∈ m.reads := by
 cases m <;> simp only [M.downs, reduceCtorEq] at h
 case asg x => cases x <;> simp [X.tmp?] at h; subst h; simp [M.reads, M.xs, X.tmps]
 case app x y => cases x <;> simp [X.tmp?] at h; subst h; simp [M.reads, M.xs, X.tmps]
structure Alike (o : RO) (σ σ' : Nat → V) : Prop where
 p : ∀ t ∈ o.reads, (σ' t).plain = (σ t).plain
 r : ∀ n, o.m.downs = some n → σ' n = σ n
section
variable {P : Program} {N : Nat} {S₀ S : St} {σ σ' : Nat → V}
theorem ev_congr {x : X} (h : ∀ t ∈ x.tmps, (σ' t).plain = (σ t).plain) : x.ev σ' = x.ev σ := by
 cases x with
 | t n => exact h n (by simp [X.tmps])
 | k v => rfl
theorem evs_congr {l : List X} (h : ∀ t ∈ l.flatMap X.tmps, (σ' t).plain = (σ t).plain) : l.map (·.ev σ') = l.map (·.ev σ) :=
 List.map_congr_left fun x hx => ev_congr fun t ht => h t (List.mem_flatMap.2 ⟨x, hx, ht⟩)
theorem optInt_congr {o : Option X} {d : Int} (h : ∀ t ∈ (optX o).flatMap X.tmps, (σ' t).plain = (σ t).plain) : optInt σ' d o = optInt σ d o := by
 cases o with
 | none => rfl
 | some x => simp only [optInt]; rw [ev_congr (fun t ht => h t (by simpa [optX] using ht))]
theorem mnx_congr {O : Ops} {mx : Bool} : ∀ {l : List X} {m : V}, (∀ t ∈ l.flatMap X.tmps, (σ' t).plain = (σ t).plain) → mnxV O mx σ' m l = mnxV O mx σ m l
 | [], m, _ => rfl
 | x :: l, m, h => by
  simp only [List.flatMap_cons, List.mem_append] at h
  simp only [mnxV]
  rw [ev_congr fun t ht => h t (.inl ht)]
  split
  ·split
   ·exact mnx_congr fun t ht => h t (.inr ht)
   ·rfl
  ·rfl
theorem qval_congr {o : RO} (h : Alike o σ σ') (nm : Nat) (v : V) : qval P S₀ nm σ' o.m v = qval P S₀ nm σ o.m v := by
 have hp : ∀ t ∈ o.m.reads, (σ' t).plain = (σ t).plain := fun t ht => h.p t (by simp [RO.reads, ht])
 have hr := h.r
 unfold M.reads at hp
 revert hp hr
 generalize o.m = m
 intro hp hr
 cases m <;> simp only [M.xs, List.flatMap_cons, List.flatMap_nil, List.append_nil, List.mem_append, List.flatMap_append] at hp <;> simp only [qval, M.val]
 case call f l => rw [evs_congr hp]
 case callv x l => rw [ev_congr fun t ht => hp t (.inl ht), evs_congr fun t ht => hp t (.inr ht)]
 case asg x =>
  cases x with
  | t n => simp only [X.raw]; rw [hr n rfl]
  | k w => rfl
 case mks e sz l => rw [evs_congr hp]
 case app t e sz b x y =>
  rw [ev_congr fun t ht => hp t (.inr ht)]
  cases x with
  | t n => simp only [X.raw]; rw [hr n rfl]
  | k w => rfl
 case mk z ps =>
  have : ps.map (fun p => (p.1, p.2.1, p.2.2.ev σ')) = ps.map (fun p => (p.1, p.2.1, p.2.2.ev σ)) :=
   List.map_congr_left fun p hpp => by rw [ev_congr fun t ht => hp t (List.mem_flatMap.2 ⟨p.2.2, List.mem_map.2 ⟨p, hpp, rfl⟩, ht⟩)]
  rw [this]
 case slc sz x lo hi mx =>
  have e1 := ev_congr (x := x) (σ := σ) (σ' := σ') fun t ht => hp t (.inl (.inl (.inl ht)))
  have e2 : ∀ d, optInt σ' d lo = optInt σ d lo := fun d => optInt_congr fun t ht => hp t (.inl (.inl (.inr ht)))
  have e3 : ∀ d, optInt σ' d hi = optInt σ d hi := fun d => optInt_congr fun t ht => hp t (.inl (.inr ht))
  cases mx <;> simp only [e1, e2, e3]
 case sls x lo hi =>
  have e1 := ev_congr (x := x) (σ := σ) (σ' := σ') fun t ht => hp t (.inl (.inl ht))
  have e2 : ∀ d, optInt σ' d lo = optInt σ d lo := fun d => optInt_congr fun t ht => hp t (.inl (.inr ht))
  have e3 : ∀ d, optInt σ' d hi = optInt σ d hi := fun d => optInt_congr fun t ht => hp t (.inr ht)
  simp only [e1, e2, e3]
 case fun_ f l => rw [evs_congr hp]
 case mnx mx x l => rw [ev_congr fun t ht => hp t (.inl ht), mnx_congr fun t ht => hp t (.inr ht)]
 case pick c a b => rw [ev_congr fun t ht => hp t (.inl ht), ev_congr fun t ht => hp t (.inr (.inl ht)), ev_congr fun t ht => hp t (.inr (.inr ht))]
 all_goals first
  | rfl
  | (rw [ev_congr hp]; done)
  | (rw [ev_congr fun t ht => hp t (.inl ht), ev_congr fun t ht => hp t (.inr ht)]; done)
theorem boxed_congr {o : RO} (h : Alike o σ σ') : o.m.boxed σ' = o.m.boxed σ := by
 have hp : ∀ t ∈ o.m.reads, (σ' t).plain = (σ t).plain := fun t ht => h.p t (by simp [RO.reads, ht])
 unfold M.reads at hp
 revert hp
 generalize o.m = m
 intro hp
 cases m <;> simp only [M.boxed]
 case box x => exact ev_congr fun t ht => hp t (by simpa [M.xs] using ht)
theorem gw_congr {o : RO} (h : Alike o σ σ') : gw σ' o.guard = gw σ o.guard := by
 have hp := h.p
 unfold RO.reads at hp
 cases hg : o.guard with
 | none => rfl
 | some p =>
  obtain ⟨t, want⟩ := p
  rw [hg] at hp
  simp only [gw]
  rw [hp t (by simp)]
theorem plain_plain (x : V) : x.plain.plain = x.plain := by cases x <;> rfl
theorem downF_plain (σ : Nat → V) (n : Option Nat) (t : Nat) : (downF σ n t).plain = (σ t).plain := by
 cases n with
 | none => rfl
 | some n =>
  simp only [downF, upd]
  split
  ·rename_i h; subst h; exact plain_plain _
  ·rfl
theorem RO.apart_spec {x y : RO} (h : x.apart y = true) : (∀ d, x.dst = some d → d ∉ y.reads) ∧ (∀ d, x.dst = some d → y.dst ≠ some d) ∧ (∀ d, y.dst = some d → d ∉ x.reads) ∧
  ∀ m n, x.m.downs = some m → y.m.downs = some n → m ≠ n := by
 simp only [RO.apart, Bool.and_eq_true] at h
 obtain ⟨⟨h1, h2⟩, h3⟩ := h
 refine ⟨fun d hd => ?_, fun d hd => ?_, fun d hd => ?_, fun m n hm hn => ?_⟩
 ·rw [hd] at h1; simp at h1; exact h1.1
 ·rw [hd] at h1; simp at h1; exact h1.2
 ·rw [hd] at h2; simp at h2; exact h2
 ·rw [hm, hn] at h3; simpa using h3
theorem putD_other {d : Option Nat} {v : V} {t : Nat} (h : d ≠ some t) : putD σ d v t = σ t := by
 cases d with
 | none => rfl
 | some d => exact upd_ne _ _ (fun e => h (by rw [e]))
theorem downF_other {d : Option Nat} {t : Nat} (h : d ≠ some t) : downF σ d t = σ t := by
 cases d with
 | none => rfl
 | some d => exact upd_ne _ _ (fun e => h (by rw [e]))
theorem stepF_at {o : RO} {wt : Bool} {v : V} {t : Nat} (hd : o.dst ≠ some t) : stepF o wt v σ t = if wt then downF σ o.m.downs t else σ t := by
 unfold stepF
 rw [putD_other hd]
 cases wt <;> rfl
theorem stepF_down {o : RO} {wt : Bool} {v : V} {t : Nat} (hd : o.dst ≠ some t) (h : o.m.downs = some t) : stepF o wt v σ t = if wt then (σ t).plain else σ t := by
 rw [stepF_at hd, h]
 cases wt <;> simp [downF]
theorem stepF_other {o : RO} {wt : Bool} {v : V} {t : Nat} (hd : o.dst ≠ some t) : (stepF o wt v σ t).plain = (σ t).plain ∧ (o.m.downs ≠ some t → stepF o wt v σ t = σ t) := by
 rw [stepF_at hd]
 cases wt with
 | false => exact ⟨rfl, fun _ => rfl⟩
 | true => exact ⟨downF_plain _ _ _, fun hn => downF_other hn⟩
theorem Alike.step {x y : RO} (h1 : ∀ d, x.dst = some d → d ∉ y.reads) (h2 : ∀ m n, x.m.downs = some m → y.m.downs = some n → m ≠ n) (wt : Bool) (v : V) : Alike y σ (stepF x wt v σ) where
 p t ht := (stepF_other fun e => h1 t e ht).1
 r n hn := by
  have hmem : n ∈ y.reads := by unfold RO.reads; exact List.mem_append_left _ (downs_reads hn)
  exact (stepF_other fun e => h1 n e hmem).2 fun e => h2 n n e hn rfl
theorem stepF_comm {x y : RO} (h : x.apart y = true) (wx wy : Bool) (vx vy : V) : stepF y wy vy (stepF x wx vx σ) = stepF x wx vx (stepF y wy vy σ) := by
 obtain ⟨a1, a2, a3, a4⟩ := RO.apart_spec h
 funext t
 by_cases hy : y.dst = some t
 ·have hx : x.dst ≠ some t := fun e => a2 t e hy
  have e1 : stepF y wy vy (stepF x wx vx σ) t = vy := by simp [stepF, putD, hy]
  have hn : x.m.downs ≠ some t := fun e => a3 t hy (by unfold RO.reads; exact List.mem_append_left _ (downs_reads e))
  rw [e1, (stepF_other hx).2 hn]
  simp [stepF, putD, hy]
 ·by_cases hx : x.dst = some t
  ·have e1 : stepF x wx vx (stepF y wy vy σ) t = vx := by simp [stepF, putD, hx]
   have hn : y.m.downs ≠ some t := fun e => a1 t hx (by unfold RO.reads; exact List.mem_append_left _ (downs_reads e))
   rw [e1, (stepF_other hy).2 hn]
   simp [stepF, putD, hx]
  ·by_cases hdx : x.m.downs = some t
   ·have hdy : y.m.downs ≠ some t := fun e => a4 t t hdx e rfl
    rw [(stepF_other hy).2 hdy]
    rw [stepF_down hx hdx, stepF_down hx hdx, (stepF_other hy).2 hdy]
   ·rw [(stepF_other (σ := stepF y wy vy σ) hx).2 hdx]
    by_cases hdy : y.m.downs = some t
    ·rw [stepF_down hy hdy, stepF_down hy hdy, (stepF_other hx).2 hdx]
    ·rw [(stepF_other hy).2 hdy, (stepF_other hy).2 hdy, (stepF_other hx).2 hdx]
theorem St.ext' {A B : St} (h1 : A.H = B.H) (h2 : A.n = B.n) (h3 : A.b = B.b) (h4 : A.c = B.c) (h5 : A.O = B.O) : A = B := by
 cases A; cases B
 simp only at h1 h2 h3 h4 h5
 subst h1; subst h2; subst h3; subst h4; subst h5; rfl
theorem YA.comm {x y : RO} {nx ny : Nat} {vx vy : V} {wx wy : Bool} (h : x.apart y = true) (hne : x.m.isBox = true → y.m.isBox = true → nx ≠ ny) (hx : YA P N S₀ nx x σ vx wx)
  (hy : YA P N S₀ ny y (stepF x wx vx σ) vy wy) :
  YA P N S₀ ny y σ vy wy ∧ YA P N S₀ nx x (stepF y wy vy σ) vx wx ∧
   stepF y wy vy (stepF x wx vx σ) = stepF x wx vx (stepF y wy vy σ) ∧
   stepS ny y wy (stepF x wx vx σ) (stepS nx x wx σ S) = stepS nx x wx (stepF y wy vy σ) (stepS ny y wy σ S) := by
 obtain ⟨a1, a2, a3, a4⟩ := RO.apart_spec h
 have ay : Alike y σ (stepF x wx vx σ) := Alike.step a1 a4 wx vx
 have ax : Alike x σ (stepF y wy vy σ) := Alike.step a3 (fun m n hm hn => fun e => a4 n m hn hm e.symm) wy vy
 have keyS : ∀ (o : RO) (nm : Nat) (wt : Bool) (σ : Nat → V) (S : St) (i k : Nat), (stepS nm o wt σ S).H i k = if (wt && o.m.isBox) = true ∧ i = S.b ∧ k = nm then some (o.m.boxed σ) else S.H i k := by
  intro o nm wt σ S i k
  unfold stepS
  by_cases hc : (wt && o.m.isBox) = true
  ·rw [if_pos hc]
   simp only [St.set, upd2_eq S.hO, hc, true_and]
  ·rw [if_neg hc, if_neg (by simp [hc])]
 have keyB : ∀ (o : RO) (nm : Nat) (wt : Bool) (σ : Nat → V) (S : St), (stepS nm o wt σ S).b = S.b := by
  intro o nm wt σ S
  unfold stepS; split <;> rfl
 refine ⟨⟨by rw [← gw_congr ay]; exact hy.g, hy.d, fun hw => ?_, hy.n⟩, ⟨by rw [gw_congr ax]; exact hx.g, hx.d, fun hw => ?_, hx.n⟩, stepF_comm h _ _ _ _, ?_⟩
 ·have := hy.y hw
  rwa [qval_congr ay] at this
 ·rw [qval_congr ax]; exact hx.y hw
 ·refine St.ext' ?_ ?_ ?_ ?_ ?_
  ·funext i k
   rw [keyS, keyS, keyS, keyS, keyB, keyB, boxed_congr ay, boxed_congr ax]
   by_cases c1 : (wy && y.m.isBox) = true ∧ i = S.b ∧ k = ny
   ·rw [if_pos c1]
    by_cases c2 : (wx && x.m.isBox) = true ∧ i = S.b ∧ k = nx
    ·have h1 := c1.1; have h2 := c2.1
     simp only [Bool.and_eq_true] at h1 h2
     exact absurd (c2.2.2.symm.trans c1.2.2) (hne h2.2 h1.2)
    ·rw [if_neg c2, if_pos c1]
   ·rw [if_neg c1, if_neg c1]
  all_goals (unfold stepS St.set; split <;> split <;> rfl)
def waitsOn (ops : Array Oper) (j i : Nat) : Bool := match ops[j]? with
 | some o => o.after.any fun e => Region.binds .any e && e.on == i
 | none => false
def reachG (ops : Array Oper) (i : Nat) : List Nat → List Nat → List Nat
 | [], acc => acc
 | j :: js, acc => bif waitsOn ops j i || acc.any (fun m => waitsOn ops j m) then reachG ops i js (j :: acc) else reachG ops i js acc
def waitsAll (ops : Array Oper) (j i : Nat) : Bool := waitsOn ops j i || (reachG ops i (List.range ops.size) []).contains j
theorem reachG_chain {ops : Array Oper} {i : Nat} {Q : Nat → Prop} (h : ∀ j m, waitsOn ops j m = true → Q j → Q m) : ∀ (js acc : List Nat), (∀ m ∈ acc, Q m → Q i) → ∀ j ∈ reachG ops i js acc, Q j → Q i
 | [], acc, ha, j, hj => ha j hj
 | k :: js, acc, ha, j, hj => by
  simp only [reachG] at hj
  cases hc : (waitsOn ops k i || acc.any fun m => waitsOn ops k m) with
  | false => rw [hc] at hj; exact reachG_chain h js acc ha j hj
  | true =>
   rw [hc] at hj
   refine reachG_chain h js (k :: acc) (fun m hm hq => ?_) j hj
   rcases List.mem_cons.1 hm with rfl | hm
   ·rcases Bool.or_eq_true_iff.1 hc with h1 | h1
    ·exact h _ _ h1 hq
    ·obtain ⟨m', hm', hw⟩ := List.any_eq_true.1 h1
     exact ha m' hm' (h _ _ hw hq)
   ·exact ha m hm hq
theorem waitsAll_chain {ops : Array Oper} {i j : Nat} {Q : Nat → Prop} (h : ∀ j m, waitsOn ops j m = true → Q j → Q m) (hw : waitsAll ops j i = true) (hj : Q j) : Q i := by
 rcases Bool.or_eq_true_iff.1 hw with h1 | h1
 ·exact h _ _ h1 hj
 ·exact reachG_chain h _ [] (by simp) j (by simpa using h1) hj
def Closed (ops : Array Oper) (listed : Array Bool) : Prop := ∀ j m, waitsOn ops j m = true → listed.getD j true = true → listed.getD m true = true
theorem waits_ready {ops : Array Oper} {listed : Array Bool} {j m : Nat} (hj : j ∈ Region.ready .any ops listed) (hw : waitsOn ops j m = true) : listed.getD m true = true := by
 obtain ⟨_, o, ho, hall⟩ := mem_ready.1 hj
 unfold waitsOn at hw
 rw [ho] at hw
 simp only at hw
 obtain ⟨e, he, hb⟩ := Array.any_eq_true'.1 hw
 simp only [Bool.and_eq_true, beq_iff_eq] at hb
 have := hall e he hb.1
 rw [hb.2] at this
 rcases Nat.lt_or_ge m listed.size with h' | h'
 ·simp [h'] at this ⊢; exact this
 ·simp [Array.getElem?_eq_none h'] at this
theorem Closed.ready {ops : Array Oper} {listed : Array Bool} (hc : Closed ops listed) {j i : Nat} (hj : j ∈ Region.ready .any ops listed) (hw : waitsAll ops j i = true) : listed.getD i true = true := by
 have key : ∀ j' m, waitsOn ops j' m = true → (j' = j ∨ listed.getD j' true = true) → (m = j ∨ listed.getD m true = true) := by
  intro q m hwq hq
  rcases hq with e | h
  ·exact .inr (waits_ready hj (by rw [← e]; exact hwq))
  ·exact .inr (hc q m hwq h)
 rcases waitsAll_chain key hw (.inl rfl) with e | h
 ·
  subst e
  rcases Bool.or_eq_true_iff.1 hw with h1 | h1
  ·exact waits_ready hj h1
  ·have h2 : ∀ js acc, (∀ m ∈ acc, (m = i ∨ listed.getD m true = true) → listed.getD i true = true) → ∀ k ∈ reachG ops i js acc, (k = i ∨ listed.getD k true = true) → listed.getD i true = true := by
    intro js
    induction js with
    | nil => intro acc ha k hk; exact ha k hk
    | cons q js ih =>
     intro acc ha k hk
     simp only [reachG] at hk
     cases hc' : (waitsOn ops q i || acc.any fun m => waitsOn ops q m) with
     | false => rw [hc'] at hk; exact ih acc ha k hk
     | true =>
      rw [hc'] at hk
      refine ih (q :: acc) (fun m hm hq => ?_) k hk
      rcases List.mem_cons.1 hm with rfl | hm
      ·have dep : ∀ m', waitsOn ops m m' = true → listed.getD m' true = true := fun m' hw' => by
        rcases hq with e | hq
        ·exact waits_ready hj (by rw [← e]; exact hw')
        ·exact hc _ _ hw' hq
       rcases Bool.or_eq_true_iff.1 hc' with h1 | h1
       ·exact dep _ h1
       ·obtain ⟨m', hm', hw'⟩ := List.any_eq_true.1 h1
        exact ha m' hm' (.inr (dep _ hw'))
      ·exact ha m hm hq
   exact h2 _ [] (by simp) i (by simpa using h1) (.inl rfl)
 ·exact h
theorem Closed.set {ops : Array Oper} {listed : Array Bool} (hc : Closed ops listed) {j : Nat} (hj : j ∈ Region.ready .any ops listed) : Closed ops (listed.setIfInBounds j true) := by
 have up : ∀ m, listed.getD m true = true → (listed.setIfInBounds j true).getD m true = true := fun m hm => by
  by_cases e : j = m
  ·subst e
   rcases Nat.lt_or_ge j listed.size with h' | h'
   ·simp [h']
   ·simp [Array.getElem?_eq_none (show (listed.setIfInBounds j true).size ≤ j by simpa using h')]
  ·rw [getD_set_ne true e]; exact hm
 intro k m hw hk
 by_cases e : j = k
 ·subst e; exact up m (waits_ready hj hw)
 ·rw [getD_set_ne true e] at hk; exact up m (hc k m hw hk)
theorem Closed.start (ops : Array Oper) : Closed ops (Array.replicate ops.size false) := by
 intro j m hw hj
 unfold waitsOn at hw
 cases ho : ops[j]? with
 | none => rw [ho] at hw; cases hw
 | some o =>
  have hlt : j < ops.size := (Array.getElem?_eq_some_iff.1 ho).1
  simp [hlt] at hj
def freeA (ops : Array Oper) (ros : Array RO) (kA : Nat) (listed : Array Bool) (i : Nat) : Bool :=
 (List.range ops.size).all fun j => j == i || listed.getD j true || waitsAll ops j i || ((decide (j < kA) || ((ros.getD j default).lateSt && (ros.getD i default).m.blind)) && (ros.getD i default).apart (ros.getD j default))
def lexAB (ops : Array Oper) (ros : Array RO) (kA : Nat) : Nat → Nat → Array Bool → Bool
 | 0, _, listed => (Region.ready .any ops listed).isEmpty
 | n + 1, k, listed =>
  (if k < kA then (Region.ready .any ops listed).contains k && freeA ops ros kA listed k else Region.ready .any ops listed == [k]) &&
  lexAB ops ros kA n (k + 1) (listed.setIfInBounds k true)
def laterWait (ops : Array Oper) (ros : Array RO) (kA : Nat) : Bool := (List.range ops.size).all fun k => decide (k < kA) || (List.range k).all fun i => waitsAll ops k i || ((ros.getD k default).lateSt && (ros.getD i default).m.blind)
def boxesB (l : List RO) : Nat := (l.filter (·.m.isBox)).length
def nameOf (ros : Array RO) (S₀ : St) (i : Nat) : Nat := S₀.c + boxesB (ros.toList.take i)
theorem boxesB_append (l r : List RO) : boxesB (l ++ r) = boxesB l + boxesB r := by simp [boxesB]
theorem nameOf_lt {ros : Array RO} {S₀ : St} {i j : Nat} {oi : RO} (hi : ros[i]? = some oi) (hb : oi.m.isBox = true) (hij : i < j) : nameOf ros S₀ i < nameOf ros S₀ j := by
 unfold nameOf
 have hi' : ros.toList[i]? = some oi := by simpa using hi
 have e : ros.toList.take j = ros.toList.take i ++ oi :: (ros.toList.take j).drop (i + 1) := by
  have h1 : i < (ros.toList.take j).length := by
   have := (List.getElem?_eq_some_iff.1 hi').1
   rw [List.length_take]; omega
  have h2 : (ros.toList.take j)[i] = oi := by
   have := (List.getElem?_eq_some_iff.1 hi').2
   simpa using this
  conv => lhs; rw [← List.take_append_drop i (ros.toList.take j)]
  rw [List.take_take, Nat.min_eq_left (by omega), List.drop_eq_getElem_cons h1, h2]
 rw [e, boxesB_append]
 have : boxesB (oi :: (ros.toList.take j).drop (i + 1)) = 1 + boxesB ((ros.toList.take j).drop (i + 1)) := by simp [boxesB, hb]; omega
 omega
theorem nameOf_ne {ros : Array RO} {S₀ : St} {i j : Nat} {oi oj : RO} (hi : ros[i]? = some oi) (hj : ros[j]? = some oj) (hij : i ≠ j) (h1 : oi.m.isBox = true) (h2 : oj.m.isBox = true) :
  nameOf ros S₀ i ≠ nameOf ros S₀ j := by
 rcases Nat.lt_or_ge i j with h | h
 ·have := nameOf_lt (S₀ := S₀) hi h1 h; omega
 ·have := nameOf_lt (S₀ := S₀) hj h2 (show j < i by omega); omega
section
variable (P : Program) (N : Nat) (S₀ : St) (ops : Array Oper) (ros : Array RO) (kA : Nat) (Q : AX → (Nat → V) → St → Prop)
def aOp (i : Nat) (K : (Nat → V) → St → Prop) (σ : Nat → V) (S : St) : Prop :=
 match ros[i]? with
 | none => False
 | some ro => if i < kA then qOp P N S₀ (nameOf ros S₀ i) ro K σ S else ro.vc P Q K σ S
def wpAnyA : Nat → Array Bool → (Nat → V) → St → Prop
 | 0, listed, σ, S => Region.ready .any ops listed = [] ∧ Q .normal σ S
 | n + 1, listed, σ, S => (Region.ready .any ops listed = [] → Q .normal σ S) ∧
   ∀ i ∈ Region.ready .any ops listed, aOp P N S₀ ros kA Q i (wpAnyA n (listed.setIfInBounds i true)) σ S
end
theorem st_swap {x y : RO} (h : x.apart y = true) (hst : y.lateSt = true) (hbl : x.m.blind = true) {nm : Nat} {v : V} {wt : Bool} {Q : AX → (Nat → V) → St → Prop} {K K' : (Nat → V) → St → Prop}
  (hy : y.vc P Q K (stepF x wt v σ) (stepS nm x wt σ S)) (hK : ∀ S', K (stepF x wt v σ) S' → K' σ S') : y.vc P Q K' σ S := by
 obtain ⟨a1, a2, a3, a4⟩ := RO.apart_spec h
 have al : Alike y σ (stepF x wt v σ) := Alike.step a1 a4 wt v
 have e : stepS nm x wt σ S = S := by simp [stepS, blind_isBox hbl]
 rw [e] at hy
 have hp := al.p
 unfold RO.reads M.reads at hp
 unfold RO.lateSt at hst
 simp only [Bool.and_eq_true, Option.isNone_iff_eq_none] at hst
 obtain ⟨⟨h1, h2⟩, h3⟩ := hst
 unfold RO.vc RO.vc1 at hy ⊢
 rw [h2] at hy ⊢
 rw [h3] at hy ⊢
 simp only at hy ⊢
 revert hp h1 hy
 generalize y.m = m
 intro hy hp h1
 cases m with
 | st sz a b =>
  simp only [M.xs, List.flatMap_cons, List.flatMap_nil, List.append_nil, List.mem_append] at hp
  have ea : a.ev (stepF x wt v σ) = a.ev σ := ev_congr fun t ht => hp t (.inl (.inl ht))
  have eb : b.ev (stepF x wt v σ) = b.ev σ := ev_congr fun t ht => hp t (.inl (.inr ht))
  simp only [M.eff, M.val, ea, eb, putD] at hy ⊢
  generalize a.ev σ = A at hy ⊢
  cases A with
  | ref i k off =>
   simp only at hy ⊢
   generalize S.H i k = c at hy ⊢
   cases c with
   | none => exact hy.elim
   | some c =>
    simp only at hy ⊢
    by_cases hc : c.isBig = false ∧ (b.ev σ).data = true ∧ (b.ev σ).cells.length = sz ∧ off + sz ≤ c.cells.length ∧ (c.isAgg = true ∨ (b.ev σ).isAgg = false)
    ·rw [if_pos hc] at hy ⊢
     exact hK _ hy
    ·rw [if_neg hc] at hy
     exact hy.elim
  | eref i k sz' j =>
   simp only at hy ⊢
   generalize S.H i k = c at hy ⊢
   cases c with
   | none => exact hy.elim
   | some c =>
    cases c with
    | rows sz'' xs =>
     simp only at hy ⊢
     by_cases hc : sz' = sz ∧ sz'' = sz ∧ (b.ev σ).data = true ∧ (b.ev σ).cells.length = sz
     ·rw [if_pos hc] at hy ⊢
      revert hy
      cases S.O.put xs j (b.ev σ) with
      | none => exact fun hy => hy.elim
      | some xs' => exact fun hy => hK _ hy
     ·rw [if_neg hc] at hy
      exact hy.elim
    | _ => exact hy.elim
  | _ => exact hy.elim
 | _ => simp [M.isSt] at h1
section
variable {ops : Array Oper} {ros : Array RO} {kA : Nat} {Q : AX → (Nat → V) → St → Prop}
theorem wpAnyA_first {i : Nat} {oi : RO} {v : V} {wt : Bool} (hik : i < kA) (hi : ros[i]? = some oi) :
  ∀ (fuel : Nat) (listed : Array Bool) (σ : Nat → V) (S : St), Closed ops listed →
   (∀ j, j < ops.size → j ≠ i → listed.getD j true = false → waitsAll ops j i = false → ∃ oj, ros[j]? = some oj ∧ oi.apart oj = true ∧ (j < kA ∨ (oj.lateSt = true ∧ oi.m.blind = true))) →
   i ∈ Region.ready .any ops listed → YA P N S₀ (nameOf ros S₀ i) oi σ v wt →
   wpAnyA P N S₀ ops ros kA Q fuel (listed.setIfInBounds i true) (stepF oi wt v σ) (stepS (nameOf ros S₀ i) oi wt σ S) → wpAnyA P N S₀ ops ros kA Q (fuel + 1) listed σ S := by
 have self : ∀ (K : (Nat → V) → St → Prop) (σ : Nat → V) (S : St), YA P N S₀ (nameOf ros S₀ i) oi σ v wt → K (stepF oi wt v σ) (stepS (nameOf ros S₀ i) oi wt σ S) → aOp P N S₀ ros kA Q i K σ S := by
  intro K σ S hy hK
  unfold aOp
  simp only [hi]
  rw [if_pos hik]
  exact ⟨v, wt, hy, hK⟩
 intro fuel
 induction fuel with
 | zero =>
  intro listed σ S _ _ hr hy H
  refine ⟨fun h => (by rw [h] at hr; cases hr), fun j hj => ?_⟩
  by_cases hji : j = i
  ·subst hji; exact self _ _ _ hy H
  ·have := ready_mono hj hji
   rw [H.1] at this
   cases this
 | succ fuel ih =>
  intro listed σ S hcl hfree hr hy H
  refine ⟨fun h => (by rw [h] at hr; cases hr), fun j hj => ?_⟩
  by_cases hji : j = i
  ·subst hji; exact self _ _ _ hy H
  ·have h1 := H.2 j (ready_mono hj hji)
   obtain ⟨hjun, oj', hoj', hall⟩ := mem_ready.1 hj
   have hjlt : j < ops.size := (Array.getElem?_eq_some_iff.1 hoj').1
   have hnot : waitsAll ops j i = false := by
    cases hw : waitsAll ops j i with
    | false => rfl
    | true =>
     have h0 := (mem_ready.1 hr).1
     rw [hcl.ready hj hw] at h0
     cases h0
   obtain ⟨oj, hoj, hap, hkind⟩ := hfree j hjlt hji hjun hnot
   unfold aOp at h1
   simp only [hoj] at h1
   have hfree' : ∀ k, k < ops.size → k ≠ i → (listed.setIfInBounds j true).getD k true = false → waitsAll ops k i = false → ∃ oj, ros[k]? = some oj ∧ oi.apart oj = true ∧ (k < kA ∨ (oj.lateSt = true ∧ oi.m.blind = true)) := fun k hk hki hun hno => hfree k hk hki (by
    by_cases hjk : j = k
    ·subst hjk; exact hjun
    ·rw [getD_set_ne true hjk] at hun; exact hun) hno
   by_cases hjk : j < kA
   case neg =>
    rw [if_neg hjk] at h1
    obtain ⟨hst, hbl⟩ := hkind.resolve_left hjk
    unfold aOp
    simp only [hoj]
    rw [if_neg hjk]
    refine st_swap hap hst hbl h1 fun S' hK => ?_
    refine ih (listed.setIfInBounds j true) σ S' (hcl.set hj) hfree' (ready_mono hr (Ne.symm hji)) hy ?_
    rw [Array.setIfInBounds_comm _ _ hji]
    have e : stepS (nameOf ros S₀ i) oi wt σ S' = S' := by simp [stepS, blind_isBox hbl]
    rw [e]
    exact hK
   rw [if_pos hjk] at h1
   obtain ⟨vj, wj, hyj, hKj⟩ := h1
   obtain ⟨c1, c2, c3, c4⟩ := YA.comm (S := S) hap (fun h1 h2 => nameOf_ne hi hoj (Ne.symm hji) h1 h2) hy hyj
   unfold aOp
   simp only [hoj]
   rw [if_pos hjk]
   refine ⟨vj, wj, c1, ?_⟩
   rw [c3, c4] at hKj
   refine ih (listed.setIfInBounds j true) _ _ (hcl.set hj) hfree' (ready_mono hr (Ne.symm hji)) c2 ?_
   rw [Array.setIfInBounds_comm _ _ hji]
   exact hKj
end
end
end Go.Pl
end
section
namespace Go.Pl
def RO.q1 (P : Program) (S₀ : St) (nm : Nat) (o : RO) (K : (Nat → V) → St → Prop) (σ : Nat → V) (S : St) : Prop :=
 match o.m with
 | .call f args => ∃ v, Pure P f (args.map (·.ev σ)) S₀ v ∧ K (putD σ o.dst v) S
 | .callv x args => match x.ev σ with
  | .fn f caps => ∃ v, Pure P f (args.map (·.ev σ) ++ caps) S₀ v ∧ K (putD σ o.dst v) S
  | _ => False
 | .new z => K (putD σ o.dst (.ref S₀.b nm 0)) (S.set S.b nm z)
 | .box x => bif (x.ev σ).data then K (putD σ o.dst (.ref S₀.b nm 0)) (S.set S.b nm (x.ev σ)) else False
 | .boxr x => bif (x.ev σ).data then K (putD σ o.dst (.ro (x.ev σ))) S else False
 | .asg x => K (putD (x.down σ) o.dst (x.raw σ)) S
 | .mks e sz xs => match S₀.O.good sz (xs.map (·.ev σ)) with
  | true => K (putD σ o.dst (.gr e false sz (xs.map (·.ev σ)))) S
  | false => False
 | .app _ e sz bytes x y => match appV S₀.O e sz bytes (x.raw σ) (y.ev σ) with
  | some v => K (putD (x.down σ) o.dst v) S
  | none => False
 | .st _ _ _ => False
 | m => match m.val σ S₀ with
  | some v => K (putD σ o.dst v) S
  | none => False
def RO.q (P : Program) (S₀ : St) (nm : Nat) (o : RO) (K : (Nat → V) → St → Prop) (σ : Nat → V) (S : St) : Prop :=
 match o.guard with
 | none => o.q1 P S₀ nm K σ S
 | some (t, want) => match σ t with
  | .bool b => bif b == want then o.q1 P S₀ nm K σ S else K (putD σ o.dst .undef) S
  | .tup _ => K (putD σ o.dst .undef) S
  | _ => False
def vcA (P : Program) (S₀ : St) : List RO → Nat → ((Nat → V) → St → Prop) → (Nat → V) → St → Prop
 | [], _, K, σ, S => K σ S
 | o :: r, nm, K, σ, S => o.q P S₀ nm (vcA P S₀ r (bif o.m.isBox then nm + 1 else nm) K) σ S
def vcDraw (P : Program) (Q : AX → (Nat → V) → St → Prop) (kA : Nat) (ros : List RO) (σ : Nat → V) (S : St) : Prop :=
 vcA P S (ros.take kA) S.c (vcOps P Q (ros.drop kA)) σ { S with c := S.c + boxesB (ros.take kA) }
section
variable {P : Program} {N : Nat} {S₀ S : St} {σ σ' : Nat → V}
theorem x_down (σ : Nat → V) (x : X) : x.down σ = downF σ x.tmp? := by cases x <;> rfl
theorem q1_qOp {nm : Nat} {o : RO} {K : (Nat → V) → St → Prop} (hg : gw σ o.guard = some true) (hd : ∀ k, o.dst = some k → k < N) (h : o.q1 P S₀ nm K σ S) : qOp P N S₀ nm o K σ S := by
 have mk : ∀ v, qval P S₀ nm σ o.m v → K (putD (downF σ o.m.downs) o.dst v) (if o.m.isBox then S.set S.b nm (o.m.boxed σ) else S) → qOp P N S₀ nm o K σ S := fun v hq hK =>
  ⟨v, true, ⟨hg, hd, fun _ => hq, fun h => by cases h⟩, by simpa [stepF, stepS] using hK⟩
 unfold RO.q1 at h
 revert mk h
 generalize o.m = m
 intro h mk
 cases m <;> simp only at h
 case call f args => obtain ⟨v, h1, h2⟩ := h; exact mk v h1 h2
 case callv x args =>
  split at h
  ·rename_i f caps hx
   obtain ⟨v, h1, h2⟩ := h
   exact mk v (by simp only [qval]; rw [hx]; exact h1) h2
  ·exact h.elim
 case new z => exact mk _ rfl h
 case box x =>
  cases hb : (x.ev σ).data with
  | false => rw [hb] at h; exact h.elim
  | true => rw [hb] at h; exact mk _ ⟨hb, rfl⟩ h
 case boxr x =>
  cases hb : (x.ev σ).data with
  | false => rw [hb] at h; exact h.elim
  | true => rw [hb] at h; exact mk _ ⟨hb, rfl⟩ h
 case asg x => exact mk _ rfl (by simp only [M.downs, M.isBox]; rw [← x_down]; exact h)
 case mks e sz xs =>
  split at h
  ·rename_i hb; exact mk _ ⟨hb, rfl⟩ h
  ·exact h.elim
 case app t e sz b x y =>
  split at h
  ·rename_i v hv; exact mk v hv (by simp only [M.downs, M.isBox]; rw [← x_down]; exact h)
  ·exact h.elim
 all_goals
  split at h
  ·rename_i v hv; exact mk v hv h
  ·exact h.elim
theorem q_qOp {nm : Nat} {o : RO} {K : (Nat → V) → St → Prop} (hd : ∀ k, o.dst = some k → k < N) (h : o.q P S₀ nm K σ S) : qOp P N S₀ nm o K σ S := by
 unfold RO.q at h
 cases hg : o.guard with
 | none => rw [hg] at h; exact q1_qOp (by rw [hg]; rfl) hd h
 | some p =>
  obtain ⟨t, want⟩ := p
  rw [hg] at h
  simp only at h
  have skip : gw σ o.guard = some false → K (putD σ o.dst .undef) S → qOp P N S₀ nm o K σ S := fun hw hk =>
   ⟨.undef, false, ⟨hw, hd, (fun e => by cases e), fun _ => rfl⟩, by simpa [stepF, stepS] using hk⟩
  split at h
  ·rename_i b hb
   by_cases hbw : b = want
   ·have e : (b == want) = true := by simpa using hbw
    rw [e] at h
    exact q1_qOp (by rw [hg]; simp [gw, hb, V.plain, hbw]) hd h
   ·have e : (b == want) = false := by simpa using hbw
    rw [e] at h
    exact skip (by rw [hg]; simp [gw, hb, V.plain, hbw]) h
  ·rename_i l hl
   exact skip (by rw [hg]; simp [gw, hl, V.plain]) h
  ·exact h.elim
theorem callK_mono {d : Option Nat} {Q Q' : AX → (Nat → V) → St → Prop} {K K' : (Nat → V) → St → Prop} (hQ : ∀ e σ S, Q e σ S → Q' e σ S) (hK : ∀ σ S, K σ S → K' σ S) :
  ∀ e S, callK σ d Q K e S → callK σ d Q' K' e S
 | .ret _, _, h => hK _ _ h
 | .pan _, _, h => hQ _ _ _ h
theorem vc1_mono {o : RO} {Q Q' : AX → (Nat → V) → St → Prop} {K K' : (Nat → V) → St → Prop} (hQ : ∀ e σ S, Q e σ S → Q' e σ S) (hK : ∀ σ S, K σ S → K' σ S) (h : o.vc1 P Q K σ S) : o.vc1 P Q' K' σ S := by
 unfold RO.vc1 at h ⊢
 revert h
 generalize o.m = m
 intro h
 cases m <;> simp only at h ⊢
 case call f args => exact h.mono (callK_mono hQ hK)
 case callv x args =>
  split at h
  ·exact ACalls.mono h (callK_mono hQ hK)
  ·exact h.elim
 case pan x =>
  split at h
  ·exact hQ _ _ _ h
  ·exact h.elim
 all_goals
  split at h
  ·exact hK _ _ h
  ·split at h
   ·exact hK _ _ h
   ·exact h.elim
theorem vc_mono' {o : RO} {Q Q' : AX → (Nat → V) → St → Prop} {K K' : (Nat → V) → St → Prop} (hQ : ∀ e σ S, Q e σ S → Q' e σ S) (hK : ∀ σ S, K σ S → K' σ S) (h : o.vc P Q K σ S) : o.vc P Q' K' σ S := by
 unfold RO.vc at *
 cases hg : o.guard with
 | none => rw [hg] at h; exact vc1_mono hQ hK h
 | some p =>
  obtain ⟨t, want⟩ := p
  rw [hg] at h
  simp only at h ⊢
  split at h
  ·rename_i b hb
   cases hbw : (b == want) with
   | true => rw [hbw] at h; exact vc1_mono hQ hK h
   | false => rw [hbw] at h; exact hK _ _ h
  ·exact hK _ _ h
  ·exact h.elim
end
section
variable {P : Program} {N : Nat} {S₀ : St} {ops : Array Oper} {ros : Array RO} {kA : Nat} {Q : AX → (Nat → V) → St → Prop}
theorem lexB_sound : ∀ (n k : Nat) (listed : Array Bool) (σ : Nat → V) (S : St), lexAB ops ros kA n k listed = true → kA ≤ k → ros.size = k + n → vcOps P Q (ros.toList.drop k) σ S →
  wpAnyA P N S₀ ops ros kA Q n listed σ S
 | 0, k, listed, σ, S, hl, hk, hn, hv => by
  rw [List.drop_eq_nil_of_le (by simp; omega)] at hv
  exact ⟨by simpa [lexAB] using hl, hv⟩
 | n + 1, k, listed, σ, S, hl, hk, hn, hv => by
  have hlt : k < ros.toList.length := by simp; omega
  rw [List.drop_eq_getElem_cons hlt] at hv
  simp only [lexAB, Bool.and_eq_true] at hl
  rw [if_neg (by omega)] at hl
  have hr : Region.ready .any ops listed = [k] := by simpa using hl.1
  refine ⟨fun h => (by rw [h] at hr; cases hr), fun i hi => ?_⟩
  rw [hr] at hi
  simp only [List.mem_singleton] at hi
  subst hi
  unfold aOp
  have hro : ros[i]? = some ros.toList[i] := by
   have := List.getElem?_eq_getElem hlt
   simp at this ⊢
  simp only [hro]
  rw [if_neg (by omega)]
  exact vc_mono' (fun _ _ _ hq => hq) (fun σ S hk' => lexB_sound n (i + 1) _ σ S hl.2 (by omega) (by omega) hk') hv
theorem lexA_sound (hd : ∀ (i : Nat) (ro : RO), ros[i]? = some ro → ∀ k, ro.dst = some k → k < N) : ∀ (m n k : Nat) (listed : Array Bool) (σ : Nat → V) (S : St), Closed ops listed → lexAB ops ros kA (m + n) k listed = true → k + m = kA → ros.size = k + (m + n) → ops.size = ros.size →
  vcA P S₀ ((ros.toList.take kA).drop k) (nameOf ros S₀ k) (vcOps P Q (ros.toList.drop kA)) σ S → wpAnyA P N S₀ ops ros kA Q (m + n) listed σ S
 | 0, n, k, listed, σ, S, _, hl, hk, hn, ho, hv => by
  rw [List.drop_eq_nil_of_le (by simp; omega)] at hv
  simp only [Nat.zero_add] at hl hn ⊢
  exact lexB_sound n k listed σ S hl (by omega) hn (by simp only [vcA] at hv; rw [show k = kA by omega]; exact hv)
 | m + 1, n, k, listed, σ, S, hcl, hl, hk, hn, ho, hv => by
  have hlt : k < ros.toList.length := by simp; omega
  have hlt' : k < (ros.toList.take kA).length := by rw [List.length_take]; omega
  rw [List.drop_eq_getElem_cons hlt'] at hv
  have he : (ros.toList.take kA)[k] = ros.toList[k] := by simp
  rw [he] at hv
  have hro : ros[k]? = some ros.toList[k] := by simp
  rw [show m + 1 + n = (m + n) + 1 by omega] at hl ⊢
  simp only [lexAB, Bool.and_eq_true] at hl
  rw [if_pos (by omega)] at hl
  obtain ⟨h1, h2⟩ := hl
  simp only [Bool.and_eq_true] at h1
  obtain ⟨hr, hf⟩ := h1
  simp only [vcA] at hv
  obtain ⟨v, wt, hy, hK⟩ := q_qOp (N := N) (hd k _ hro) hv
  have hnm : (bif ros.toList[k].m.isBox then nameOf ros S₀ k + 1 else nameOf ros S₀ k) = nameOf ros S₀ (k + 1) := by
   unfold nameOf
   rw [List.take_succ_eq_append_getElem hlt, boxesB_append]
   cases hb : ros.toList[k].m.isBox with
   | true =>
    simp only [cond_true]
    have : boxesB [ros.toList[k]] = 1 := by simp only [boxesB, List.filter_cons, hb, if_true, List.filter_nil, List.length_cons, List.length_nil]
    omega
   | false =>
    simp only [cond_false]
    have : boxesB [ros.toList[k]] = 0 := by simp only [boxesB, List.filter_cons, hb, List.filter_nil]; rfl
    omega
  rw [hnm] at hK
  refine wpAnyA_first (by omega) hro (m + n) listed σ S hcl ?_ (by simpa using hr) hy (lexA_sound hd m n (k + 1) _ _ _ (hcl.set (by simpa using hr)) h2 (by omega) (by omega) ho hK)
  intro j hj hjk hun hnw
  simp only [freeA, List.all_eq_true, List.mem_range] at hf
  have := hf j hj
  have hjr : j < ros.size := by omega
  have e1 : ros.getD k default = ros.toList[k] := by
   have : k < ros.size := by simpa using hlt
   simp [this]
  have e2 : ros.getD j default = ros[j] := by simp [hjr]
  rw [e1, e2] at this
  simp only [Bool.or_eq_true, beq_iff_eq, hjk, false_or, hun, Bool.false_eq_true, hnw, Bool.and_eq_true, decide_eq_true_eq] at this
  exact ⟨ros[j], by simp [hjr], this.2, this.1⟩
end
end Go.Pl
end
