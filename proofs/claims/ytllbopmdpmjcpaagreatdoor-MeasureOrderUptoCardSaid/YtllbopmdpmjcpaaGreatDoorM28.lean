import Derived.Test.YtllbopmdpmjcpaaGreatDoorM11
set_option linter.unusedSimpArgs false
set_option linter.unusedVariables false
set_option linter.unusedSectionVars false
namespace Go.Pl
def LoopIn (P : Program) (c : Code) (Q : Exit → Act → World → Prop) (a : Act) (w : World) : Prop :=
 ∀ (b : Frame) (k : List Item) (cs : List Frame), ∃ e a' w', Q e a' w' ∧ Arrives P (lone (b.at a (.code c :: .inLoop c :: k)) cs w) b k cs e a' w'
theorem LoopIn.step {P : Program} {c : Code} {Q : Exit → Act → World → Prop} {a : Act} {w : World} (h : c.wp P (Exit.then (LoopIn P c Q) Q) a w) : LoopIn P c Q a w := by
 intro b k cs
 obtain ⟨e, a₁, w₁, hq, harr⟩ := h b (.inLoop c :: k) cs
 cases e with
 | normal =>
  obtain ⟨e₂, a₂, w₂, hq₂, harr₂⟩ := hq b k cs
  exact ⟨e₂, a₂, w₂, hq₂, .of_steps (Steps.trans harr (.one step_inLoop)) harr₂⟩
 | exit id => exact ⟨_, a₁, w₁, hq, .pass (x := .inLoop c) rfl (fun _ _ => .inl (by simp)) harr⟩
 | goto l => exact ⟨_, a₁, w₁, hq, .pass (x := .inLoop c) rfl (fun _ _ => .inl (by simp)) harr⟩
 | ret => exact ⟨_, a₁, w₁, hq, .pass (x := .inLoop c) rfl (fun _ _ => .inl (by simp)) harr⟩
 | panic ch => exact ⟨_, a₁, w₁, hq, .pass (x := .inLoop c) rfl (fun _ _ => .inl (by simp)) harr⟩
 | outgrown => exact ⟨_, a₁, w₁, hq, .pass (x := .inLoop c) rfl (fun _ _ => .inl (by simp)) harr⟩
theorem LoopIn.wp {P : Program} {c : Code} {Q : Exit → Act → World → Prop} {a : Act} {w : World} (h : LoopIn P c Q a w) : (Code.loop c).wp P Q a w := by
 intro b k cs
 obtain ⟨e, a', w', hq, harr⟩ := h b k cs
 exact ⟨e, a', w', hq, .of_steps (.one step_loop) harr⟩
def bnd (o : Option V) (K : V → Prop) : Prop := match o with
 | some v => K v
 | none => False
def brV (x : V) (A B : Prop) : Prop := match x with
 | .bool t => bif t then A else B
 | _ => False
def gdV (x : V) (want : Bool) (A B : Prop) : Prop := match x with
 | .bool b => bif b == want then A else B
 | .tup _ => B
 | _ => False
def opV (S : St) (m : M) : Option V := m.val (fun _ => .any) S
def effA (S : St) (m : M) (K : V → St → Prop) : Prop := match m.eff (fun _ => .any) S with
 | some (v, _, S') => K v S'
 | none => False
def callE (Kr Kp : V → St → Prop) : AE → St → Prop
 | .ret v, S => Kr v S
 | .pan v, S => Kp v S
def callA (P : Program) (f : Nat) (args : List V) (S : St) (Kr Kp : V → St → Prop) : Prop := ACalls P f args S (callE Kr Kp)
def callvA (P : Program) (x : V) (args : List V) (S : St) (Kr Kp : V → St → Prop) : Prop := match x with
 | .fn f caps => callA P f (args ++ caps) S Kr Kp
 | _ => False
def callP (P : Program) (f : Nat) (args : List V) (S : St) (Kr : V → Prop) : Prop := ∃ v, Pure P f args S v ∧ Kr v
def callvP (P : Program) (x : V) (args : List V) (S : St) (Kr : V → Prop) : Prop := match x with
 | .fn f caps => callP P f (args ++ caps) S Kr
 | _ => False
def panA (x : V) (S : St) (Kp : V → St → Prop) : Prop := match x with
 | .iface t y => Kp (.iface t y) S
 | _ => False
def CJ : List Nat → Type
 | [] => St → Prop
 | _ :: ts => V → CJ ts
def CJ.app : (ts : List Nat) → CJ ts → (Nat → V) → St → Prop
 | [], J, _, S => J S
 | t :: ts, J, σ, S => CJ.app ts (J (σ t)) σ S
def CJ.lam : (ts : List Nat) → ((Nat → V) → St → Prop) → (Nat → V) → CJ ts
 | [], k, σ => fun S => k σ S
 | t :: ts, k, σ => fun v => CJ.lam ts k (fun u => if u = t then v else σ u)
def CJ.le : (ts : List Nat) → CJ ts → CJ ts → Prop
 | [], A, B => ∀ S, A S → B S
 | _ :: ts, A, B => ∀ v, CJ.le ts (A v) (B v)
structure gjn {α : Type} (A : α → Prop) (J : α) : Prop where
 out : A J
def loopC (ts : List Nat) (step : CJ ts → CJ ts) (σ : Nat → V) (S : St) : Prop := ∀ R : CJ ts, CJ.le ts (step R) R → CJ.app ts R σ S
theorem app_lam_eq {k : (Nat → V) → St → Prop} {σ : Nat → V} {S : St} : ∀ (ts : List Nat) (τ : Nat → V), (∀ u, u ∉ ts → σ u = τ u) → CJ.app ts (CJ.lam ts k τ) σ S = k σ S
 | [], τ, h => by
  have : σ = τ := funext fun u => h u (by simp)
  subst this; rfl
 | t :: ts, τ, h => by
  refine app_lam_eq ts _ fun u hu => ?_
  by_cases e : u = t
  ·simp [e]
  ·simp only [e, if_false]; exact h u (by simp [e, hu])
theorem app_lam_any {k : (Nat → V) → St → Prop} {σ : Nat → V} {S : St} : ∀ (ts : List Nat) (τ : Nat → V), ∃ σ', (∀ u, σ' u = σ u ∨ σ' u = τ u) ∧ CJ.app ts (CJ.lam ts k τ) σ S = k σ' S
 | [], τ => ⟨τ, fun _ => .inr rfl, rfl⟩
 | t :: ts, τ => by
  obtain ⟨σ', h1, h2⟩ := app_lam_any (k := k) (σ := σ) (S := S) ts (fun u => if u = t then σ t else τ u)
  refine ⟨σ', fun u => ?_, h2⟩
  rcases h1 u with e | e
  ·exact .inl e
  ·by_cases hu : u = t
   ·subst hu; rw [if_pos rfl] at e; exact .inl e
   ·rw [if_neg hu] at e; exact .inr e
theorem app_le : ∀ (ts : List Nat) {A B : CJ ts}, CJ.le ts A B → ∀ (σ : Nat → V) (S : St), CJ.app ts A σ S → CJ.app ts B σ S
 | [], _, _, h, _, S => h S
 | t :: ts, _, _, h, σ, S => app_le ts (h (σ t)) σ S
theorem lam_le {k k' : (Nat → V) → St → Prop} (h : ∀ σ S, k σ S → k' σ S) : ∀ (ts : List Nat) (τ : Nat → V), CJ.le ts (CJ.lam ts k τ) (CJ.lam ts k' τ)
 | [], τ => fun S => h τ S
 | _ :: ts, _ => fun _ => lam_le h ts _
inductive LO where
 | op (o : RO)
 | grp (t : Nat) (want : Bool) (l : List RO)
 | grj (t : Nat) (want : Bool) (ds : List Nat) (l : List RO)
 deriving Inhabited
def Lo (d : Nat) (m : M) : LO := .op ⟨some d, m, none⟩
def Ro (d : Nat) (m : M) : RO := ⟨some d, m, none⟩
def LO.er : LO → List RO
 | .op o => [{ o with guard := none }]
 | .grp t w l => l.map fun o => { o with guard := some (t, w) }
 | .grj t w _ l => l.map fun o => { o with guard := some (t, w) }
def ersL (l : List LO) : List RO := l.flatMap LO.er
inductive CL where
 | skip
 | reg (l : List LO)
 | draw (l r : List LO)
 | seq (a b : CL)
 | seqj (ts : List Nat) (a b : CL)
 | cond (x : X) (a b : CL)
 | block (id : Nat) (c : CL)
 | loop (ts : List Nat) (c : CL)
 | exit (id : Nat)
 | ret
 | retF (t : Nat)
 deriving Inhabited
def CL.er : CL → C
 | .skip => .skip
 | .reg l => .reg (ersL l)
 | .draw l r => .draw (ersL l).length (ersL l ++ ersL r)
 | .seq a b => .seq a.er b.er
 | .seqj _ a b => .seq a.er b.er
 | .cond x a b => .cond x a.er b.er
 | .block id c => .block id c.er
 | .loop _ c => .loop c.er
 | .exit id => .exit id
 | .ret => .ret
 | .retF _ => .ret
def X.cl (σ : Nat → V) (x : X) : X := .k (x.ev σ)
def optCl (σ : Nat → V) : Option X → Option X
 | some x => some (x.cl σ)
 | none => none
def clAll (σ : Nat → V) : List X → List X
 | [] => []
 | x :: l => x.cl σ :: clAll σ l
def clParts (σ : Nat → V) : List (Nat × Nat × X) → List (Nat × Nat × X)
 | [] => []
 | p :: l => (p.1, p.2.1, p.2.2.cl σ) :: clParts σ l
def evAll (σ : Nat → V) : List X → List V
 | [] => []
 | x :: l => x.ev σ :: evAll σ l
def M.cl (σ : Nat → V) : M → M
 | .mv x => .mv (x.cl σ)
 | .asg x => .asg (x.cl σ)
 | .pick c a b => .pick (c.cl σ) (a.cl σ) (b.cl σ)
 | .new z => .new z
 | .box x => .box (x.cl σ)
 | .boxr x => .boxr (x.cl σ)
 | .boxs sz x => .boxs sz (x.cl σ)
 | .clr sz z x => .clr sz z (x.cl σ)
 | .mk z ps => .mk z (clParts σ ps)
 | .mks e sz l => .mks e sz (clAll σ l)
 | .ld sz ag x => .ld sz ag (x.cl σ)
 | .st sz x y => .st sz (x.cl σ) (y.cl σ)
 | .fa off sz ag x => .fa off sz ag (x.cl σ)
 | .fld off sz ag x => .fld off sz ag (x.cl σ)
 | .ia sz x i => .ia sz (x.cl σ) (i.cl σ)
 | .ix x i => .ix (x.cl σ) (i.cl σ)
 | .bin op x y => .bin op (x.cl σ) (y.cl σ)
 | .eqb n x y => .eqb n (x.cl σ) (y.cl σ)
 | .isnil n x => .isnil n (x.cl σ)
 | .un op x => .un op (x.cl σ)
 | .cvi k x => .cvi k (x.cl σ)
 | .cvs x => .cvs (x.cl σ)
 | .slc sz x lo hi mx => .slc sz (x.cl σ) (optCl σ lo) (optCl σ hi) (optCl σ mx)
 | .sls x lo hi => .sls (x.cl σ) (optCl σ lo) (optCl σ hi)
 | .fun_ f l => .fun_ f (clAll σ l)
 | .ext x i => .ext (x.cl σ) i
 | .len x => .len (x.cl σ)
 | .lns x => .lns (x.cl σ)
 | .nck x => .nck (x.cl σ)
 | .mnx mx x l => .mnx mx (x.cl σ) (clAll σ l)
 | .mki t x => .mki t (x.cl σ)
 | .app t e sz b x y => .app t e sz b (x.cl σ) (y.cl σ)
 | .call f l => .call f (clAll σ l)
 | .callv x l => .callv (x.cl σ) (clAll σ l)
 | .mlk kt ok z x k => .mlk kt ok z (x.cl σ) (k.cl σ)
 | .mln x => .mln (x.cl σ)
 | .tas t ok z x => .tas t ok z (x.cl σ)
 | .inil n x => .inil n (x.cl σ)
 | .mmk => .mmk
 | .mup kt x k v => .mup kt (x.cl σ) (k.cl σ) (v.cl σ)
 | .pan x => .pan (x.cl σ)
def M.isEff : M → Bool
 | .new _ | .box _ | .boxr _ | .boxs _ _ | .clr _ _ _ | .mks _ _ _ | .st _ _ _ | .mmk | .mup _ _ _ _ => true
 | _ => false
def lop1 (P : Program) (Kp : V → (Nat → V) → St → Prop) (o : RO) (K : (Nat → V) → St → Prop) (σ : Nat → V) (S : St) : Prop :=
 match o.m with
 | .call f args => callA P f (evAll σ args) S (fun v S' => K (putD σ o.dst v) S') (fun v S' => Kp v σ S')
 | .callv x args => callvA P (x.ev σ) (evAll σ args) S (fun v S' => K (putD σ o.dst v) S') (fun v S' => Kp v σ S')
 | .pan x => panA (x.ev σ) S (fun v S' => Kp v σ S')
 | .asg x => K (putD (x.down σ) o.dst (x.raw σ)) S
 | .app _ e sz bytes x y => bnd (appV Ops.std e sz bytes (x.raw σ) (y.ev σ)) fun v => K (putD (x.down σ) o.dst v) S
 | m => bif m.isEff then effA S (m.cl σ) (fun v S' => K (putD σ o.dst v) S') else bnd (opV S (m.cl σ)) (fun v => K (putD σ o.dst v) S)
def St.room (S : St) (n : Nat) : St := { S with c := S.c + n }
def St.roomy (S : St) : Nat → St
 | 0 => S
 | n + 1 => S.room (n + 1)
theorem roomy_eq (S : St) (n : Nat) : S.roomy n = S.room n := by cases n <;> rfl
def lopA (P : Program) (S₀ : St) (nm : Nat) (o : RO) (K : (Nat → V) → St → Prop) (σ : Nat → V) (S : St) : Prop :=
 match o.m with
 | .call f args => callP P f (evAll σ args) S₀ (fun v => K (putD σ o.dst v) S)
 | .callv x args => callvP P (x.ev σ) (evAll σ args) S₀ (fun v => K (putD σ o.dst v) S)
 | .asg x => K (putD (x.down σ) o.dst (x.raw σ)) S
 | .app _ e sz bytes x y => bnd (appV Ops.std e sz bytes (x.raw σ) (y.ev σ)) fun v => K (putD (x.down σ) o.dst v) S
 | .mks e sz l => effA S₀ (.mks e sz (clAll σ l)) fun v _ => K (putD σ o.dst v) S
 | .boxr x => effA S₀ (.boxr (x.cl σ)) fun v _ => K (putD σ o.dst v) S
 | .new z => K (putD σ o.dst (.ref S₀.b nm 0)) (S.set S.b nm z)
 | .box _ | .boxs _ _ | .clr _ _ _ | .st _ _ _ | .mmk | .mup _ _ _ _ | .pan _ => False
 | m => bnd (opV S₀ (m.cl σ)) (fun v => K (putD σ o.dst v) S)
def lops (one : RO → ((Nat → V) → St → Prop) → (Nat → V) → St → Prop) : List RO → ((Nat → V) → St → Prop) → (Nat → V) → St → Prop
 | [], K, σ, S => K σ S
 | o :: r, K, σ, S => one o (lops one r K) σ S
def undefs : List RO → (Nat → V) → (Nat → V)
 | [], σ => σ
 | o :: r, σ => undefs r (putD σ o.dst .undef)
def noDsts (t : Nat) : List RO → Bool
 | [] => true
 | o :: r => match o.dst with
  | some d => if d = t then false else noDsts t r
  | none => noDsts t r
def noDowns (ds : List Nat) : List RO → Bool
 | [] => true
 | o :: r => (match o.m.downs with
  | some _ => false
  | none => true) && ((match o.dst with
  | some d => ds.contains d
  | none => true) && noDowns ds r)
def lOs (one : RO → ((Nat → V) → St → Prop) → (Nat → V) → St → Prop) : List LO → ((Nat → V) → St → Prop) → (Nat → V) → St → Prop
 | [], K, σ, S => K σ S
 | .op o :: r, K, σ, S => one o (lOs one r K) σ S
 | .grp t want l :: r, K, σ, S => bif noDsts t l then gdV (σ t) want (lops one l (lOs one r K) σ S) (lOs one r K (undefs l σ) S) else False
 | .grj t want ds l :: r, K, σ, S => bif noDsts t l && noDowns ds l then gjn (fun J : CJ ds => gdV (σ t) want (lops one l (fun σ' S' => CJ.app ds J σ' S') σ S) (CJ.app ds J (undefs l σ) S)) (CJ.lam ds (fun σ' S' => lOs one r K σ' S') σ) else False
def noBoxes : List RO → Bool
 | [] => true
 | o :: r => bif o.m.isBox then false else noBoxes r
def lopsA (P : Program) (S₀ : St) (nm : Nat) : List RO → ((Nat → V) → St → Prop) → (Nat → V) → St → Prop
 | [], K, σ, S => K σ S
 | o :: r, K, σ, S => lopA P S₀ nm o (lopsA P S₀ nm r K) σ S
def lOsA (P : Program) (S₀ : St) : List LO → Nat → ((Nat → V) → St → Prop) → (Nat → V) → St → Prop
 | [], _, K, σ, S => K σ S
 | .op o :: r, nm, K, σ, S => lopA P S₀ nm o (lOsA P S₀ r (bif o.m.isBox then nm + 1 else nm) K) σ S
 | .grp t want l :: r, nm, K, σ, S => bif noDsts t l && noBoxes l then gdV (σ t) want (lopsA P S₀ nm l (lOsA P S₀ r nm K) σ S) (lOsA P S₀ r nm K (undefs l σ) S) else False
 | .grj t want ds l :: r, nm, K, σ, S => bif noDsts t l && (noBoxes l && noDowns ds l) then gjn (fun J : CJ ds => gdV (σ t) want (lopsA P S₀ nm l (fun σ' S' => CJ.app ds J σ' S') σ S) (CJ.app ds J (undefs l σ) S)) (CJ.lam ds (fun σ' S' => lOsA P S₀ r nm K σ' S') σ) else False
def lvc (P : Program) : CL → (AX → (Nat → V) → St → Prop) → (Nat → V) → St → Prop
 | .skip, Q, σ, S => Q .normal σ S
 | .reg l, Q, σ, S => lOs (lop1 P fun v σ S => Q (.pan v) σ S) l (fun σ S => Q .normal σ S) σ S
 | .draw l r, Q, σ, S => lOsA P S l S.c (fun σ S => lOs (lop1 P fun v σ S => Q (.pan v) σ S) r (fun σ S => Q .normal σ S) σ S) σ (S.roomy (boxesB (ersL l)))
 | .seq a b, Q, σ, S => lvc P a (AX.then (lvc P b Q) Q) σ S
 | .seqj ts a b, Q, σ, S => gjn (fun J : CJ ts => lvc P a (AX.then (fun σ' S' => CJ.app ts J σ' S') Q) σ S) (CJ.lam ts (fun σ' S' => lvc P b Q σ' S') fun _ => .any)
 | .cond x a b, Q, σ, S => brV (x.ev σ) (lvc P a Q σ S) (lvc P b Q σ S)
 | .block id c, Q, σ, S => lvc P c (AX.inBlock id Q) σ S
 | .loop ts c, Q, σ, S => loopC ts (fun R => CJ.lam ts (fun σ' S' => lvc P c (AX.then (fun σ'' S'' => CJ.app ts R σ'' S'') Q) σ' S') fun _ => .any) σ S
 | .exit id, Q, σ, S => Q (.exit id) σ S
 | .ret, Q, σ, S => Q .ret σ S
 | .retF t, Q, σ, S => frzA (σ t) S fun f S' => Q .ret (fun u => f (σ u)) S'
def resLs (σ : Nat → V) (S : St) : List RX → (List V → Prop) → Prop
 | [], K => K []
 | .tmp t :: l, K => resLs σ S l fun xs => K ((σ t).plain :: xs)
 | .cell t sz ag :: l, K => bnd (opV S (.ld sz ag (.k (σ t).plain))) fun x => resLs σ S l fun xs => K (x :: xs)
def resL (σ : Nat → V) (S : St) : List RX → (V → Prop) → Prop
 | [.tmp t], K => K (σ t)
 | [.cell t sz ag], K => bnd (opV S (.ld sz ag (.k (σ t).plain))) K
 | l, K => resLs σ S l fun xs => K (.tup xs)
def retL (rs : List RX) (K : AE → St → Prop) : AX → (Nat → V) → St → Prop
 | .normal, σ, S | .ret, σ, S => resL σ S rs fun v => K (.ret v) S
 | .pan v, _, S => K (.pan v) S
 | .exit _, _, _ => False
structure LF where
 N : Nat
 rs : List RX
 c : CL
 deriving Inhabited
def compFm (P : Program) (fn : Func) (ms : List Nat) : Option F :=
 match fn.body, compRXs P fn.results.toList with
 | some b, some rs => match compC P fn.ntmps (pickMark :: (ms ++ rxTmps rs)) b with
  | some c => some ⟨fn.ntmps, rs, c⟩
  | none => none
 | _, _ => none
def LF.er (L : LF) : F := ⟨L.N, L.rs, L.c.er⟩
section
variable {P : Program} {N n₀ : Nat}
theorem cl_ev (σ σ' : Nat → V) (x : X) : (x.cl σ).ev σ' = x.ev σ := rfl
theorem clAll_map (σ σ' : Nat → V) : ∀ l : List X, (clAll σ l).map (·.ev σ') = l.map (·.ev σ)
 | [] => rfl
 | x :: l => by simp only [clAll, List.map_cons, clAll_map σ σ' l]; rfl
theorem evAll_map (σ : Nat → V) : ∀ l : List X, evAll σ l = l.map (·.ev σ)
 | [] => rfl
 | x :: l => by simp only [evAll, List.map_cons, evAll_map σ l]
theorem clParts_map (σ σ' : Nat → V) : ∀ l : List (Nat × Nat × X), (clParts σ l).map (fun p => (p.1, p.2.1, p.2.2.ev σ')) = l.map (fun p => (p.1, p.2.1, p.2.2.ev σ))
 | [] => rfl
 | x :: l => by simp only [clParts, List.map_cons, clParts_map σ σ' l]; rfl
theorem optInt_cl (σ σ' : Nat → V) (d : Int) (o : Option X) : optInt σ' d (optCl σ o) = optInt σ d o := by cases o <;> rfl
theorem mnxV_cl (O : Ops) (mx : Bool) (σ σ' : Nat → V) : ∀ (l : List X) (v : V), mnxV O mx σ' v (clAll σ l) = mnxV O mx σ v l
 | [], _ => rfl
 | x :: l, v => by simp only [clAll, mnxV, cl_ev, mnxV_cl O mx σ σ' l]
theorem val_cl (S : St) (σ σ' : Nat → V) (m : M) : (m.cl σ).val σ' S = m.val σ S := by
 cases m <;> simp only [M.cl, M.val, cl_ev, clAll_map, clParts_map, mnxV_cl]
 case slc sz x lo hi mx =>
  cases mx with
  | none =>
   show (M.slc sz (x.cl σ) (optCl σ lo) (optCl σ hi) none).val σ' S = _
   simp only [M.val, cl_ev, optInt_cl]
  | some m => rfl
 case mki t x => rfl
 case sls x lo hi => simp only [optInt_cl]
def stE (S : St) (sz : Nat) (x y : V) : Option St := match x with
 | .ref i k off => match S.H i k with
  | some c => if c.isBig = false ∧ y.data = true ∧ y.cells.length = sz ∧ off + sz ≤ c.cells.length ∧ (c.isAgg = true ∨ y.isAgg = false) then some (S.set i k (c.withCells (setAll c.cells off y.cells))) else none
  | none => none
 | .eref i k sz' j => match S.H i k with
  | some (.rows sz'' xs) => if sz' = sz ∧ sz'' = sz ∧ y.data = true ∧ y.cells.length = sz then (match S.O.put xs j y with
   | some xs' => some (S.set i k (.rows sz xs'))
   | none => none) else none
  | _ => none
 | _ => none
theorem st_eff (S : St) (sz : Nat) (x y : X) (σ : Nat → V) : (M.st sz x y).eff σ S = (stE S sz (x.ev σ) (y.ev σ)).map fun S' => (.any, σ, S') := by
 simp only [M.eff, stE]
 generalize x.ev σ = vx
 generalize y.ev σ = vy
 cases vx with
 | ref i k off =>
  simp only
  cases S.H i k with
  | none => rfl
  | some c =>
   simp only
   by_cases hc : c.isBig = false ∧ vy.data = true ∧ vy.cells.length = sz ∧ off + sz ≤ c.cells.length ∧ (c.isAgg = true ∨ vy.isAgg = false)
   ·rw [if_pos hc, if_pos hc]; rfl
   ·rw [if_neg hc, if_neg hc]; rfl
 | eref i k sz' j =>
  simp only
  cases S.H i k with
  | none => rfl
  | some c =>
   cases c with
   | rows sz'' xs =>
    simp only
    by_cases hc : sz' = sz ∧ sz'' = sz ∧ vy.data = true ∧ vy.cells.length = sz
    ·rw [if_pos hc, if_pos hc]
     cases S.O.put xs j vy <;> rfl
    ·rw [if_neg hc, if_neg hc]; rfl
   | _ => rfl
 | _ => rfl
theorem eff_cl (S : St) (σ σ' : Nat → V) (m : M) (he : m.isEff = true) : m.eff σ S = match (m.cl σ).eff σ' S with
  | some (v, _, S') => some (v, σ, S')
  | none => none := by
 cases m <;> simp only [M.isEff, Bool.false_eq_true] at he <;> simp only [M.cl, M.eff, cl_ev, clAll_map]
 case st sz x y =>
  change (M.st sz x y).eff σ S = match (M.st sz (x.cl σ) (y.cl σ)).eff σ' S with
   | some (v, _, S') => some (v, σ, S')
   | none => none
  rw [st_eff, st_eff]
  change (stE S sz (x.ev σ) (y.ev σ)).map (fun S' => (V.any, σ, S')) = match (stE S sz (x.ev σ) (y.ev σ)).map (fun S' => (V.any, σ', S')) with
   | some (v, _, S') => some (v, σ, S')
   | none => none
  cases stE S sz (x.ev σ) (y.ev σ) <;> rfl
 case clr sz z x =>
  change (match clrE S sz z (x.ev σ) with
   | some S' => some (V.any, σ, S')
   | none => none) = match (match clrE S sz z (x.ev σ) with
   | some S' => some (V.any, σ', S')
   | none => none) with
   | some (v, _, S') => some (v, σ, S')
   | none => none
  cases clrE S sz z (x.ev σ) <;> rfl
 case boxs sz x =>
  change (if (x.ev σ).data = true ∧ (x.ev σ).cells.length = sz then some (V.ro (x.ev σ), σ, S) else none) = match (if (x.ev σ).data = true ∧ (x.ev σ).cells.length = sz then some (V.ro (x.ev σ), σ', S) else none) with
   | some (v, _, S') => some (v, σ, S')
   | none => none
  by_cases hc : (x.ev σ).data = true ∧ (x.ev σ).cells.length = sz
  ·rw [if_pos hc, if_pos hc]
  ·rw [if_neg hc, if_neg hc]
 all_goals (repeat' split) <;> simp_all
theorem eff_none {σ : Nat → V} {S : St} {m : M} (he : m.isEff = false) (h1 : ∀ x, m ≠ .asg x) (h2 : ∀ t e sz b x y, m ≠ .app t e sz b x y) : m.eff σ S = none := by
 cases m <;> first | rfl | (simp [M.isEff] at he; done) | (exact absurd rfl (h1 _)) | (exact absurd rfl (h2 _ _ _ _ _ _))
theorem bnd_some {o : Option V} {K : V → Prop} (h : bnd o K) : ∃ v, o = some v ∧ K v := by
 unfold bnd at h
 split at h
 ·exact ⟨_, rfl, h⟩
 ·exact h.elim
theorem effA_some {S : St} {m : M} {K : V → St → Prop} (h : effA S m K) : ∃ v σ' S', m.eff (fun _ => .any) S = some (v, σ', S') ∧ K v S' := by
 unfold effA at h
 split at h
 ·rename_i v σ' S' he; exact ⟨v, σ', S', he, h⟩
 ·exact h.elim
def vcM (dst : Option Nat) (K : (Nat → V) → St → Prop) (σ : Nat → V) (S : St) (m : M) : Prop :=
 match m.eff σ S with
 | some (v, σ', S') => K (putD σ' dst v) S'
 | none => match m.val σ S with
  | some v => K (putD σ dst v) S
  | none => False
theorem lop1_vc1 {Kp : V → (Nat → V) → St → Prop} {Q : AX → (Nat → V) → St → Prop} (hKp : ∀ v σ S, Kp v σ S → Q (.pan v) σ S) {o : RO} {K : (Nat → V) → St → Prop} {σ : Nat → V} {S : St} (h : lop1 P Kp o K σ S) : o.vc1 P Q K σ S := by
 unfold lop1 at h
 unfold RO.vc1
 generalize hmm : o.m = m at h
 have rest : ∀ m : M, (∀ x, m ≠ .asg x) → (∀ t e sz b x y, m ≠ .app t e sz b x y) → (bif m.isEff then effA S (m.cl σ) (fun v S' => K (putD σ o.dst v) S') else bnd (opV S (m.cl σ)) (fun v => K (putD σ o.dst v) S)) →
   vcM o.dst K σ S m := by
  intro m h1 h2 h
  unfold vcM
  cases he : m.isEff with
  | true =>
   rw [he] at h
   obtain ⟨v, σ', S', e1, e2⟩ := effA_some h
   rw [eff_cl S σ (fun _ => .any) m he, e1]
   exact e2
  | false =>
   rw [he] at h
   obtain ⟨v, e1, e2⟩ := bnd_some h
   rw [eff_none he h1 h2]
   unfold opV at e1
   rw [val_cl] at e1
   simp only
   rw [e1]
   exact e2
 cases m
 case call f args =>
  simp only at h ⊢
  rw [evAll_map] at h
  exact ACalls.mono h fun e S' he => by
   cases e with
   | ret v => exact he
   | pan v => exact hKp _ _ _ he
 case callv x args =>
  simp only at h ⊢
  unfold callvA at h
  rw [evAll_map] at h
  split at h
  ·rename_i f caps hx
   rw [hx]
   exact ACalls.mono h fun e S' he => by
    cases e with
    | ret v => exact he
    | pan v => exact hKp _ _ _ he
  ·exact h.elim
 case pan x =>
  simp only at h ⊢
  unfold panA at h
  split at h
  ·rename_i t y hx
   rw [hx]
   exact hKp _ _ _ h
  ·exact h.elim
 case asg x => exact h
 case app t e sz b x y =>
  simp only at h ⊢
  obtain ⟨v, e1, e2⟩ := bnd_some h
  simp only [M.eff]
  rw [S.hO, e1]
  exact e2
 all_goals exact rest _ (by intro x h; cases h) (by intro a b c d e f h; cases h) h
theorem lopA_q1 {o : RO} {K : (Nat → V) → St → Prop} {σ : Nat → V} {S : St} {S₀ : St} {nm : Nat} (h : lopA P S₀ nm o K σ S) : o.q1 P S₀ nm K σ S := by
 unfold lopA at h
 unfold RO.q1
 generalize hmm : o.m = m at h
 cases m
 case call f args =>
  obtain ⟨v, h1, h2⟩ := h
  rw [evAll_map] at h1
  exact ⟨v, h1, h2⟩
 case callv x args =>
  simp only at h ⊢
  unfold callvP at h
  rw [evAll_map] at h
  split at h
  ·rename_i f caps hx
   obtain ⟨v, h1, h2⟩ := h
   rw [hx]
   exact ⟨v, h1, h2⟩
  ·exact h.elim
 case asg x => exact h
 case app t e sz b x y =>
  simp only at h ⊢
  obtain ⟨v, e1, e2⟩ := bnd_some h
  rw [S₀.hO, e1]
  exact e2
 case mks e sz l =>
  obtain ⟨v, σ', S', e1, e2⟩ := effA_some h
  simp only [M.eff, clAll_map] at e1
  simp only
  split at e1
  ·rename_i hg
   cases e1
   rw [hg]
   exact e2
  ·cases e1
 case boxr x =>
  obtain ⟨v, σ', S', e1, e2⟩ := effA_some h
  change (if (x.ev σ).data = true then some (V.ro (x.ev σ), (fun _ => V.any), S₀) else none) = some (v, σ', S') at e1
  simp only
  cases hd : (x.ev σ).data with
  | true =>
   rw [hd, if_pos rfl] at e1
   cases e1
   exact e2
  | false => rw [hd] at e1; simp at e1
 case new z => exact h
 case box z => exact h.elim
 case st => exact h.elim
 case boxs => exact h.elim
 case clr => exact h.elim
 case mmk => exact h.elim
 case mup => exact h.elim
 case pan => exact h.elim
 all_goals
  obtain ⟨v, e1, e2⟩ := bnd_some h
  unfold opV at e1
  rw [val_cl] at e1
  simp only
  rw [e1]
  exact e2
theorem putD_at {σ : Nat → V} {d : Option Nat} {v : V} {t : Nat} (h : d ≠ some t) : putD σ d v t = σ t := by
 cases d with
 | none => rfl
 | some d => exact upd_ne σ v fun e => h (by rw [e])
theorem noDsts_cons {t : Nat} {o : RO} {r : List RO} (h : noDsts t (o :: r) = true) : o.dst ≠ some t ∧ noDsts t r = true := by
 simp only [noDsts] at h
 cases hd : o.dst with
 | none => rw [hd] at h; exact ⟨by simp, h⟩
 | some d =>
  rw [hd] at h
  simp only at h
  split at h
  ·cases h
  ·rename_i hne; exact ⟨by simpa using hne, h⟩
def Keeps (o : RO) (σ σ' : Nat → V) : Prop := ∀ t, o.dst ≠ some t → σ' t = σ t ∨ (o.m.downs = some t ∧ σ' t = (σ t).plain)
theorem keeps_put (o : RO) (σ : Nat → V) (v : V) : Keeps o σ (putD σ o.dst v) := fun t hd => .inl (putD_at hd)
theorem keeps_down (o : RO) (σ : Nat → V) (x : X) (v : V) (hx : o.m.downs = x.tmp?) : Keeps o σ (putD (x.down σ) o.dst v) := fun t hd => by
 rw [putD_at hd]
 cases x with
 | k v => exact .inl rfl
 | t n =>
  simp only [X.down]
  by_cases e : t = n
  ·subst e; exact .inr ⟨hx, upd_same _ _ _⟩
  ·exact .inl (upd_ne σ _ e)
theorem Keeps.bool {o : RO} {σ σ' : Nat → V} (h : Keeps o σ σ') {t : Nat} {b : Bool} (hd : o.dst ≠ some t) (hσ : σ t = .bool b) : σ' t = .bool b := by
 rcases h t hd with e | ⟨_, e⟩
 ·rw [e, hσ]
 ·rw [e, hσ]; rfl
theorem bnd_mono {o : Option V} {K K' : V → Prop} (h : bnd o K) (hK : ∀ v, K v → K' v) : bnd o K' := by
 unfold bnd at *
 split at h
 ·exact hK _ h
 ·exact h.elim
theorem effA_mono {S : St} {m : M} {K K' : V → St → Prop} (h : effA S m K) (hK : ∀ v S, K v S → K' v S) : effA S m K' := by
 unfold effA at *
 split at h
 ·exact hK _ _ h
 ·exact h.elim
theorem callA_mono {f : Nat} {args : List V} {S : St} {Kr Kr' Kp Kp' : V → St → Prop} (h : callA P f args S Kr Kp) (hr : ∀ v S, Kr v S → Kr' v S) (hp : ∀ v S, Kp v S → Kp' v S) : callA P f args S Kr' Kp' :=
 ACalls.mono h fun e S' he => by
  cases e with
  | ret v => exact hr _ _ he
  | pan v => exact hp _ _ he
theorem lop1_mono {Kp Kp' : V → (Nat → V) → St → Prop} {o : RO} {K K' : (Nat → V) → St → Prop} {σ : Nat → V} {S : St} (h : lop1 P Kp o K σ S) (hp : ∀ v σ S, Kp v σ S → Kp' v σ S)
  (hK : ∀ σ' S', Keeps o σ σ' → K σ' S' → K' σ' S') : lop1 P Kp' o K' σ S := by
 unfold lop1 at *
 generalize hmm : o.m = m at h
 cases m
 case call f args => exact callA_mono h (fun v S' hk => hK _ _ (keeps_put o σ v) hk) fun v S' hk => hp _ _ _ hk
 case callv x args =>
  simp only at h ⊢
  unfold callvA at *
  split at h
  ·exact callA_mono h (fun v S' hk => hK _ _ (keeps_put o σ v) hk) fun v S' hk => hp _ _ _ hk
  ·exact h
 case pan x =>
  simp only at h ⊢
  unfold panA at *
  split at h
  ·exact hp _ _ _ h
  ·exact h
 case asg x => exact hK _ _ (keeps_down o σ x _ (by rw [hmm]; rfl)) h
 case app t e sz b x y => exact bnd_mono h fun v hk => hK _ _ (keeps_down o σ x v (by rw [hmm]; rfl)) hk
 all_goals
  simp only [M.isEff, cond_true, cond_false] at h ⊢
  first
  | exact bnd_mono h fun v hk => hK _ _ (keeps_put o σ v) hk
  | exact effA_mono h fun v S' hk => hK _ _ (keeps_put o σ v) hk
theorem lopA_mono {o : RO} {K K' : (Nat → V) → St → Prop} {σ : Nat → V} {S : St} {S₀ : St} {nm : Nat} (h : lopA P S₀ nm o K σ S) (hK : ∀ σ' S', Keeps o σ σ' → K σ' S' → K' σ' S') : lopA P S₀ nm o K' σ S := by
 unfold lopA at *
 generalize hmm : o.m = m at h
 cases m
 case call f args => obtain ⟨v, h1, h2⟩ := h; exact ⟨v, h1, hK _ _ (keeps_put o σ v) h2⟩
 case callv x args =>
  simp only at h ⊢
  unfold callvP at *
  split at h
  ·obtain ⟨v, h1, h2⟩ := h; exact ⟨v, h1, hK _ _ (keeps_put o σ v) h2⟩
  ·exact h
 case asg x => exact hK _ _ (keeps_down o σ x _ (by rw [hmm]; rfl)) h
 case app t e sz b x y => exact bnd_mono h fun v hk => hK _ _ (keeps_down o σ x v (by rw [hmm]; rfl)) hk
 case mks => exact effA_mono h fun v S' hk => hK _ _ (keeps_put o σ v) hk
 case boxr => exact effA_mono h fun v S' hk => hK _ _ (keeps_put o σ v) hk
 case new z => exact hK _ _ (keeps_put o σ _) h
 case box => exact h
 case st => exact h
 case boxs => exact h
 case clr => exact h
 case mmk => exact h
 case mup => exact h
 case pan => exact h
 all_goals exact bnd_mono h fun v hk => hK _ _ (keeps_put o σ v) hk
theorem lops_mono {one : RO → ((Nat → V) → St → Prop) → (Nat → V) → St → Prop} (h1 : ∀ o K K' σ S, one o K σ S → (∀ σ' S', Keeps o σ σ' → K σ' S' → K' σ' S') → one o K' σ S) :
  ∀ (l : List RO) (K K' : (Nat → V) → St → Prop) (σ : Nat → V) (S : St), lops one l K σ S → (∀ σ' S', K σ' S' → K' σ' S') → lops one l K' σ S
 | [], _, _, _, _, h, hK => hK _ _ h
 | o :: r, K, K', σ, S, h, hK => h1 _ _ _ _ _ h fun _ _ _ hk => lops_mono h1 r _ _ _ _ hk hK
theorem noDowns_cons {ds : List Nat} {o : RO} {r : List RO} (h : noDowns ds (o :: r) = true) : o.m.downs = none ∧ (∀ d, o.dst = some d → d ∈ ds) ∧ noDowns ds r = true := by
 simp only [noDowns, Bool.and_eq_true] at h
 obtain ⟨h1, h2, h3⟩ := h
 refine ⟨?_, fun d hd => ?_, h3⟩
 ·cases hm : o.m.downs with
  | none => rfl
  | some t => rw [hm] at h1; cases h1
 ·rw [hd] at h2; simpa using h2
theorem undefs_out {ds : List Nat} : ∀ {l : List RO} {σ : Nat → V}, noDowns ds l = true → ∀ t, t ∉ ds → undefs l σ t = σ t
 | [], _, _, _, _ => rfl
 | o :: l, σ, h, t, ht => by
  obtain ⟨_, h2, h3⟩ := noDowns_cons h
  simp only [undefs]
  rw [undefs_out h3 t ht]
  exact putD_at fun e => ht (h2 t e)
theorem lops_out {one : RO → ((Nat → V) → St → Prop) → (Nat → V) → St → Prop} (h1 : ∀ o K K' σ S, one o K σ S → (∀ σ' S', Keeps o σ σ' → K σ' S' → K' σ' S') → one o K' σ S) {ds : List Nat} {σ₀ : Nat → V} :
  ∀ (l : List RO) (K K' : (Nat → V) → St → Prop) (σ : Nat → V) (S : St), noDowns ds l = true → (∀ t, t ∉ ds → σ t = σ₀ t) → lops one l K σ S → (∀ σ' S', (∀ t, t ∉ ds → σ' t = σ₀ t) → K σ' S' → K' σ' S') → lops one l K' σ S
 | [], _, _, _, _, _, hσ, h, hK => hK _ _ hσ h
 | o :: r, K, K', σ, S, hd, hσ, h, hK => h1 _ _ _ _ _ h fun σ' S' hk h' => by
  obtain ⟨d1, d2, d3⟩ := noDowns_cons hd
  refine lops_out h1 r K K' σ' S' d3 (fun t ht => ?_) h' hK
  rcases hk t (fun e => ht (d2 t e)) with e | ⟨e, _⟩
  ·rw [e]; exact hσ t ht
  ·rw [d1] at e; cases e
theorem grj_grp {one : RO → ((Nat → V) → St → Prop) → (Nat → V) → St → Prop} (h1 : ∀ o K K' σ S, one o K σ S → (∀ σ' S', Keeps o σ σ' → K σ' S' → K' σ' S') → one o K' σ S) {t : Nat} {want : Bool} {ds : List Nat} {l : List RO}
  {K : (Nat → V) → St → Prop} {σ : Nat → V} {S : St} (hd : noDowns ds l = true)
  (h : gjn (fun J : CJ ds => gdV (σ t) want (lops one l (fun σ' S' => CJ.app ds J σ' S') σ S) (CJ.app ds J (undefs l σ) S)) (CJ.lam ds (fun σ' S' => K σ' S') σ)) : gdV (σ t) want (lops one l K σ S) (K (undefs l σ) S) := by
 replace h := h.out
 have e2 : CJ.app ds (CJ.lam ds (fun σ' S' => K σ' S') σ) (undefs l σ) S = K (undefs l σ) S := app_lam_eq ds σ fun t ht => undefs_out hd t ht
 have e1 : lops one l (fun σ' S' => CJ.app ds (CJ.lam ds (fun σ' S' => K σ' S') σ) σ' S') σ S → lops one l K σ S := fun h =>
  lops_out h1 (σ₀ := σ) l _ _ σ S hd (fun _ _ => rfl) h fun σ' S' ho hk => by rw [app_lam_eq ds σ ho] at hk; exact hk
 rw [e2] at h
 unfold gdV at *
 split
 ·rename_i b hb
  rw [hb] at h
  simp only at h
  cases hbw : b == want with
  | true => rw [hbw] at h; exact e1 h
  | false => rw [hbw] at h; exact h
 ·rename_i c hc
  rw [hc] at h
  exact h
 ·rename_i n1 n2
  split at h
  ·rename_i b hb; exact absurd hb (n1 b)
  ·rename_i c hc; exact absurd hc (n2 c)
  ·exact h
theorem lOs_grj {one : RO → ((Nat → V) → St → Prop) → (Nat → V) → St → Prop} (h1 : ∀ o K K' σ S, one o K σ S → (∀ σ' S', Keeps o σ σ' → K σ' S' → K' σ' S') → one o K' σ S) {t : Nat} {want : Bool} {ds : List Nat} {l : List RO} {r : List LO}
  {K : (Nat → V) → St → Prop} {σ : Nat → V} {S : St} (h : lOs one (.grj t want ds l :: r) K σ S) : lOs one (.grp t want l :: r) K σ S := by
 simp only [lOs] at h ⊢
 cases hd : (noDsts t l && noDowns ds l) with
 | false => rw [hd] at h; exact h.elim
 | true =>
  rw [hd] at h
  simp only [cond_true] at h
  obtain ⟨d1, d2⟩ := (Bool.and_eq_true _ _).mp hd
  rw [d1]
  simp only [cond_true]
  exact grj_grp h1 d2 h
theorem lops_grp {Q : AX → (Nat → V) → St → Prop} {t : Nat} {want : Bool} (r : List RO) : ∀ (l : List RO) (σ : Nat → V) (S : St), noDsts t l = true → σ t = .bool want →
  lops (lop1 P fun v σ S => Q (.pan v) σ S) l (vcOps P Q r) σ S → vcOps P Q ((l.map fun o => { o with guard := some (t, want) }) ++ r) σ S
 | [], σ, S, _, _, h => h
 | o :: l, σ, S, hd, hσ, h => by
  obtain ⟨h1, h2⟩ := noDsts_cons hd
  simp only [List.map_cons, List.cons_append, vcOps, RO.vc, hσ, beq_self_eq_true, cond_true]
  have h' := lop1_mono (Kp' := fun v σ S => Q (.pan v) σ S) h (fun _ _ _ h => h) fun σ' S' hk h' => show vcOps P Q ((l.map fun o => { o with guard := some (t, want) }) ++ r) σ' S' from lops_grp r l σ' S' h2 (hk.bool h1 hσ) h'
  have := lop1_vc1 (Q := Q) (fun _ _ _ h => h) h'
  unfold RO.vc1 at this ⊢
  exact this
theorem skip_grp {Q : AX → (Nat → V) → St → Prop} {t : Nat} {want : Bool} (r : List RO) : ∀ (l : List RO) (σ : Nat → V) (S : St), noDsts t l = true → ((∃ b, σ t = .bool b ∧ (b == want) = false) ∨ ∃ c, σ t = .tup c) →
  vcOps P Q r (undefs l σ) S → vcOps P Q ((l.map fun o => { o with guard := some (t, want) }) ++ r) σ S
 | [], σ, S, _, _, h => h
 | o :: l, σ, S, hd, hσ, h => by
  obtain ⟨h1, h2⟩ := noDsts_cons hd
  simp only [List.map_cons, List.cons_append, vcOps, RO.vc]
  have ih := skip_grp r l (putD σ o.dst .undef) S h2 (by rw [putD_at h1]; exact hσ) h
  rcases hσ with ⟨b, hb, hw⟩ | ⟨c, hc⟩
  ·rw [hb]; simp only [hw, cond_false]; exact ih
  ·rw [hc]; exact ih
theorem grp_vcOps {Q : AX → (Nat → V) → St → Prop} {t : Nat} {want : Bool} {l : List RO} {r : List LO} (ih : ∀ σ S, lOs (lop1 P fun v σ S => Q (.pan v) σ S) r (fun σ S => Q .normal σ S) σ S → vcOps P Q (ersL r) σ S) {σ : Nat → V} {S : St}
  (h : lOs (lop1 P fun v σ S => Q (.pan v) σ S) (.grp t want l :: r) (fun σ S => Q .normal σ S) σ S) : vcOps P Q ((l.map fun o => { o with guard := some (t, want) }) ++ ersL r) σ S := by
 simp only [lOs] at h
 cases hd : noDsts t l with
 | false => rw [hd] at h; exact h.elim
 | true =>
  rw [hd] at h
  simp only [cond_true] at h
  unfold gdV at h
  split at h
  ·rename_i b hb
   cases hbw : b == want with
   | true =>
    rw [hbw] at h
    have : b = want := by simpa using hbw
    subst this
    simp only [cond_true] at h
    exact lops_grp _ l σ S hd hb (lops_mono (one := lop1 P fun v σ S => Q (.pan v) σ S) (fun o K K' σ S h hK => lop1_mono h (fun _ _ _ h => h) hK) l _ _ _ _ h fun σ' S' hk => ih σ' S' hk)
   | false => rw [hbw] at h; exact skip_grp _ l σ S hd (.inl ⟨b, hb, hbw⟩) (ih _ _ h)
  ·rename_i c hc; exact skip_grp _ l σ S hd (.inr ⟨c, hc⟩) (ih _ _ h)
  ·exact h.elim
theorem lOs_vcOps {Q : AX → (Nat → V) → St → Prop} : ∀ (l : List LO) (σ : Nat → V) (S : St), lOs (lop1 P fun v σ S => Q (.pan v) σ S) l (fun σ S => Q .normal σ S) σ S → vcOps P Q (ersL l) σ S
 | [], σ, S, h => h
 | .op o :: r, σ, S, h => by
  show vcOps P Q ({ o with guard := none } :: ersL r) σ S
  simp only [vcOps, RO.vc]
  have h' := lop1_mono (Kp' := fun v σ S => Q (.pan v) σ S) h (fun _ _ _ h => h) fun σ' S' _ h' => lOs_vcOps r σ' S' h'
  have := lop1_vc1 (Q := Q) (fun _ _ _ h => h) h'
  unfold RO.vc1 at this ⊢
  exact this
 | .grp t want l :: r, σ, S, h => grp_vcOps (fun σ S h => lOs_vcOps r σ S h) h
 | .grj t want ds l :: r, σ, S, h => grp_vcOps (fun σ S h => lOs_vcOps r σ S h) (lOs_grj (one := lop1 P fun v σ S => Q (.pan v) σ S) (fun o K K' σ S h hK => lop1_mono h (fun _ _ _ h => h) hK) h)
theorem noBoxes_cons {o : RO} {r : List RO} (h : noBoxes (o :: r) = true) : o.m.isBox = false ∧ noBoxes r = true := by
 simp only [noBoxes] at h
 cases hb : o.m.isBox with
 | true => rw [hb] at h; cases h
 | false => rw [hb] at h; exact ⟨rfl, h⟩
theorem lops_grpA {K : (Nat → V) → St → Prop} {t : Nat} {want : Bool} {S₀ : St} {nm : Nat} (r : List RO) : ∀ (l : List RO) (σ : Nat → V) (S : St), noDsts t l = true → noBoxes l = true → σ t = .bool want →
  lopsA P S₀ nm l (vcA P S₀ r nm K) σ S → vcA P S₀ ((l.map fun o => { o with guard := some (t, want) }) ++ r) nm K σ S
 | [], σ, S, _, _, _, h => h
 | o :: l, σ, S, hd, hb, hσ, h => by
  obtain ⟨h1, h2⟩ := noDsts_cons hd
  obtain ⟨b1, b2⟩ := noBoxes_cons hb
  simp only [List.map_cons, List.cons_append, vcA, RO.q, hσ, beq_self_eq_true, cond_true, b1, cond_false]
  have h' := lopA_mono h fun σ' S' hk h' => show vcA P S₀ ((l.map fun o => { o with guard := some (t, want) }) ++ r) nm K σ' S' from lops_grpA r l σ' S' h2 b2 (hk.bool h1 hσ) h'
  have := lopA_q1 (nm := nm) h'
  unfold RO.q1 at this ⊢
  exact this
theorem skip_grpA {K : (Nat → V) → St → Prop} {t : Nat} {want : Bool} {S₀ : St} {nm : Nat} (r : List RO) : ∀ (l : List RO) (σ : Nat → V) (S : St), noDsts t l = true → noBoxes l = true → ((∃ b, σ t = .bool b ∧ (b == want) = false) ∨ ∃ c, σ t = .tup c) →
  vcA P S₀ r nm K (undefs l σ) S → vcA P S₀ ((l.map fun o => { o with guard := some (t, want) }) ++ r) nm K σ S
 | [], σ, S, _, _, _, h => h
 | o :: l, σ, S, hd, hb, hσ, h => by
  obtain ⟨h1, h2⟩ := noDsts_cons hd
  obtain ⟨b1, b2⟩ := noBoxes_cons hb
  simp only [List.map_cons, List.cons_append, vcA, RO.q, b1, cond_false]
  have ih := skip_grpA r l (putD σ o.dst .undef) S h2 b2 (by rw [putD_at h1]; exact hσ) h
  rcases hσ with ⟨b, hb, hw⟩ | ⟨c, hc⟩
  ·rw [hb]; simp only [hw, cond_false]; exact ih
  ·rw [hc]; exact ih
theorem lopsA_mono {K K' : (Nat → V) → St → Prop} {S₀ : St} {nm : Nat} (hK : ∀ σ' S', K σ' S' → K' σ' S') : ∀ (l : List RO) (σ : Nat → V) (S : St), lopsA P S₀ nm l K σ S → lopsA P S₀ nm l K' σ S
 | [], _, _, h => hK _ _ h
 | _ :: l, _, _, h => lopA_mono h fun σ' S' _ h' => lopsA_mono hK l σ' S' h'
theorem lopsA_out {S₀ : St} {nm : Nat} {ds : List Nat} {σ₀ : Nat → V} : ∀ (l : List RO) (K K' : (Nat → V) → St → Prop) (σ : Nat → V) (S : St), noDowns ds l = true → (∀ t, t ∉ ds → σ t = σ₀ t) → lopsA P S₀ nm l K σ S →
  (∀ σ' S', (∀ t, t ∉ ds → σ' t = σ₀ t) → K σ' S' → K' σ' S') → lopsA P S₀ nm l K' σ S
 | [], _, _, _, _, _, hσ, h, hK => hK _ _ hσ h
 | o :: r, K, K', σ, S, hd, hσ, h, hK => lopA_mono h fun σ' S' hk h' => by
  obtain ⟨d1, d2, d3⟩ := noDowns_cons hd
  refine lopsA_out r K K' σ' S' d3 (fun t ht => ?_) h' hK
  rcases hk t (fun e => ht (d2 t e)) with e | ⟨e, _⟩
  ·rw [e]; exact hσ t ht
  ·rw [d1] at e; cases e
theorem grp_vcA {K : (Nat → V) → St → Prop} {S₀ : St} {t : Nat} {want : Bool} {l : List RO} {r : List LO} {nm : Nat} (ih : ∀ σ S, lOsA P S₀ r nm K σ S → vcA P S₀ (ersL r) nm K σ S) (hd : (noDsts t l && noBoxes l) = true) {σ : Nat → V} {S : St}
  (h : gdV (σ t) want (lopsA P S₀ nm l (lOsA P S₀ r nm K) σ S) (lOsA P S₀ r nm K (undefs l σ) S)) : vcA P S₀ ((l.map fun o => { o with guard := some (t, want) }) ++ ersL r) nm K σ S := by
 obtain ⟨hd1, hd2⟩ := (Bool.and_eq_true _ _).mp hd
 unfold gdV at h
 split at h
 ·rename_i b hb0
  cases hbw : b == want with
  | true =>
   rw [hbw] at h
   have : b = want := by simpa using hbw
   subst this
   simp only [cond_true] at h
   exact lops_grpA _ l σ S hd1 hd2 hb0 (lopsA_mono (fun σ' S' h' => ih σ' S' h') l σ S h)
  | false => rw [hbw] at h; exact skip_grpA _ l σ S hd1 hd2 (.inl ⟨b, hb0, hbw⟩) (ih _ S h)
 ·rename_i c hc; exact skip_grpA _ l σ S hd1 hd2 (.inr ⟨c, hc⟩) (ih _ S h)
 ·exact h.elim
theorem lOsA_vcA {K : (Nat → V) → St → Prop} {S₀ : St} : ∀ (l : List LO) (nm : Nat) (σ : Nat → V) (S : St), lOsA P S₀ l nm K σ S → vcA P S₀ (ersL l) nm K σ S
 | [], nm, σ, S, h => h
 | .op o :: r, nm, σ, S, h => by
  show vcA P S₀ ({ o with guard := none } :: ersL r) nm K σ S
  simp only [vcA, RO.q]
  have h' := lopA_mono h fun σ' S' _ h' => lOsA_vcA r _ σ' S' h'
  have := lopA_q1 (nm := nm) h'
  unfold RO.q1 at this ⊢
  exact this
 | .grp t want l :: r, nm, σ, S, h => by
  simp only [lOsA] at h
  cases hd : (noDsts t l && noBoxes l) with
  | false => rw [hd] at h; exact h.elim
  | true => rw [hd] at h; exact grp_vcA (fun σ S h => lOsA_vcA r nm σ S h) hd h
 | .grj t want ds l :: r, nm, σ, S, h => by
  simp only [lOsA] at h
  cases hd : (noDsts t l && (noBoxes l && noDowns ds l)) with
  | false => rw [hd] at h; exact h.elim
  | true =>
   rw [hd] at h
   simp only [cond_true] at h
   simp only [Bool.and_eq_true] at hd
   refine grp_vcA (t := t) (want := want) (l := l) (fun σ S h => lOsA_vcA r nm σ S h) (by simp only [hd.1, hd.2.1, Bool.and_self]) ?_
   replace h := h.out
   have e2 : CJ.app ds (CJ.lam ds (fun σ' S' => lOsA P S₀ r nm K σ' S') σ) (undefs l σ) S = lOsA P S₀ r nm K (undefs l σ) S := app_lam_eq ds σ fun t ht => undefs_out hd.2.2 t ht
   have e1 : lopsA P S₀ nm l (fun σ' S' => CJ.app ds (CJ.lam ds (fun σ' S' => lOsA P S₀ r nm K σ' S') σ) σ' S') σ S → lopsA P S₀ nm l (lOsA P S₀ r nm K) σ S := fun h =>
    lopsA_out (σ₀ := σ) l _ _ σ S hd.2.2 (fun _ _ => rfl) h fun σ' S' ho hk => by rw [app_lam_eq ds σ ho] at hk; exact hk
   rw [e2] at h
   unfold gdV at *
   split
   ·rename_i b hb
    rw [hb] at h
    simp only at h
    cases hbw : b == want with
    | true => rw [hbw] at h; exact e1 h
    | false => rw [hbw] at h; exact h
   ·rename_i c hc
    rw [hc] at h
    exact h
   ·rename_i n1 n2
    split at h
    ·rename_i b hb; exact absurd hb (n1 b)
    ·rename_i c hc; exact absurd hc (n2 c)
    ·exact h
theorem lOsA_mono {S₀ : St} {K K' : (Nat → V) → St → Prop} (hK : ∀ σ' S', K σ' S' → K' σ' S') : ∀ (l : List LO) (nm : Nat) (σ : Nat → V) (S : St), lOsA P S₀ l nm K σ S → lOsA P S₀ l nm K' σ S
 | [], _, _, _, h => hK _ _ h
 | .op o :: r, nm, σ, S, h => lopA_mono h fun σ' S' _ h' => lOsA_mono hK r _ σ' S' h'
 | .grp t want l :: r, nm, σ, S, h => by
  simp only [lOsA] at h ⊢
  cases hd : (noDsts t l && noBoxes l) with
  | false => rw [hd] at h; exact h.elim
  | true =>
   rw [hd] at h
   simp only [cond_true] at h ⊢
   unfold gdV at *
   split at h
   ·rename_i b hb
    cases hbw : b == want with
    | true => rw [hbw] at h; exact lopsA_mono (fun σ' S' h' => lOsA_mono hK r nm σ' S' h') l σ S h
    | false => rw [hbw] at h; exact lOsA_mono hK r nm _ S h
   ·exact lOsA_mono hK r nm _ S h
   ·exact h
 | .grj t want ds l :: r, nm, σ, S, h => by
  simp only [lOsA] at h ⊢
  cases hd : (noDsts t l && (noBoxes l && noDowns ds l)) with
  | false => rw [hd] at h; exact h.elim
  | true =>
   rw [hd] at h
   simp only [cond_true] at h ⊢
   have hle : ∀ σ' S', CJ.app ds (CJ.lam ds (fun σ' S' => lOsA P S₀ r nm K σ' S') σ) σ' S' → CJ.app ds (CJ.lam ds (fun σ' S' => lOsA P S₀ r nm K' σ' S') σ) σ' S' := fun σ' S' hk =>
    app_le ds (lam_le (fun σ S hk => lOsA_mono hK r nm σ S hk) ds σ) σ' S' hk
   refine ⟨?_⟩
   replace h := h.out
   unfold gdV at *
   split at h
   ·rename_i b hb
    cases hbw : b == want with
    | true => rw [hbw] at h; exact lopsA_mono hle l σ S h
    | false => rw [hbw] at h; exact hle _ _ h
   ·exact hle _ _ h
   ·exact h
theorem APost_then {g₀ : Gh} {w₀ : World} {Q : AX → (Nat → V) → St → Prop} {K : (Nat → V) → St → Prop} {K' : Act → World → Prop} {e : Exit} {a : Act} {w : World}
  (h : APost g₀ w₀ N (AX.then K Q) e a w) (hK : ∀ g σ S, Sim g₀ w₀ N g σ S a w → K σ S → K' a w) : Exit.then K' (APost g₀ w₀ N Q) e a w := by
 cases e with
 | normal => obtain ⟨g, σ, S, h1, h2⟩ := h; exact hK g σ S h1 h2
 | exit id => exact h
 | ret => exact h
 | panic chain => exact h
 | goto l => exact h
 | outgrown => exact h
theorem AW.imp {c : C} {Q Q' : AX → (Nat → V) → St → Prop} {σ : Nat → V} {S : St} (h : AW P N n₀ c Q σ S) (hq : ∀ e σ S, Q e σ S → Q' e σ S) : AW P N n₀ c Q' σ S :=
 ⟨fun hm rs code hc g₀ w₀ g a w ht₀ hs => Go.wp_mono (h.run hm rs code hc g₀ w₀ g a w ht₀ hs) fun _ _ _ hp => APost.mono hq hp⟩
theorem AW_seq {c d : C} {Q : AX → (Nat → V) → St → Prop} {σ : Nat → V} {S : St} (h : AW P N n₀ c (AX.then (AW P N n₀ d Q) Q) σ S) : AW P N n₀ (.seq c d) Q σ S := by
 refine ⟨?_⟩
 intro hm rs code hc g₀ w₀ g a w ht₀ hs
 cases code <;> (try simp only [compC, Option.some.injEq, reduceCtorEq, Option.map_eq_some_iff, and_false, exists_const] at hc)
 ·rename_i id ops d'; cases d' <;> (try simp only [compC] at hc) <;> (repeat' split at hc) <;> cases hc
 ·rename_i x y
  split at hc <;> cases hc
  rename_i h1 h2
  refine wp_seq (Go.wp_mono (h.run hm rs x h1 g₀ w₀ g a w ht₀ hs) ?_)
  intro e a' w' hp
  cases e with
  | normal => obtain ⟨g', σ', S', k1, k2⟩ := hp; exact k2.run hm rs y h2 g₀ w₀ g' a' w' ht₀ k1
  | exit id => exact hp
  | ret => exact hp
  | panic chain => exact hp
  | goto l => exact hp
  | outgrown => exact hp
 all_goals (repeat' split at hc) <;> cases hc
theorem AW_cond {x : X} {c d : C} {Q : AX → (Nat → V) → St → Prop} {σ : Nat → V} {S : St} (h : brV (x.ev σ) (AW P N n₀ c Q σ S) (AW P N n₀ d Q σ S)) : AW P N n₀ (.cond x c d) Q σ S := by
 refine ⟨?_⟩
 intro hm rs code hc g₀ w₀ g a w ht₀ hs
 cases code <;> (try simp only [compC, Option.some.injEq, reduceCtorEq, Option.map_eq_some_iff, and_false, exists_const] at hc)
 ·rename_i id ops d'; cases d' <;> (try simp only [compC] at hc) <;> (repeat' split at hc) <;> cases hc
 ·split at hc <;> cases hc
 ·rename_i x' y z
  split at hc <;> cases hc
  rename_i h0 h1 h2
  have hr := (compX_rep h0 hs.rep).1
  unfold brV at h
  split at h
  ·rename_i t ht
   rw [ht] at hr
   generalize hev : a.eval x' = v at hr
   cases hr
   refine wp_cond_split hev (fun e => ?_) (fun e => ?_)
   ·rw [e] at h; exact AW.run h hm rs y h1 g₀ w₀ g a w ht₀ hs
   ·rw [e] at h; exact AW.run h hm rs z h2 g₀ w₀ g a w ht₀ hs
  ·exact h.elim
 all_goals (repeat' split at hc) <;> cases hc
theorem AW_block {id : Nat} {c : C} {Q : AX → (Nat → V) → St → Prop} {σ : Nat → V} {S : St} (h : AW P N n₀ c (AX.inBlock id Q) σ S) : AW P N n₀ (.block id c) Q σ S := by
 refine ⟨?_⟩
 intro hm rs code hc g₀ w₀ g a w ht₀ hs
 cases code <;> (try simp only [compC, Option.some.injEq, reduceCtorEq, Option.map_eq_some_iff, and_false, exists_const, C.block.injEq] at hc)
 ·rename_i id ops d'; cases d' <;> (try simp only [compC] at hc) <;> (repeat' split at hc) <;> cases hc
 ·split at hc <;> cases hc
 ·split at hc <;> cases hc
 ·rename_i id' c'
  obtain ⟨c₀, h1, rfl, rfl⟩ := hc
  refine wp_block (Go.wp_mono (h.run hm rs c' h1 g₀ w₀ g a w ht₀ hs) ?_)
  intro e a' w' hp
  cases e with
  | exit i =>
   obtain ⟨g', σ', S', k1, k2⟩ := hp
   simp only [AX.inBlock] at k2
   simp only [Exit.inBlock]
   split
   ·rename_i e; rw [if_pos e] at k2; exact ⟨g', σ', S', k1, k2⟩
   ·rename_i e; rw [if_neg e] at k2; exact ⟨g', σ', S', k1, k2⟩
  | normal => exact hp
  | ret => exact hp
  | panic chain => exact hp
  | goto l => exact hp
  | outgrown => exact hp
theorem lvc_sound : ∀ (c : CL) (Q : AX → (Nat → V) → St → Prop) (σ : Nat → V) (S : St), lvc P c Q σ S → AW P N n₀ c.er Q σ S
 | .skip, Q, σ, S, h => vc_sound .skip Q σ S h
 | .reg l, Q, σ, S, h => vc_sound (.reg (ersL l)) Q σ S (lOs_vcOps l σ S h)
 | .draw l r, Q, σ, S, h => by
  refine vc_sound (.draw _ _) Q σ S ?_
  simp only [lvc, roomy_eq] at h
  simp only [vc, vcDraw]
  rw [List.take_left, List.drop_left]
  exact lOsA_vcA l S.c σ _ (lOsA_mono (fun σ' S' h' => lOs_vcOps r σ' S' h') l S.c σ _ h)
 | .seq a b, Q, σ, S, h => AW_seq ((lvc_sound a _ σ S h).imp fun e σ' S' h' => by
   cases e with
   | normal => exact lvc_sound b Q σ' S' h'
   | _ => exact h')
 | .seqj ts a b, Q, σ, S, h => AW_seq ((lvc_sound a _ σ S h.out).imp fun e σ' S' h' => by
   cases e with
   | normal =>
    obtain ⟨σ'', h1, h2⟩ := app_lam_any (k := fun σ' S' => lvc P b Q σ' S') (σ := σ') (S := S') ts (fun _ => .any)
    exact AW.less (lvc_sound b Q σ'' S' (by have h3 : CJ.app ts (CJ.lam ts (fun σ' S' => lvc P b Q σ' S') fun _ => .any) σ' S' := h'; rw [h2] at h3; exact h3)) fun t => (h1 t).elim .inl fun e => .inr (.inl e)
   | _ => exact h')
 | .cond x a b, Q, σ, S, h => by
  refine AW_cond ?_
  simp only [lvc, brV] at h ⊢
  split at h
  ·rename_i t ht
   cases t with
   | true => exact lvc_sound a Q σ S h
   | false => exact lvc_sound b Q σ S h
  ·exact h.elim
 | .block id c, Q, σ, S, h => AW_block (lvc_sound c _ σ S h)
 | .loop ts c, Q, σ, S, h => by
  show AW P N n₀ (.loop c.er) Q σ S
  refine ⟨?_⟩
  intro hm rs code hc g₀ w₀ g a w ht₀ hs
  cases code <;> (try simp only [compC, Option.some.injEq, reduceCtorEq, Option.map_eq_some_iff, and_false, exists_const, C.loop.injEq] at hc)
  ·rename_i id ops d; cases d <;> (try simp only [compC] at hc) <;> (repeat' split at hc) <;> cases hc
  ·split at hc <;> cases hc
  ·split at hc <;> cases hc
  ·rename_i c'
   obtain ⟨c₀, h1, rfl⟩ := hc
   refine LoopIn.wp ?_
   let k : (Nat → V) → St → Prop := fun σ' S => ∀ g σ a w, (∀ t, σ' t = σ t ∨ σ' t = .any) → Sim g₀ w₀ N g σ S a w → LoopIn P c' (APost g₀ w₀ N Q) a w
   have hk : ∀ σ' S' g a' w', CJ.app ts (CJ.lam ts k fun _ => .any) σ' S' → Sim g₀ w₀ N g σ' S' a' w' → LoopIn P c' (APost g₀ w₀ N Q) a' w' := fun σ' S' g a' w' hh hs' => by
    obtain ⟨σ'', h1, h2⟩ := app_lam_any (k := k) (σ := σ') (S := S') ts (fun _ => .any)
    rw [h2] at hh
    exact hh g σ' a' w' h1 hs'
   refine hk σ S g a w (h (CJ.lam ts k fun _ => .any) (lam_le (fun σ' S' hstep => ?_) ts _)) hs
   intro g σ a w hw hs
   refine LoopIn.step ?_
   have hs' := hs.weaken (σ' := σ') fun t => (hw t).elim .inl fun h => .inr (.inl h)
   exact Go.wp_mono ((lvc_sound c _ _ S' hstep).run hm rs c' h1 g₀ w₀ g a w ht₀ hs') fun e a' w' hp => APost_then hp fun g' σ'' S'' k1 k2 => hk σ'' S'' g' a' w' k2 k1
 | .exit id, Q, σ, S, h => vc_sound (.exit id) Q σ S h
 | .ret, Q, σ, S, h => vc_sound .ret Q σ S h
 | .retF t, Q, σ, S, h => by
  refine ⟨?_⟩
  intro hm rs code hc g₀ w₀ g a w ht₀ hs
  have key : ∃ (f : V → V) (S' : St) (g' : Gh), Sim g₀ w₀ N g' (fun u => f (σ u)) S' a w ∧ Q .ret (fun u => f (σ u)) S' := by
   simp only [lvc] at h
   cases hx : σ t with
   | bs i k sz off ln =>
    rw [hx] at h
    obtain ⟨xs, h1, h2, h3, h4, h5⟩ := h
    obtain ⟨b, cs, hs'⟩ := hs.frz h1 h2 h3 h4
    exact ⟨_, _, _, hs', h5⟩
   | _ => rw [hx] at h; exact ⟨id, S, g, hs, h⟩
  obtain ⟨f, S', g', k1, k2⟩ := key
  exact (vc_sound .ret Q (fun u => f (σ u)) S' k2 : AW P N n₀ C.ret Q _ S').run hm rs code hc g₀ w₀ g' a w ht₀ k1
def Thr (P : Program) (f : Nat) (args : List V) (r : AE) : Prop := ∀ S, ACalls P f args S fun e S' => e = r ∧ S' = S
theorem resLs_some {σ : Nat → V} {S : St} : ∀ {rs : List RX} {K : List V → Prop}, resLs σ S rs K → ∃ xs, resVs σ S rs = some xs ∧ K xs
 | [], K, h => ⟨[], rfl, h⟩
 | .tmp t :: l, K, h => by
  obtain ⟨xs, h1, h2⟩ := resLs_some (K := fun xs => K ((σ t).plain :: xs)) h
  exact ⟨_, by simp only [resVs, RX.v, h1], h2⟩
 | .cell t sz ag :: l, K, h => by
  obtain ⟨x, h1, h2⟩ := bnd_some h
  obtain ⟨xs, h3, h4⟩ := resLs_some (K := fun xs => K (x :: xs)) h2
  have e : (RX.cell t sz ag).v σ S = some x := h1
  exact ⟨_, by simp only [resVs, e, h3], h4⟩
theorem resL_some {σ : Nat → V} {S : St} {rs : List RX} {K : V → Prop} (h : resL σ S rs K) : ∃ v, resV σ S rs = some v ∧ K v := by
 unfold resL at h
 split at h
 ·exact ⟨_, rfl, h⟩
 ·obtain ⟨x, h1, h2⟩ := bnd_some h; exact ⟨x, h1, h2⟩
 ·rename_i n1 n2
  obtain ⟨xs, h1, h2⟩ := resLs_some h
  refine ⟨_, ?_, h2⟩
  unfold resV
  split
  ·exact absurd rfl (n1 _)
  ·exact absurd rfl (n2 _ _ _)
  ·rw [h1]
theorem retL_retPost {rs : List RX} {S₀ : St} {K : AE → St → Prop} {Q : AE → St → Prop} (hK : ∀ r S, K r S → ∃ S', (match r with
   | .ret v => v.refsB S'.ok
   | .pan v => v.refsB S'.ok) ∧ Over S₀ S S' ∧ Q r S') {e : AX} {σ : Nat → V} {S : St} (h : retL rs K e σ S) : retPost rs S₀ Q e σ S := by
 cases e with
 | normal => obtain ⟨v, h1, h2⟩ := resL_some h; obtain ⟨S', a, b, c⟩ := hK _ _ h2; exact ⟨v, S', h1, a, b, c⟩
 | ret => obtain ⟨v, h1, h2⟩ := resL_some h; obtain ⟨S', a, b, c⟩ := hK _ _ h2; exact ⟨v, S', h1, a, b, c⟩
 | exit id => exact h
 | pan v => obtain ⟨S', a, b, c⟩ := hK _ _ h; exact ⟨S', a, b, c⟩
end
section
variable {P : Program} {S : St}
theorem ACalls_of_vcm {f : Nat} {fn : Func} {F : F} {args : List V} {Q : AE → St → Prop} (hm : P.follows .mixedOrders = true) (hf : P.funcs[f]? = some fn) (hgo : isGo P f = true) {ms : List Nat} (hc : compFm P fn ms = some F)
  (hN : args.length ≤ F.N) (h : WFS S → AW P F.N S.n F.c (retPost F.rs S Q) (frame0 args) S.enter) : ACalls P f args S Q := by
 unfold compFm at hc
 split at hc
 ·rename_i body rs hb hrs
  split at hc <;> cases hc
  rename_i c hcc
  refine ⟨hgo, fun g w vals hs hB hr => ?_⟩
  have ht := hB.top
  refine calls_of_wp hf hb ?_
  have hvl : vals.size ≤ fn.ntmps := by rw [← hr.1]; exact hN
  have hse : SimW g S.enter w := ⟨hs.mem, hs.box, hs.inj, hs.boxM, hs.locB, fun i k hi => hs.fresh i k (by rw [ok_not] at hi ⊢; simp only [St.enter] at hi; omega)⟩
  have hsim : Sim (g.def []) w fn.ntmps g (frame0 args) S.enter { tmps := vals ++ Array.replicate (fn.ntmps - vals.size) Go.undef, defers := [] } w := by
   have hget : ∀ t, (vals ++ Array.replicate (fn.ntmps - vals.size) Go.undef).getD t Go.undef = vals.getD t Go.undef := by
    intro t
    by_cases ht : t < vals.size
    ·simp [Array.getElem?_append, ht]
    ·have : vals.getD t Go.undef = Go.undef := by simp [Array.getElem?_eq_none (Nat.le_of_not_lt ht)]
     rw [this]
     simp only [Array.getD_eq_getD_getElem?, Array.getElem?_append, ht, if_false, Array.getElem?_replicate]
     split <;> rfl
   have hrep : ∀ t, Rep g (frame0 args t) (vals.getD t Go.undef) := fun t => by
    by_cases ht : t < args.length
    ·have ht' : t < vals.size := by rw [← hr.1]; exact ht
     have := hr.2 t args[t] vals[t] (by simp [ht]) (by simp [ht'])
     simp only [frame0, List.getElem?_eq_getElem ht, Option.getD_some]
     have e : vals.getD t Go.undef = vals[t] := by simp [ht']
     rw [e]; exact this.toPlain
    ·have ht' : ¬ t < vals.size := by rw [← hr.1]; exact ht
     have e : vals.getD t Go.undef = Go.undef := by simp [Array.getElem?_eq_none (Nat.le_of_not_lt ht')]
     simp only [frame0, List.getElem?_eq_none (Nat.le_of_not_lt ht), Option.getD_none]
     rw [e]
     exact .tup [] #[] rfl (by simp)
   have hng : ∀ t, (frame0 args t).isGr = false := fun t => plain_isGr _
   refine ⟨(Ext.refl g w).def, hse, by simp; omega, rfl, fun t => by rw [hget]; exact hrep t, fun t => .of_not (hng t), fun t t' b h1 _ => ?_, by simp only [St.enter, Gh.def]; omega, fun i k hi => hs.fresh i k (by rw [ok_not]; simp only [Gh.def] at hi; omega)⟩
   rw [spare_not (hng t)] at h1; cases h1
  have hw := (h (Sim.wfs hs)).run hm (pickMark :: (ms ++ rxTmps rs)) body hcc (g.def []) w g _ w ⟨hB.top, ⟨hB.tab.is, hB.tab.no⟩⟩ hsim
  refine Go.wp_mono hw ?_
  have hok : ∀ (S'' : St) (S' : St), Over S S' S'' → ∀ i k b, g.loc i k = some b → S''.ok i k = true := fun S'' S' ho i k b hb => by
   have := (ok_iff _ _ _).1 (hs.ok_of_loc hb)
   rw [ok_iff]
   have h1 := ho.n; have h2 := ho.b; have h3 := ho.c
   exact ⟨by omega, fun e => by have := this.2 (by omega); omega⟩
  have fin : ∀ (σ : Nat → V) (S' : St) (g' : Gh) (a' : Act) (w' : World), Sim (g.def []) w fn.ntmps g' σ S' a' w' → (∃ v S'', resV σ S' rs = some v ∧ v.refsB S''.ok ∧ Over S S' S'' ∧ Q (.ret v) S'') →
    a'.defers = [] ∧ ∃ v, (results fn a'.tmps).run P w' = .ok v w' ∧ ∃ g'' S'' ae, Ext g w g'' w' ∧ SimW g'' S'' w' ∧ (S.n ≤ S''.n ∧ S''.b = S.b) ∧ RepEnd g'' w' w.heap.size ae (.returned v) ∧ Q ae S'' := by
   rintro σ S' g' a' w' hs' ⟨v, S'', hv, hb, ho, hq⟩
   obtain ⟨val, e1, e2, e3⟩ := run_results hrs hs' hv
   refine ⟨hs'.dfr, val, e1, g'.cut S''.ok, S'', .ret v, hs'.ext.undef.cut (hok _ _ ho), hs'.sim.cut ho.H, ⟨ho.n, ho.b⟩, ⟨e2.cut _ hb, e3.cut _⟩, hq⟩
  intro e a' w' hp
  cases e with
  | normal => obtain ⟨g', σ, S', k1, k2⟩ := hp; exact fin σ S' g' a' w' k1 k2
  | ret => obtain ⟨g', σ, S', k1, k2⟩ := hp; exact fin σ S' g' a' w' k1 k2
  | exit id => obtain ⟨g', σ, S', k1, k2⟩ := hp; exact k2.elim
  | panic chain =>
   obtain ⟨g', σ, S', v, val, k1, k2, k3, S'', hb, ho, hq⟩ := hp
   exact ⟨k1.dfr, g'.cut S''.ok, S'', .pan v, k1.ext.undef.cut (hok _ _ ho), k1.sim.cut ho.H, ⟨ho.n, ho.b⟩, ⟨val, k2, k3.cut _ hb⟩, hq⟩
  | goto l => exact hp.elim
  | outgrown => exact hp.elim
 ·cases hc
end
theorem ACalls_of_lvc {P : Program} {f : Nat} {fn : Func} {L : LF} {args : List V} {S : St} {Q : AE → St → Prop} (hm : P.follows .mixedOrders = true) (hf : P.funcs[f]? = some fn) (hgo : isGo P f = true) {ms : List Nat} (hc : compFm P fn ms = some L.er)
  (hN : args.length ≤ L.N) (h : WFS S → lvc P L.c (retL L.rs fun r S1 => ∃ S', (match r with
   | .ret v => v.refsB S'.ok
   | .pan v => v.refsB S'.ok) ∧ Over S S1 S' ∧ Q r S') (frame0 args) S.enter) : ACalls P f args S Q :=
 ACalls_of_vcm hm hf hgo hc hN fun hw => (lvc_sound L.c _ _ _ (h hw)).imp fun _ _ _ h => retL_retPost (fun _ _ h => h) h
section
variable {P : Program} {S : St}
theorem Thr_of_lvc {f : Nat} {fn : Func} {L : LF} {args : List V} {r : AE} (hm : P.follows .mixedOrders = true) (hf : P.funcs[f]? = some fn) (hgo : isGo P f = true) {ms : List Nat} (hc : compFm P fn ms = some L.er)
  (hN : args.length ≤ L.N) (h : ∀ S, lvc P L.c (retL L.rs fun e S' => e = r ∧ S' = S) (frame0 args) S) : Thr P f args r := by
 intro S
 unfold compFm at hc
 split at hc
 ·rename_i body rs hb hrs
  split at hc
  case h_2 => cases hc
  rename_i c hcc
  have hLc : c = L.c.er ∧ rs = L.rs ∧ fn.ntmps = L.N := by
   simp only [LF.er, Option.some.injEq, F.mk.injEq] at hc
   exact ⟨hc.2.2, hc.2.1, hc.1⟩
  obtain ⟨rfl, rfl, hN'⟩ := hLc
  rw [← hN'] at hN
  refine ⟨hgo, fun g w vals hs hB hr => ?_⟩
  have ht := hB.top
  refine calls_of_wp hf hb ?_
  have hvl : vals.size ≤ fn.ntmps := by rw [← hr.1]; exact hN
  have hse : SimW g S.enter w := ⟨hs.mem, hs.box, hs.inj, hs.boxM, hs.locB, fun i k hi => hs.fresh i k (by rw [ok_not] at hi ⊢; simp only [St.enter] at hi; omega)⟩
  have hsim : Sim (g.def []) w fn.ntmps g (frame0 args) S.enter { tmps := vals ++ Array.replicate (fn.ntmps - vals.size) Go.undef, defers := [] } w := by
   have hget : ∀ t, (vals ++ Array.replicate (fn.ntmps - vals.size) Go.undef).getD t Go.undef = vals.getD t Go.undef := by
    intro t
    by_cases ht : t < vals.size
    ·simp [Array.getElem?_append, ht]
    ·have : vals.getD t Go.undef = Go.undef := by simp [Array.getElem?_eq_none (Nat.le_of_not_lt ht)]
     rw [this]
     simp only [Array.getD_eq_getD_getElem?, Array.getElem?_append, ht, if_false, Array.getElem?_replicate]
     split <;> rfl
   have hrep : ∀ t, Rep g (frame0 args t) (vals.getD t Go.undef) := fun t => by
    by_cases ht : t < args.length
    ·have ht' : t < vals.size := by rw [← hr.1]; exact ht
     have := hr.2 t args[t] vals[t] (by simp [ht]) (by simp [ht'])
     simp only [frame0, List.getElem?_eq_getElem ht, Option.getD_some]
     have e : vals.getD t Go.undef = vals[t] := by simp [ht']
     rw [e]; exact this.toPlain
    ·have ht' : ¬ t < vals.size := by rw [← hr.1]; exact ht
     have e : vals.getD t Go.undef = Go.undef := by simp [Array.getElem?_eq_none (Nat.le_of_not_lt ht')]
     simp only [frame0, List.getElem?_eq_none (Nat.le_of_not_lt ht), Option.getD_none]
     rw [e]
     exact .tup [] #[] rfl (by simp)
   have hng : ∀ t, (frame0 args t).isGr = false := fun t => plain_isGr _
   refine ⟨(Ext.refl g w).def, hse, by simp; omega, rfl, fun t => by rw [hget]; exact hrep t, fun t => .of_not (hng t), fun t t' b h1 _ => ?_, by simp only [St.enter, Gh.def]; omega, fun i k hi => hs.fresh i k (by rw [ok_not]; simp only [Gh.def] at hi; omega)⟩
   rw [spare_not (hng t)] at h1; cases h1
  have hw := (lvc_sound L.c _ _ _ (h S.enter)).run hm (pickMark :: (ms ++ rxTmps L.rs)) body hcc (g.def []) w g _ w ⟨hB.top, ⟨hB.tab.is, hB.tab.no⟩⟩ hsim
  refine Go.wp_mono hw ?_
  have seen : ∀ (σ : Nat → V) (g' : Gh) (a' : Act) (w' : World), Sim (g.def []) w fn.ntmps g' σ S.enter a' w' → ∀ i k b, g'.loc i k = some b → S.ok i k = true := fun σ g' a' w' hs' i k b hb => by
   have h1 := (ok_iff _ _ _).1 (hs'.sim.ok_of_loc hb)
   simp only [St.enter] at h1
   have hi : i < S.n := by
    have := h1.1
    rcases Nat.lt_or_ge i S.n with h | h
    ·exact h
    ·have : i = S.n := by omega
     exact absurd (h1.2 this) (Nat.not_lt_zero _)
   cases hok : S.ok i k with
   | true => rfl
   | false =>
    have h2 := hs.fresh i k hok
    have h3 := hs'.ext.undef.newName i k (by rw [hB.top]; exact hi) h2
    rw [h3] at hb; cases hb
  have down : ∀ (σ : Nat → V) (g' : Gh) (a' : Act) (w' : World), Sim (g.def []) w fn.ntmps g' σ S.enter a' w' → SimW g' S w' := fun σ g' a' w' hs' =>
   ⟨hs'.sim.mem, hs'.sim.box, hs'.sim.inj, hs'.sim.boxM, hs'.sim.locB, fun i k hi => by
    cases hl : g'.loc i k with
    | none => rfl
    | some b => rw [seen σ g' a' w' hs' i k b hl] at hi; cases hi⟩
  have fin : ∀ (σ : Nat → V) (S' : St) (g' : Gh) (a' : Act) (w' : World), Sim (g.def []) w fn.ntmps g' σ S' a' w' → resL σ S' L.rs (fun v => AE.ret v = r ∧ S' = S.enter) →
    a'.defers = [] ∧ ∃ v, (results fn a'.tmps).run P w' = .ok v w' ∧ ∃ g'' S'' ae, Ext g w g'' w' ∧ SimW g'' S'' w' ∧ (S.n ≤ S''.n ∧ S''.b = S.b) ∧ RepEnd g'' w' w.heap.size ae (.returned v) ∧ ae = r ∧ S'' = S := by
   rintro σ S' g' a' w' hs' hres
   obtain ⟨v, hv, hr', rfl⟩ := resL_some hres
   obtain ⟨val, e1, e2, e3⟩ := run_results hrs hs' hv
   exact ⟨hs'.dfr, val, e1, g', S, .ret v, hs'.ext.undef, down σ g' a' w' hs', ⟨Nat.le_refl _, rfl⟩, ⟨e2, e3⟩, hr', rfl⟩
  intro e a' w' hp
  cases e with
  | normal => obtain ⟨g', σ, S', k1, k2⟩ := hp; exact fin σ S' g' a' w' k1 k2
  | ret => obtain ⟨g', σ, S', k1, k2⟩ := hp; exact fin σ S' g' a' w' k1 k2
  | exit id => obtain ⟨g', σ, S', k1, k2⟩ := hp; exact k2.elim
  | panic chain =>
   obtain ⟨g', σ, S', v, val, k1, k2, k3, k4, rfl⟩ := hp
   exact ⟨k1.dfr, g', S, .pan v, k1.ext.undef, down σ g' a' w' k1, ⟨Nat.le_refl _, rfl⟩, ⟨val, k2, k3⟩, k4, rfl⟩
  | goto l => exact hp.elim
  | outgrown => exact hp.elim
 ·cases hc
end
theorem Thr.call {P : Program} {f : Nat} {args : List V} {v : V} (h : Thr P f args (.ret v)) {S : St} {Kr Kp : V → St → Prop} (hk : Kr v S) : callA P f args S Kr Kp :=
 (h S).mono fun e S' ⟨h1, h2⟩ => by subst h1; subst h2; exact hk
theorem Thr.pans {P : Program} {f : Nat} {args : List V} {v : V} (h : Thr P f args (.pan v)) {S : St} {Kr Kp : V → St → Prop} (hk : Kp v S) : callA P f args S Kr Kp :=
 (h S).mono fun e S' ⟨h1, h2⟩ => by subst h1; subst h2; exact hk
theorem Thr.pure {P : Program} {f : Nat} {args : List V} {v : V} (h : Thr P f args (.ret v)) (S : St) : Pure P f args S v := ⟨fun S' _ => h S'⟩
theorem Thr.ofPure {P : Program} {f : Nat} {args : List V} {v : V} (h : ∀ S, Pure P f args S v) : Thr P f args (.ret v) := fun S => (h S).run S (St.le_refl S)
theorem Thr.ofThrows {P : Program} {f : Nat} {args : List V} {tid : Nat} {r : Except Int V} (h : ∀ S, Throws tid P f args S r) : Thr P f args (AE.of tid r) := fun S => (h S).run S (St.le_refl S)
theorem Thr.throws {P : Program} {f : Nat} {args : List V} {tid : Nat} {r : Except Int V} (h : Thr P f args (AE.of tid r)) (S : St) : Throws tid P f args S r := ⟨fun S' _ => h S'⟩
def kp (K : AE → St → Prop) : V → St → Prop := fun v S => K (.pan v) S
def ovr (S₀ : St) (Q : AE → St → Prop) : AE → St → Prop := fun r S1 => ∃ S', (match r with
   | .ret v => v.refsB S'.ok
   | .pan v => v.refsB S'.ok) ∧ Over S₀ S1 S' ∧ Q r S'
def loop2 (step : (V → V → St → Prop) → V → V → St → Prop) (a0 a1 : V) (S : St) : Prop := ∀ R : V → V → St → Prop, (∀ x0 x1 S, step R x0 x1 S → R x0 x1 S) → R a0 a1 S
def loop3 (step : (V → V → V → St → Prop) → V → V → V → St → Prop) (a0 a1 a2 : V) (S : St) : Prop := ∀ R : V → V → V → St → Prop, (∀ x0 x1 x2 S, step R x0 x1 x2 S → R x0 x1 x2 S) → R a0 a1 a2 S
def loop4 (step : (V → V → V → V → St → Prop) → V → V → V → V → St → Prop) (a0 a1 a2 a3 : V) (S : St) : Prop := ∀ R : V → V → V → V → St → Prop, (∀ x0 x1 x2 x3 S, step R x0 x1 x2 x3 S → R x0 x1 x2 x3 S) → R a0 a1 a2 a3 S
def loop5 (step : (V → V → V → V → V → St → Prop) → V → V → V → V → V → St → Prop) (a0 a1 a2 a3 a4 : V) (S : St) : Prop := ∀ R : V → V → V → V → V → St → Prop, (∀ x0 x1 x2 x3 x4 S, step R x0 x1 x2 x3 x4 S → R x0 x1 x2 x3 x4 S) → R a0 a1 a2 a3 a4 S
def loop6 (step : (V → V → V → V → V → V → St → Prop) → V → V → V → V → V → V → St → Prop) (a0 a1 a2 a3 a4 a5 : V) (S : St) : Prop := ∀ R : V → V → V → V → V → V → St → Prop, (∀ x0 x1 x2 x3 x4 x5 S, step R x0 x1 x2 x3 x4 x5 S → R x0 x1 x2 x3 x4 x5 S) → R a0 a1 a2 a3 a4 a5 S
def loop8 (step : (V → V → V → V → V → V → V → V → St → Prop) → V → V → V → V → V → V → V → V → St → Prop) (a0 a1 a2 a3 a4 a5 a6 a7 : V) (S : St) : Prop := ∀ R : V → V → V → V → V → V → V → V → St → Prop, (∀ x0 x1 x2 x3 x4 x5 x6 x7 S, step R x0 x1 x2 x3 x4 x5 x6 x7 S → R x0 x1 x2 x3 x4 x5 x6 x7 S) → R a0 a1 a2 a3 a4 a5 a6 a7 S
def loop10 (step : (V → V → V → V → V → V → V → V → V → V → St → Prop) → V → V → V → V → V → V → V → V → V → V → St → Prop) (a0 a1 a2 a3 a4 a5 a6 a7 a8 a9 : V) (S : St) : Prop := ∀ R : V → V → V → V → V → V → V → V → V → V → St → Prop, (∀ x0 x1 x2 x3 x4 x5 x6 x7 x8 x9 S, step R x0 x1 x2 x3 x4 x5 x6 x7 x8 x9 S → R x0 x1 x2 x3 x4 x5 x6 x7 x8 x9 S) → R a0 a1 a2 a3 a4 a5 a6 a7 a8 a9 S
end Go.Pl
