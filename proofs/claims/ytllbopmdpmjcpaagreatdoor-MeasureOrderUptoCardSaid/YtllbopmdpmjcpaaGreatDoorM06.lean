import Derived.Test.YtllbopmdpmjcpaaGreatDoorM05
import Derived.Deep.LoopGhost
import Derived.Lib.LaidTab
import Derived.Lib.Space
set_option linter.unusedSimpArgs false
set_option linter.unusedVariables false
set_option linter.unusedSectionVars false
section
namespace Go.Pl
section
variable {P : Program} {g₀ g : Gh} {w₀ : World} {N : Nat} {S S' : St} {w : World} {σ σ' : Nat → V} {a : Act}
theorem row_cells {sz b o cap m : Nat} {ys : List V} (h0 : 0 < sz) (hr : Rep g (.sl false sz ys) (.slice (some ⟨b, o, none⟩) m cap)) (hs : SimW g S w) :
  ∃ news : List Value, m = ys.length ∧ news.length = ys.length * sz ∧ (∀ j v, news[j]? = some v → w.cell? ((⟨b, o, none⟩ : Addr).add j) = some v) ∧ (∀ v ∈ news, v.oneCell' = true) ∧
   (∀ (i : Nat) (x : V), ys[i]? = some x → x.cells.length = sz) ∧
   ∀ (i : Nat) (x : V) (j : Nat) (y : V), ys[i]? = some x → x.cells[j]? = some y → ∃ c, news[i * sz + j]? = some c ∧ Rep g y c ∧ c.oneCell' = true := by
 cases hr with
 | slE => exact ⟨[], rfl, by simp, by simp, by simp, by simp, by simp⟩
 | sl _ _ _ _ _ c hcap hsz hc hone hrc =>
  have key : ∀ k, k < ys.length * sz → ∃ x y, ys[k / sz]? = some x ∧ x.cells[k % sz]? = some y := fun k hk => by
   have h1 : k / sz < ys.length := Nat.div_lt_of_lt_mul (by rw [Nat.mul_comm]; exact hk)
   have h2 : k % sz < sz := Nat.mod_lt _ h0
   have h3 := hsz (k / sz) ys[k / sz] (by simp [h1])
   exact ⟨ys[k / sz], ys[k / sz].cells[k % sz], by simp [h1], by simp [h3, h2]⟩
  refine ⟨(List.range (ys.length * sz)).map fun k => c (k / sz) (k % sz), rfl, by simp, fun j v hv => ?_, fun v hv => ?_, hsz, fun i x j y hx hy => ?_⟩
  ·simp only [List.getElem?_map, Option.map_eq_some_iff] at hv
   obtain ⟨k, hk, rfl⟩ := hv
   obtain ⟨hlt, rfl⟩ := List.getElem?_eq_some_iff.1 hk
   simp only [List.length_range] at hlt
   simp only [List.getElem_range]
   obtain ⟨x, y, hx, hy⟩ := key j hlt
   have := hs.mem _ _ _ (hc _ _ _ _ hx hy)
   rw [add_none]
   rw [Nat.add_assoc, Nat.mul_comm, Nat.div_add_mod] at this
   exact this
  ·simp only [List.mem_map, List.mem_range] at hv
   obtain ⟨k, hk, rfl⟩ := hv
   obtain ⟨x, y, hx, hy⟩ := key k hk
   exact hone _ _ _ _ hx hy
  ·have hi : i < ys.length := (List.getElem?_eq_some_iff.1 hx).1
   have hj : j < sz := by rw [← hsz i x hx]; exact (List.getElem?_eq_some_iff.1 hy).1
   have hdiv : (i * sz + j) / sz = i := by rw [Nat.mul_comm, Nat.mul_add_div h0, Nat.div_eq_of_lt hj]; simp
   have hmod : (i * sz + j) % sz = j := by rw [Nat.mul_comm, Nat.mul_add_mod, Nat.mod_eq_of_lt hj]
   have hlt : i * sz + j < ys.length * sz := by
    have : (i + 1) * sz ≤ ys.length * sz := Nat.mul_le_mul_right _ hi
    rw [Nat.add_mul] at this; omega
   refine ⟨c i j, ?_, hrc _ _ _ _ hx hy, hone _ _ _ _ hx hy⟩
   simp [hlt, hdiv, hmod]
theorem leaves_app {o : Oper} {t e : TypeId} {ei : TypeInfo} {x y : Operand} {x' y' : X} {d : Nat} (ho : o.op = .call { callee := .builtin .append, args := #[x, y], argTypes := #[t, t] })
  (hu : P.underlying t = some (.slice e)) (he : P.info? e = some ei) (hx : compX x = some x') (hy : compX y = some y') (h0 : ei.size ≠ 0) (hz : (ei.zero.map (·.cells.size)) = some ei.size)
  (hdst : o.dst = some d) (hd : d < N) (h : Sim g₀ w₀ N g σ S a w) {v : V} (hv : appV S.O e ei.size ei.bytes (x'.raw σ) (y'.ev σ) = some v) :
  ∃ g' a' w', g'.loc = g.loc ∧ Leaves P o a w a' w' ∧ Sim g₀ w₀ N g' (upd (x'.down σ) d v) S a' w' := by
 rw [S.hO] at hv
 obtain ⟨z, hz1, hz2⟩ := Option.map_eq_some_iff.1 hz
 have hpos : 0 < ei.size := Nat.pos_of_ne_zero h0
 obtain ⟨r1, r2, r3⟩ := raw_rep h hx
 have ry := (compX_rep hy h.rep).1
 have hdn := down_sim h x'
 have hrun : ∀ v' w', (Builtin.append_ #[t, t] o.type #[a.eval x, a.eval y]).run P w = .ok v' w' → Leaves P o a w (a.put o.dst v') w' := fun v' w' hr =>
  .inl ⟨v', by simp [execOp, ho, resolve, invoke, builtin, hr], rfl⟩
 generalize hex : a.eval x = xv at r1 r2 r3 hrun
 generalize hey : a.eval y = yv at ry hrun
 have hold : ∃ nl xs, (growOf e ei.size (x'.raw σ) = some (nl, xs)) ∧ (∃ vals, w.ownsRow w₀.heap.size e ei.size xv xs.length vals) ∧ (∀ b, xv.ownBlock = some b → (∀ k, xs.length * ei.size ≤ k → g.M b k = none) ∧ ∀ i k, g.loc i k ≠ some b) ∧
   Rep g (.sl nl ei.size xs) xv ∧ (∀ t b, spare (x'.down σ t) (a.tmps.getD t undef) = some b → xv.ownBlock ≠ some b) := by
  unfold appV at hv
  revert r1 r2 r3 hv
  generalize x'.raw σ = rv
  intro hv r1 r2 r3
  unfold growOf at hv ⊢
  cases rv with
  | gr e' nl sz' xs =>
   simp only at hv
   by_cases hc : e' = e ∧ sz' = ei.size
   ·obtain ⟨rfl, rfl⟩ := hc
    cases r1 with
    | gr _ _ _ _ _ r1 => exact ⟨nl, xs, by simp, r2.1, r2.2, r1, fun t b hs => r3 t b hs⟩
   ·rw [if_neg hc] at hv; cases hv
  | sl nl sz xs =>
   cases nl with
   | false => simp at hv
   | true =>
    cases r1 with
    | slNil => exact ⟨true, [], rfl, ⟨[], World.ownsRow_nil _ _ _ _⟩, fun b hb => by simp [Value.ownBlock] at hb, .slNil _, fun t b _ => by simp [Value.ownBlock]⟩
  | _ => simp at hv
 obtain ⟨nl, xs, hm, ⟨vals, hown⟩, hfree, hrx, hspare⟩ := hold
 unfold appV at hv
 rw [hm] at hv
 revert hv
 generalize y'.ev σ = yr at ry
 intro hv
 cases yr with
 | sl nl' sz' ys =>
  simp only at hv
  split at hv
  case isFalse => cases hv
  rename_i q1
  split at hv <;> cases hv
  rename_i hcond
  have hcond : (xs.length + ys.length) * ei.bytes ≤ 1099511627776 ∧ xs.length + ys.length ≤ 1099511627776 := by simpa [Ops.std] using hcond
  obtain ⟨q2, q3⟩ := hcond
  have heq : V.gr e (bif nl then Ops.std.emp ys else false) ei.size (Ops.std.app xs ys) = .gr e (nl && ys.isEmpty) ei.size (xs ++ ys) := by cases nl <;> rfl
  rw [heq]
  have stay : ∀ (hys : ys = []), (Builtin.append_ #[t, t] o.type #[xv, yv]).run P w = .ok xv w →
    ∃ g' a' w', g'.loc = g.loc ∧ Leaves P o a w a' w' ∧ Sim g₀ w₀ N g' (upd (x'.down σ) d (.gr e (nl && ys.isEmpty) ei.size (xs ++ ys))) S a' w' := by
   intro hys hr
   subst hys
   refine ⟨g, _, _, rfl, hrun _ _ hr, ?_⟩
   rw [hdst]
   simp only [List.isEmpty_nil, Bool.and_true, List.append_nil]
   exact hdn.put' hd h.ext h.sim (.refl g) (.gr _ _ _ _ _ hrx) (fun _ _ c => c) ⟨⟨vals, hown⟩, hfree⟩ (fun t b _ hs => hspare t b hs)
  cases ry with
  | slNil => exact stay rfl (run_append_owned_none (P := P) (w := w) (base := w₀.heap.size) (t := t) (ty := o.type) (e := e) (i := ei) (size := ei.size) (ht := hu) (hi := he) (hown := hown))
  | slE _ ad =>
   refine stay rfl ?_
   rcases hown.2 with ⟨rfl, hn⟩ | ⟨gb, cap', cur, rfl, _, _, hnc, _⟩
   ·have : xs = [] := List.eq_nil_of_length_eq_zero hn
    simp [Builtin.append_, run_underlying hu, sizeOf, typeInfo, he, Builtin.lenOf, Builtin.firstCells, loadCells, loadCellsFrom]
   ·simp [Builtin.append_, run_underlying hu, sizeOf, typeInfo, he, Builtin.lenOf, Builtin.firstCells, hnc, storeCells, loadCells, loadCellsFrom]
  | sl _ _ b o' cap c hcap hsz hc hone hrc =>
   have ry : Rep g (.sl false sz' ys) (.slice (some ⟨b, o', none⟩) ys.length cap) := .sl sz' ys b o' cap c hcap hsz hc hone hrc
   by_cases hys : ys = []
   ·refine stay hys ?_
    subst hys
    rcases hown.2 with ⟨rfl, hn⟩ | ⟨gb, cap', cur, rfl, _, _, hnc, _⟩
    ·have : xs = [] := List.eq_nil_of_length_eq_zero hn
     simp [Builtin.append_, run_underlying hu, sizeOf, typeInfo, he, Builtin.lenOf, Builtin.firstCells, loadCells, loadCellsFrom]
    ·simp [Builtin.append_, run_underlying hu, sizeOf, typeInfo, he, Builtin.lenOf, Builtin.firstCells, hnc, storeCells, loadCells, loadCellsFrom]
   ·have hsz' : sz' = ei.size := q1.resolve_right (by simp)
    subst hsz'
    obtain ⟨news, _, hnl, hn1, hn2, hn3, hn4⟩ := row_cells hpos ry h.sim
    have hyl : 0 < ys.length := List.length_pos_iff.2 hys
    have hempty : ys.isEmpty = false := by cases ys <;> simp_all
    rw [hempty, Bool.and_false]
    have hvl : vals.length = xs.length * ei.size := hown.1
    have hlen : (xs ++ ys).length = xs.length + ys.length := by simp
    have hall : (vals ++ news).length = (xs ++ ys).length * ei.size := by rw [List.length_append, hvl, hnl, hlen, Nat.add_mul]
    have hxs : (∀ (i : Nat) (x : V), xs[i]? = some x → x.cells.length = ei.size) ∧ ∀ (i : Nat) (x : V) (j : Nat) (y : V), xs[i]? = some x → x.cells[j]? = some y → ∃ c, vals[i * ei.size + j]? = some c ∧ Rep g y c ∧ c.oneCell' = true := by
     cases hrx with
     | slNil => exact ⟨by simp, by simp⟩
     | slE => exact ⟨by simp, by simp⟩
     | sl _ _ b1 o1 cap1 c1 hcap1 hsz1 hc1 hone1 hrc1 =>
      refine ⟨hsz1, fun i x j y hx hy => ⟨c1 i j, ?_, hrc1 _ _ _ _ hx hy, hone1 _ _ _ _ hx hy⟩⟩
      have hm := h.sim.mem _ _ _ (hc1 _ _ _ _ hx hy)
      have hi : i < xs.length := (List.getElem?_eq_some_iff.1 hx).1
      have hj : j < ei.size := by rw [← hsz1 i x hx]; exact (List.getElem?_eq_some_iff.1 hy).1
      have hlt : i * ei.size + j < xs.length * ei.size := by
       have : (i + 1) * ei.size ≤ xs.length * ei.size := Nat.mul_le_mul_right _ hi
       rw [Nat.add_mul] at this; omega
      have ho1 : o1 = 0 := by
       rcases hown.2 with ⟨h', _⟩ | ⟨gb, cap', cur, h', _⟩
       ·simp at h'
       ·simp only [Value.slice.injEq, Option.some.injEq, Addr.mk.injEq] at h'; exact h'.1.2.1
      subst ho1
      have := hown.cellAt (i * ei.size + j) hlt
      rw [← this, ← hm, Nat.zero_add]
    let cc : Nat → Nat → Value := fun i j => (vals ++ news).getD (i * ei.size + j) undef
    have hcells : ∀ (i : Nat) (x : V), (xs ++ ys)[i]? = some x → x.cells.length = ei.size := fun i x hx => by
     rw [List.getElem?_append] at hx
     split at hx
     ·exact hxs.1 _ _ hx
     ·exact hn3 _ _ hx
    have hget : ∀ (i : Nat) (x : V) (j : Nat) (y : V), (xs ++ ys)[i]? = some x → x.cells[j]? = some y → (vals ++ news)[i * ei.size + j]? = some (cc i j) ∧ Rep g y (cc i j) ∧ (cc i j).oneCell' = true := fun i x j y hx hy => by
     have hj : j < ei.size := by rw [← hcells i x hx]; exact (List.getElem?_eq_some_iff.1 hy).1
     have main : ∃ c, (vals ++ news)[i * ei.size + j]? = some c ∧ Rep g y c ∧ c.oneCell' = true := by
      rw [List.getElem?_append] at hx
      split at hx
      ·rename_i hi
       obtain ⟨c, e1, e2⟩ := hxs.2 i x j y hx hy
       refine ⟨c, ?_, e2⟩
       rw [List.getElem?_append_left (by exact (List.getElem?_eq_some_iff.1 e1).1)]; exact e1
      ·rename_i hi
       obtain ⟨c, e1, e2⟩ := hn4 _ x j y hx hy
       refine ⟨c, ?_, e2⟩
       have hle : xs.length * ei.size ≤ i * ei.size := Nat.mul_le_mul_right _ (by omega)
       rw [List.getElem?_append_right (by omega), hvl]
       rw [← e1, Nat.sub_mul]
       congr 1; omega
     obtain ⟨c, e1, e2⟩ := main
     have : cc i j = c := by simp only [cc]; rw [List.getD_eq_getElem?_getD, e1]; rfl
     rw [this]; exact ⟨e1, e2⟩
    have hb63 : xs.length + ys.length ≤ 9223372036854775807 := by omega
    have hb48 : (xs.length + ys.length) * ei.bytes ≤ 140737488355328 := by omega
    have close : ∀ (b' cap' : Nat) (cur' : Array Value) (w' : World), (Builtin.append_ #[t, t] o.type #[xv, .slice (some ⟨b, o', none⟩) ys.length cap]).run P w = .ok (.slice (some ⟨b', 0, none⟩) (xs ++ ys).length cap') w' →
      w'.heap[b']? = some (.cells cur' e (0, 0)) → w'.os = w.os → w'.tape = w.tape → w'.output = w.output → w.heap.size ≤ w'.heap.size → (∀ k, k ≠ b' → k < w.heap.size → w'.heap[k]? = w.heap[k]?) →
      w₀.heap.size ≤ b' → (∀ i k, g.loc i k ≠ some b') → (∀ k c, g.M b' k = some c → (vals ++ news).toArray[k]? = some c) → (∀ t, spare (x'.down σ t) (a.tmps.getD t undef) ≠ some b') →
      w'.ownsRow w₀.heap.size e ei.size (.slice (some ⟨b', 0, none⟩) (xs ++ ys).length cap') (xs ++ ys).length (vals ++ news) →
      ∃ g' a' w', g'.loc = g.loc ∧ Leaves P o a w a' w' ∧ Sim g₀ w₀ N g' (upd (x'.down σ) d (.gr e false ei.size (xs ++ ys))) S a' w' := by
     intro b' cap' cur' w' hr hb hos htape hout hs ho hbase hL hM hsp how
     refine ⟨g.addM b' (vals ++ news).toArray, _, _, rfl, hrun _ _ hr, ?_⟩
     rw [hdst]
     exact hdn.tell (cs := (vals ++ news).toArray) hd hM hbase hb hL hos htape hout hs ho (fun t _ => hsp t) (by simpa using how) cc hcells
      (fun i x j y hx hy => by simpa using (hget i x j y hx hy).1) (fun i x j y hx hy => (hget i x j y hx hy).2.2) (fun i x j y hx hy => (hget i x j y hx hy).2.1)
    have hgeM : ∀ k c, g.M w.heap.size k = some c → (vals ++ news).toArray[k]? = some c := fun k c hk => by
     have := World.block_lt_of_cell? _ _ (h.sim.mem _ _ _ hk)
     simp at this
    have hgeL : ∀ i k, g.loc i k ≠ some w.heap.size := fun i k hi => by have := h.sim.locB _ _ _ hi; omega
    have hgeS : ∀ t, spare (x'.down σ t) (a.tmps.getD t undef) ≠ some w.heap.size := fun t hs => by have := (hdn.claim t).lt hs; omega
    have grown : ∀ old, old < xs.length + ys.length → (w.drew.alloc (.cells ((vals ++ news).toArray ++ Builtin.zeroCells z.cells (grownCap w (xs.length + ys.length) old e - (xs.length + ys.length))) e)).ownsRow w₀.heap.size e ei.size
      (.slice (some ⟨w.heap.size, 0, none⟩) (xs ++ ys).length (grownCap w (xs.length + ys.length) old e)) (xs ++ ys).length (vals ++ news) := by
     intro old hold
     have hge := grownCap_ge w (xs.length + ys.length) old e
     have hcm : grownCap w (xs.length + ys.length) old e ≤ maxLen := grownCap_le_maxLen w _ old e (by simp only [maxLen]; omega)
     refine ⟨hall, .inr ⟨w.heap.size, _, _, rfl, h.ext.size, heap_alloc_new w.drew _, by rw [hlen]; exact hge, hcm, ?_, ?_⟩⟩
     ·simp only [Array.size_append, List.size_toArray, size_zeroCells, hz2, hall, hlen, ← Nat.add_mul]
      congr 1; omega
     ·simp only [Array.toList_append]
      rw [← hall]; exact List.take_left
    rcases hown.2 with ⟨rfl, hn⟩ | ⟨gb, cap', cur, rfl, hbg, hg, hnc, hcm, hcs, htake⟩
    ·have hxe : xs = [] := List.eq_nil_of_length_eq_zero hn
     subst hxe
     have hve : vals = [] := List.eq_nil_of_length_eq_zero (by simpa using hvl)
     subst hve
     have hr := run_append_nil (P := P) w t o.type e ei z hu he hz1 ⟨b, o', none⟩ ys.length cap news hnl hn1 hyl (by omega) (by simp at hb48; omega)
     have hg' := grown 0 (by simp; omega)
     simp only [List.length_nil, Nat.zero_add, List.nil_append] at hg'
     exact close w.heap.size _ _ _ (by simpa using hr) (heap_alloc_new w.drew _) rfl rfl rfl (by simp) (fun k _ hlt => heap_alloc_lt w.drew _ _ hlt) h.ext.size hgeL hgeM hgeS (by simpa using hg')
    ·by_cases hroom : xs.length + ys.length ≤ cap'
     ·have hfit : xs.length * ei.size + news.length ≤ cur.size := by rw [hnl, hcs, ← Nat.add_mul]; exact Nat.mul_le_mul_right _ hroom
      have hr := run_append_room (P := P) w t o.type e ei hu he gb xs.length cap' cur hg ⟨b, o', none⟩ ys.length cap news hnl hn1 hn2 hroom hfit
      have hfb := hfree gb rfl
      refine close gb cap' _ _ (by rw [hlen]; exact hr) (setRow_heap w gb cur _ e _ hg) rfl rfl rfl (by simp [World.setRow]) (fun k hk _ => setRow_other w gb k _ hk) hbg hfb.2 (fun k c hk => ?_) (fun t hs => hspare t gb hs rfl) ?_
      ·have hlt : k < xs.length * ei.size := by
        rcases Nat.lt_or_ge k (xs.length * ei.size) with h' | h'
        ·exact h'
        ·rw [hfb.1 k h'] at hk; cases hk
       have hm := h.sim.mem _ _ _ hk
       rw [hown.cellAt k hlt] at hm
       simp only [List.getElem?_toArray]
       rw [List.getElem?_append_left (by omega)]; exact hm
      ·refine ⟨hall, .inr ⟨gb, cap', _, rfl, hbg, setRow_heap w gb cur _ e _ hg, by rw [hlen]; exact hroom, hcm, ?_, ?_⟩⟩
       ·simp only [List.size_toArray, List.length_append, List.length_take, List.length_drop, Array.length_toList]
        omega
       ·rw [htake, ← hall]; exact List.take_left
     ·have holds : ∀ j u, vals[j]? = some u → w.cell? ((⟨gb, 0, none⟩ : Addr).add j) = some u := hown.cells (g := gb) rfl
      have hr := run_append_grow (P := P) w t o.type e ei z hu he hz1 ⟨gb, 0, none⟩ xs.length cap' vals hvl holds ⟨b, o', none⟩ ys.length cap news hnl hn1 (by omega) (by omega) (growslice_fits (by omega) hb48)
      have hg' := grown cap' (by omega)
      exact close w.heap.size _ _ _ (by rw [hlen]; simpa using hr) (heap_alloc_new w.drew _) rfl rfl rfl (by simp) (fun k _ hlt => heap_alloc_lt w.drew _ _ hlt) h.ext.size hgeL hgeM hgeS hg'
 | _ => simp at hv
end
end Go.Pl
end
section
namespace Go.Pl
def V.undef : V := .tup []
def putD (σ : Nat → V) : Option Nat → V → Nat → V
 | some d, v => upd σ d v
 | none, _ => σ
inductive AE where
 | ret (v : V)
 | pan (v : V)
inductive AX where
 | normal
 | exit (id : Nat)
 | ret
 | pan (v : V)
def RepEnd (g : Gh) (w : World) (base : Nat) : AE → Ending → Prop
 | .ret v, .returned val => Rep g v val ∧ Claim g w base v val
 | .pan v, .panicked chain => ∃ val, chain = [{ v := val, recovered := false }] ∧ Rep g v val
 | _, _ => False
class Tab (P : Program) (g : Gh) (w : World) : Prop where
 is : Lib.TabIs P w "strings.asciiSpace" .u8 Lib.asciiSpaceTab
 no : ∀ a, P.globalNamed "strings.asciiSpace" = some a → ∀ i k, g.loc i k ≠ some a
theorem Tab.ext {P : Program} {g g' : Gh} {w w' : World} (h : Tab P g w) (hx : Ext g w g' w') : Tab P g' w' := by
 have h1 := h.is
 unfold Lib.TabIs World.var? at h1
 cases ha : P.globalNamed "strings.asciiSpace" with
 | none => rw [ha] at h1; cases h1
 | some a =>
  rw [ha] at h1
  simp only [Option.bind_some] at h1
  have hlt : a < w.heap.size := by
   apply Classical.byContradiction
   intro hn
   rw [Array.getElem?_eq_none (by omega)] at h1
   cases h1
  refine ⟨?_, fun b hb i k e => ?_⟩
  ·unfold Lib.TabIs World.var?
   rw [ha]
   simp only [Option.bind_some]
   rw [hx.block a hlt (h.no a ha)]; exact h1
  ·rw [ha] at hb; cases hb
   rcases hx.newLoc i k _ e with h' | h'
   ·exact h.no a ha i k h'
   ·omega
structure Base (P : Program) (g : Gh) (w : World) (n : Nat) : Prop where
 top : g.top = n
 tab : Tab P g w
structure ACalls (P : Program) (f : Nat) (args : List V) (S : St) (Q : AE → St → Prop) : Prop where
 go : isGo P f = true
 run : ∀ (g : Gh) (w : World) (vals : Array Value), SimW g S w → Base P g w S.n → Reps g args vals →
  Calls P f vals w fun e w' => ∃ g' S' ae, Ext g w g' w' ∧ SimW g' S' w' ∧ (S.n ≤ S'.n ∧ S'.b = S.b) ∧ RepEnd g' w' w.heap.size ae e ∧ Q ae S'
theorem ACalls.mono {P : Program} {f : Nat} {args : List V} {S : St} {Q Q' : AE → St → Prop} (h : ACalls P f args S Q) (hq : ∀ e S', Q e S' → Q' e S') : ACalls P f args S Q' :=
 ⟨h.1, fun g w vals h1 h2 h3 => (h.2 g w vals h1 h2 h3).mono fun _ _ ⟨g', S', ae, a, b, n, c, d⟩ => ⟨g', S', ae, a, b, n, c, hq _ _ d⟩⟩
def St.le (S S' : St) : Prop := (∀ i k x, S.H i k = some x → S'.H i k = some x) ∧ ∀ i k, S.ok i k = true → S'.ok i k = true
theorem St.le_refl (S : St) : S.le S := ⟨fun _ _ _ h => h, fun _ _ h => h⟩
theorem St.le_trans {a b c : St} (h : a.le b) (k : b.le c) : a.le c := ⟨fun i l x m => k.1 i l x (h.1 i l x m), fun i l m => k.2 i l (h.2 i l m)⟩
structure Pure (P : Program) (f : Nat) (args : List V) (S : St) (v : V) : Prop where
 run : ∀ S', S.le S' → ACalls P f args S' fun e S'' => e = .ret v ∧ S'' = S'
theorem Pure.le {P : Program} {f : Nat} {args : List V} {S S' : St} {v : V} (h : Pure P f args S v) (hl : S.le S') : Pure P f args S' v := ⟨fun S'' hs => h.run S'' (St.le_trans hl hs)⟩
structure RO where
 dst : Option Nat
 m : M
 guard : Option (Nat × Bool)
 deriving Inhabited
def callK (σ : Nat → V) (d : Option Nat) (Q : AX → (Nat → V) → St → Prop) (K : (Nat → V) → St → Prop) : AE → St → Prop
 | .ret v, S' => K (putD σ d v) S'
 | .pan v, S' => Q (.pan v) σ S'
def RO.vc1 (P : Program) (o : RO) (Q : AX → (Nat → V) → St → Prop) (K : (Nat → V) → St → Prop) (σ : Nat → V) (S : St) : Prop :=
 match o.m with
 | .call f args => ACalls P f (args.map (·.ev σ)) S (callK σ o.dst Q K)
 | .callv x args => match x.ev σ with
  | .fn f caps => ACalls P f (args.map (·.ev σ) ++ caps) S (callK σ o.dst Q K)
  | _ => False
 | .pan x => match x.ev σ with
  | .iface t y => Q (.pan (.iface t y)) σ S
  | _ => False
 | m => match m.eff σ S with
  | some (v, σ', S') => K (putD σ' o.dst v) S'
  | none => match m.val σ S with
   | some v => K (putD σ o.dst v) S
   | none => False
def RO.vc (P : Program) (o : RO) (Q : AX → (Nat → V) → St → Prop) (K : (Nat → V) → St → Prop) (σ : Nat → V) (S : St) : Prop :=
 match o.guard with
 | none => o.vc1 P Q K σ S
 | some (t, want) => match σ t with
  | .bool b => bif b == want then o.vc1 P Q K σ S else K (putD σ o.dst .undef) S
  | .tup _ => K (putD σ o.dst .undef) S
  | _ => False
def vcOps (P : Program) (Q : AX → (Nat → V) → St → Prop) : List RO → (Nat → V) → St → Prop
 | [], σ, S => Q .normal σ S
 | o :: r, σ, S => o.vc P Q (vcOps P Q r) σ S
def compCall (P : Program) : Op → Option M
 | .call { callee := .value (.func f), args := args, argTypes := _ } => if isGo P f then (compXs args.toList).map (.call f) else none
 | .call { callee := .value (.tmp t), args := args, argTypes := _ } => (compXs args.toList).map (.callv (.t t))
 | .panic x => (compX x).map .pan
 | _ => none
def takes (ops : List Oper) (rs : List Nat) (t : Nat) : Bool :=
 ops.any fun o => match o.op with
  | .call { callee := .builtin .append, args := args, argTypes := _ } => (match args.toList with
   | .tmp u :: _ => u == t
   | _ => false)
  | .assign (.tmp u) => u == t && (match o.dst with
   | some d => rs.contains d
   | none => false)
  | _ => false
def roMark : Nat := 1000000007
def roAt (rs : List Nat) (d : Option Nat) : Bool := rs.contains roMark || match d with
 | some d => rs.contains (roMark + 1 + d)
 | none => false
def compM (P : Program) (ops : List Oper) (rs : List Nat) (o : Oper) : Option M :=
 match o.op, o.dst with
 | .move x, some d => if takes ops rs d then (compX x).map .asg else (compX x).map .mv
 | op, _ => match compEff P (roAt rs o.dst) op with
  | some m => some m
  | none => match compPure P op with
   | some m => some m
   | none => compCall P op
def compGuard (ops : List Oper) : Option (Nat × Bool) → Option (Option (Nat × Bool))
 | none => some none
 | some (j, want) => match ops[j]? with
  | some o => match o.dst with
   | some t => some (some (t, want))
   | none => none
  | none => none
def compRO (P : Program) (ops : List Oper) (rs : List Nat) (o : Oper) : Option RO :=
 match compM P ops rs o, compGuard ops o.guard with
 | some m, some g => (match m, o.dst with
  | .st _ _ _, some _ => none
  | .st _ _ _, none => some { dst := none, m := m, guard := g }
  | .call _ _, d => some { dst := d, m := m, guard := g }
  | .callv _ _, d => some { dst := d, m := m, guard := g }
  | .mup _ _ _ _, some _ => none
  | .mup _ _ _ _, none => some { dst := none, m := m, guard := g }
  | .clr _ _ _, some _ => none
  | .clr _ _ _, none => some { dst := none, m := m, guard := g }
  | .pan _, d => some { dst := d, m := m, guard := g }
  | m, some d => some { dst := some d, m := m, guard := g }
  | _, none => none)
 | _, _ => none
def compROs (P : Program) (ops : List Oper) (rs : List Nat) : List Oper → Option (List RO)
 | [] => some []
 | o :: r => match compRO P ops rs o, compROs P ops rs r with
  | some x, some l => some (x :: l)
  | _, _ => none
def APost (g₀ : Gh) (w₀ : World) (N : Nat) (Q : AX → (Nat → V) → St → Prop) : Exit → Act → World → Prop
 | .normal, a, w => ∃ g σ S, Sim g₀ w₀ N g σ S a w ∧ Q .normal σ S
 | .exit id, a, w => ∃ g σ S, Sim g₀ w₀ N g σ S a w ∧ Q (.exit id) σ S
 | .ret, a, w => ∃ g σ S, Sim g₀ w₀ N g σ S a w ∧ Q .ret σ S
 | .panic chain, a, w => ∃ g σ S v val, Sim g₀ w₀ N g σ S a w ∧ chain = [{ v := val, recovered := false }] ∧ Rep g v val ∧ Q (.pan v) σ S
 | _, _, _ => False
section
variable {P : Program} {g₀ g : Gh} {w₀ : World} {N : Nat} {S : St} {w : World} {σ : Nat → V} {a : Act}
theorem Sim.putD (h : Sim g₀ w₀ N g σ S a w) {d : Option Nat} {x : V} {v : Value} (hd : ∀ k, d = some k → k < N) (hr : Rep g x v) (hg : x.isGr = false) :
  Sim g₀ w₀ N g (Pl.putD σ d x) S (a.put d v) w := by
 cases d with
 | none => exact h
 | some d => exact h.put (hd d rfl) hr hg
theorem Sim.called (h : Sim g₀ w₀ N g σ S a w) {g' : Gh} {w' : World} {S' : St} (hx : Ext g w g' w') (hs : SimW g' S' w') (hn : S.n ≤ S'.n ∧ S'.b = S.b) : Sim g₀ w₀ N g' σ S' a w' where
 ext := h.ext.trans hx
 sim := hs
 size := h.size
 dfr := h.dfr
 rep t := (h.rep t).mono hx.le
 claim t := by
  refine (h.claim t).step (fun b hb hlt hL => hx.block b hlt hL) (fun b k hb hlt hk => ?_) (fun i l b hlt hi => ?_)
  ·cases hm : g'.M b k with
   | none => rfl
   | some v =>
    rcases hx.newM b k v hm with h' | h'
    ·rw [hk] at h'; cases h'
    ·omega
  ·intro hi'
   rcases hx.newLoc i l b hi' with h' | h'
   ·exact hi h'
   ·omega
 sep := h.sep
 low := by have := h.low; omega
 none0 := h.none0
theorem Sim.returned (h : Sim g₀ w₀ N g σ S a w) {g' : Gh} {w' : World} {S' : St} (hx : Ext g w g' w') (hs : SimW g' S' w') (hn : S.n ≤ S'.n ∧ S'.b = S.b) {d : Option Nat} (hd : ∀ k, d = some k → k < N) {x : V} {v : Value}
  (hr : Rep g' x v) (hc : Claim g' w' w.heap.size x v) : Sim g₀ w₀ N g' (Pl.putD σ d x) S' (a.put d v) w' := by
 have h' := h.called hx hs hn
 cases d with
 | none => exact h'
 | some d =>
  refine h'.put' (hd d rfl) h'.ext h'.sim (.refl g') hr (fun _ _ c => c) ?_ (fun t b _ hb hb' => ?_)
  ·
   unfold Claim at *
   split at hc
   ·obtain ⟨⟨vals, h1, h2⟩, h3⟩ := hc
    refine ⟨⟨vals, h1, ?_⟩, h3⟩
    rcases h2 with h2 | ⟨gb, cap, cur, e1, e2, rest⟩
    ·exact .inl h2
    ·exact .inr ⟨gb, cap, cur, e1, Nat.le_trans h.ext.size e2, rest⟩
   ·trivial
  ·have h1 := (h.claim t).lt hb
   have h2 := hc.lt hb'
   omega
def Gh.at (g : Gh) (n : Nat) : Gh := { g with top := n }
theorem Le.at (g : Gh) (n : Nat) : Le g (g.at n) := ⟨fun _ _ _ h => h, fun _ _ _ h => h⟩
theorem SimW.at (h : SimW g S w) (n : Nat) : SimW (g.at n) S w where
 mem := h.mem
 box i l x hx := by
  obtain ⟨b, o, h1, h2, h3⟩ := h.box i l x hx
  exact ⟨b, o, h1, h2, h3.mono (Le.at g n)⟩
 inj := h.inj
 boxM := h.boxM
 locB := h.locB
 fresh := h.fresh
theorem Claim.at {base : Nat} {x : V} {v : Value} (h : Claim g w base x v) (n : Nat) : Claim (g.at n) w base x v :=
 h.step (fun _ _ _ _ => rfl) (fun _ _ _ _ hk => hk) (fun _ _ _ _ hi => hi)
theorem RepEnd.at {base : Nat} {ae : AE} {e : Ending} (h : RepEnd g w base ae e) (n : Nat) : RepEnd (g.at n) w base ae e := by
 cases ae <;> cases e <;> try exact h
 ·exact ⟨h.1.mono (Le.at g n), h.2.at n⟩
 ·obtain ⟨val, h1, h2⟩ := h
  exact ⟨val, h1, h2.mono (Le.at g n)⟩
theorem Ext.back {n : Nat} {g' : Gh} {w' : World} (h : Ext (g.at n) w g' w') (hn : g.top ≤ n) : Ext g w (g'.at g.top) w' where
 le := ⟨h.le.M, h.le.loc⟩
 os := h.os
 tape := h.tape
 output := h.output
 size := h.size
 block := h.block
 newLoc := h.newLoc
 newM := h.newM
 top := rfl
 newName i k hi hl := h.newName i k (Nat.lt_of_lt_of_le hi hn) hl
theorem Sim.low' (h : Sim g₀ w₀ N g σ S a w) : g.top ≤ S.n := by rw [h.ext.top]; have := h.low; omega
theorem reps_args {args : List Operand} {xs : List X} (hx : compXs args = some xs) (hr : ∀ t, Rep g (σ t) (a.tmps.getD t undef)) : Reps g (xs.map (·.ev σ)) (args.map a.eval).toArray := by
 have h := compXs_reps hx hr
 exact ⟨by simp [h.1], fun j y v hy hv => (h.2 j y v hy (by simpa using hv)).1⟩
theorem wp_enter {o : Oper} {f : FuncId} {vals : Array Value} {K : Act → World → Prop} {Q : Exit → Act → World → Prop} (hrun : (execOp a.eval o).run P w = .ok (.enter f vals) w)
  (h : Calls P f vals w fun
   | .returned v, w'' => K (a.put o.dst v) w''
   | .panicked chain, w'' => Q (.panic chain) a w''
   | .outgrown, _ => LetsOut Q) : o.wp P a w K Q := by
 unfold Oper.wp; rw [hrun]; exact h
theorem Base.at [ht : Tab P g₀ w₀] (hx : Ext g₀ w₀ g w) (n : Nat) : Base P (g.at n) w n := ⟨rfl, ⟨(ht.ext hx).is, (ht.ext hx).no⟩⟩
theorem call_ends [Tab P g₀ w₀] {o : Oper} (h : Sim g₀ w₀ N g σ S a w) (hd : ∀ k, o.dst = some k → k < N) {f : Nat} {args : List V} {vals : Array Value} {Q : AX → (Nat → V) → St → Prop} {K : (Nat → V) → St → Prop}
  {K' : Act → World → Prop} (hK : ∀ g σ S a w, Sim g₀ w₀ N g σ S a w → K σ S → K' a w) (hr : Reps g args vals)
  (hc : ACalls P f args S (callK σ o.dst Q K)) :
  Calls P f vals w fun
   | .returned v, w'' => K' (a.put o.dst v) w''
   | .panicked chain, w'' => APost g₀ w₀ N Q (.panic chain) a w''
   | .outgrown, _ => LetsOut (APost g₀ w₀ N Q) := by
 refine (hc.2 (g.at S.n) w vals (h.sim.at _) (Base.at h.ext _) (hr.mono (Le.at g _))).mono ?_
 rintro e w' ⟨g₁, S', ae, hx₁, hs₁, hn, he₁, hq⟩
 have hx := hx₁.back h.low'
 have hs : SimW (g₁.at g.top) S' w' := hs₁.at _
 have he : RepEnd (g₁.at g.top) w' w.heap.size ae e := he₁.at _
 generalize g₁.at g.top = g' at hx hs he
 cases ae with
 | ret v =>
  cases e with
  | returned val => exact hK _ _ _ _ _ (h.returned hx hs hn hd he.1 he.2) hq
  | panicked chain => exact he.elim
  | outgrown => exact he.elim
 | pan v =>
  cases e with
  | returned val => exact he.elim
  | panicked chain =>
   obtain ⟨val, rfl, hrep⟩ := he
   exact ⟨g', σ, S', v, val, h.called hx hs hn, rfl, hrep, hq⟩
  | outgrown => exact he.elim
theorem callFunc_run {f : Nat} (hf : isGo P f = true) (vals : Array Value) : (callFunc f vals).run P w = .ok (.enter f vals) w := by
 unfold isGo at hf
 split at hf
 ·rename_i fn hfn
  simp only [Bool.and_eq_true, bne_iff_ne, ne_eq] at hf
  obtain ⟨c, hb⟩ := Option.isSome_iff_exists.1 hf.2
  simp [callFunc, hfn, hf.1, hb]
 ·cases hf
end
end Go.Pl
end
