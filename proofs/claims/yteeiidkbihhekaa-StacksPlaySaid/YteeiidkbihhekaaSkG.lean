/- Stacks: a link more, in memory; what stays while memory grows. -/
import Derived.Test.YteeiidkbihhekaaSkE
set_option linter.unusedVariables false
set_option linter.unusedSimpArgs false
namespace Go.Proofs.Yteeiidkbihhekaa
open Go Go.RowKit Go.Maps Go.WideMaps
def linkUp (ns : List N) (i : Nat) (x : Int × Int) : List N := ns.modify i fun n => ⟨n.st, n.lv, n.lk ++ [x]⟩
theorem linkUp_len (ns : List N) (i : Nat) (x : Int × Int) : (linkUp ns i x).length = ns.length := List.length_modify ..
theorem linkUp_at (ns : List N) (j : Nat) (x : Int × Int) (i : Nat) (hi : i < (linkUp ns j x).length) (hi' : i < ns.length) : (linkUp ns j x)[i] = if i = j then ⟨(ns[i]).st, (ns[i]).lv, (ns[i]).lk ++ [x]⟩ else ns[i] := by
  have e : (linkUp ns j x)[i] = if j = i then (fun n : N => (⟨n.st, n.lv, n.lk ++ [x]⟩ : N)) ns[i] else ns[i] := List.getElem_modify (f := fun n : N => (⟨n.st, n.lv, n.lk ++ [x]⟩ : N)) (h := by simpa [linkUp] using hi')
  rw [e]
  by_cases h : j = i
  · rw [if_pos h, if_pos h.symm]
  · rw [if_neg h, if_neg (Ne.symm h)]
theorem idx_linkUp (x : Int × Int) : ∀ (ns : List N) (j : Nat) (a b : Int), idx (linkUp ns j x) a b = idx ns a b
  | [], j, a, b => by simp [linkUp]
  | n :: ns, 0, a, b => rfl
  | n :: ns, j + 1, a, b => by
    have ih := idx_linkUp x ns j a b
    show (if n.st = a ∧ n.lv = b then 1 else if idx (linkUp ns j x) a b = 0 then 0 else idx (linkUp ns j x) a b + 1) = _
    rw [ih]
    rfl
theorem rowsFrom_linkUp (x : Int × Int) : ∀ (ns : List N) (j : Nat) (k l : Int), rowsFrom k (linkUp ns j x) l = rowsFrom k ns l
  | [], j, k, l => by simp [linkUp]
  | n :: ns, 0, k, l => rfl
  | n :: ns, j + 1, k, l => by
    have ih := rowsFrom_linkUp x ns j (k + 1) l
    show (if n.lv = l then k :: rowsFrom (k + 1) (linkUp ns j x) l else rowsFrom (k + 1) (linkUp ns j x) l) = _
    rw [ih]
    rfl
theorem nodeCells_linkUp (x : Int × Int) (v : Value) : ∀ (ns : List N) (vs : List Value) (j : Nat), vs.length = ns.length → nodeCells (linkUp ns j x) (vs.set j v) = (nodeCells ns vs).set (j * 3 + 2) v
  | [], [], j, _ => by simp [linkUp, nodeCells]
  | [], _ :: _, j, h => by simp at h
  | _ :: _, [], j, h => by simp at h
  | n :: ns, u :: vs, 0, h => rfl
  | n :: ns, u :: vs, j + 1, h => by
    have ih := nodeCells_linkUp x v ns vs j (by simpa using h)
    show [Value.int .i64 n.st, .int .i64 n.lv, u] ++ nodeCells (linkUp ns j x) (vs.set j v) = ([Value.int .i64 n.st, .int .i64 n.lv, u] ++ nodeCells ns vs).set ((j + 1) * 3 + 2) v
    rw [ih, List.set_append_right _ _ (by simp; omega)]
    have : (j + 1) * 3 + 2 - [Value.int .i64 n.st, .int .i64 n.lv, u].length = j * 3 + 2 := by simp; omega
    rw [this]
theorem vAt_set (vs : List Value) (j : Nat) (v : Value) (i : Nat) (hj : j < vs.length) : vAt (vs.set j v) i = if i = j then v else vAt vs i := by
  unfold vAt
  rw [List.getD, List.getElem?_set, List.getD]
  by_cases h : j = i
  · subst h
    simp [hj]
  · simp [h, Ne.symm h]
theorem below_grow {w w' : World} (b : Below w.heap.size w w') (row : Option Nat) : w.grownBy w' row := ⟨b.os, b.tape, b.output, b.size, fun k hk _ => b.block k hk⟩
variable {w : World} {B g bm br p : Nat} {nv : Value} {vs : List Value} {ns : List N}
theorem StM.below {w' : World} (h : StM w B g nv bm br vs ns p) (b : Below w.heap.size w w') : StM w' B g nv bm br vs ns p := by
  have k : ∀ {k : Nat} {o : Obj}, w.heap[k]? = some o → w'.heap[k]? = some o := fun hk => (b.block _ (Array.getElem?_eq_some_iff.1 hk).1).trans hk
  obtain ⟨D, hm, hD⟩ := h.by_
  obtain ⟨G, hg, hG⟩ := h.rows
  obtain ⟨es, cl, hbm⟩ := ownsMap_block hm
  exact ⟨k h.hd, h.gB, h.mB, h.rB, h.mr, h.len, ownsRow_heap h.nod (fun _ _ hk _ => k hk), fun i hi => ownsRow_heap (h.lks i hi) (fun _ _ hk _ => k hk), h.apart, ⟨D, ownsMap_heap hm ((k hbm).trans hbm.symm), hD⟩, ⟨G, hg.kept (below_grow b none) (by simp) (groups_off hg (by intro j cur e; cases e)), hG⟩, h.wf, h.few, h.lkp⟩
theorem StM.mono {q : Nat} (h : StM w B g nv bm br vs ns p) (hq : p ≤ q) : StM w B g nv bm br vs ns q :=
  ⟨h.hd, h.gB, h.mB, h.rB, h.mr, h.len, h.nod, h.lks, h.apart, h.by_, h.rows, h.wf, h.few, fun n hn => Nat.le_trans (h.lkp n hn) hq⟩
/-- what a call does to blocks that the stacks shun: nothing -/
def Turn (w : World) (g bm br : Nat) (nv : Value) (vs : List Value) (w' : World) (nv' : Value) (vs' : List Value) : Prop :=
  ∀ No : Nat → Prop, (∀ k, No k → k < w.heap.size) → Off No w g bm br nv vs → Off No w' g bm br nv' vs' ∧ ∀ k, No k → w'.heap[k]? = w.heap[k]?
theorem StM.brlt (h : StM w B g nv bm br vs ns p) : br < w.heap.size := by
  obtain ⟨G, hg, _⟩ := h.rows
  obtain ⟨es, cl, hb⟩ := ownsGroups_block hg
  exact (Array.getElem?_eq_some_iff.1 hb).1
theorem Turn.below {w' : World} (h : StM w B g nv bm br vs ns p) (b : Below w.heap.size w w') : Turn w g bm br nv vs w' nv vs := fun No hN off =>
  ⟨⟨off.hd, off.bm_, off.br_, off.nv_, off.vs_, shuns_heap (b.block _ h.brlt) off.rows⟩, fun k hk => b.block k (hN k hk)⟩
theorem Turn.trans {w1 w2 : World} {nv1 nv2 : Value} {vs1 vs2 : List Value} (h : Turn w g bm br nv vs w1 nv1 vs1) (hs : w.heap.size ≤ w1.heap.size) (k : Turn w1 g bm br nv1 vs1 w2 nv2 vs2) : Turn w g bm br nv vs w2 nv2 vs2 := fun No hN off => by
  obtain ⟨o1, e1⟩ := h No hN off
  obtain ⟨o2, e2⟩ := k No (fun j hj => Nat.lt_of_lt_of_le (hN j hj) hs) o1
  exact ⟨o2, fun j hj => (e2 j hj).trans (e1 j hj)⟩
theorem StM.linked {w6 : World} {a cap j : Nat} (h : StM w B g (.slice (some ⟨a, 0, none⟩) ns.length cap) bm br vs ns p) (hj : j < ns.length) (x : Int × Int) {v' : Value}
    (hg : w.grownBy w6 (vAt vs j).ownBlock) (hown : w6.ownsRow B 46 2 v' ((ns[j]).lk.length + 1) (lkCells ((ns[j]).lk ++ [x]))) (hloc : v'.ownBlock = (vAt vs j).ownBlock ∨ ∃ k, v'.ownBlock = some k ∧ w.heap.size ≤ k) (h1 : v'.oneCell' = true) :
    StM (w6.setCell ⟨a, j * 3 + 2, none⟩ v') B g (.slice (some ⟨a, 0, none⟩) ns.length cap) bm br (vs.set j v') (linkUp ns j x) (p + 1) ∧ Below B w (w6.setCell ⟨a, j * 3 + 2, none⟩ v') ∧
    Turn w g bm br (.slice (some ⟨a, 0, none⟩) ns.length cap) vs (w6.setCell ⟨a, j * 3 + 2, none⟩ v') (.slice (some ⟨a, 0, none⟩) ns.length cap) (vs.set j v') := by
  have hlk := h.lks j hj
  have typ : ∀ k, (vAt vs j).ownBlock = some k → ∃ cur, w.heap[k]? = some (.cells cur 46 (0, 0)) := by
    intro k hk
    rcases hlk.2 with ⟨hv, _⟩ | ⟨g', cap'', cur, hv, _, hg', _⟩
    · rw [hv] at hk
      simp [Value.ownBlock] at hk
    · rw [hv] at hk
      have : g' = k := by simpa [Value.ownBlock] using hk
      subst this
      exact ⟨cur, hg'⟩
  obtain ⟨a', cap', hv, hB', hlt, hcap, _, cur, hcur, hcs⟩ := own_cells h.nod (by omega)
  cases hv
  have k6 : ∀ {k : Nat} {o : Obj}, w.heap[k]? = some o → (∀ cur, o ≠ .cells cur 46 (0, 0)) → w6.heap[k]? = some o := fun hk hne =>
    (hg.block _ (Array.getElem?_eq_some_iff.1 hk).1 (by intro e; obtain ⟨c, hc⟩ := typ _ e.symm; rw [hk] at hc; cases hc; exact hne _ rfl)).trans hk
  have k7 : ∀ {k : Nat} {o : Obj}, w6.heap[k]? = some o → k ≠ a → (w6.setCell ⟨a, j * 3 + 2, none⟩ v').heap[k]? = some o := fun hk hne => (Below.heap_setCell w6 ⟨a, j * 3 + 2, none⟩ v' _ hne).trans hk
  have hlen := h.len
  have hn : (linkUp ns j x).length = ns.length := linkUp_len ns j x
  obtain ⟨D, hm, hD⟩ := h.by_
  obtain ⟨G, hgr, hG⟩ := h.rows
  obtain ⟨es, cl, hbm⟩ := ownsMap_block hm
  obtain ⟨er, cr, hbr⟩ := ownsGroups_block hgr
  have ag : g ≠ a := by rintro rfl; rw [h.hd] at hcur; cases hcur
  have abm : bm ≠ a := by rintro rfl; rw [hbm] at hcur; cases hcur
  have abr : br ≠ a := by rintro rfl; rw [hbr] at hcur; cases hcur
  have hgr6 := hgr.kept hg (by intro e; obtain ⟨c, hc⟩ := typ br e.symm; rw [hbr] at hc; cases hc) (groups_off hgr (by intro k cur e hc; obtain ⟨c, hc'⟩ := typ k e; rw [hc] at hc'; cases hc'))
  have hcur6 := k6 hcur (by intro c e; cases e)
  have hgr7 := hgr6.kept (grown_set w6 ⟨a, j * 3 + 2, none⟩ v') (by intro e; exact abr (by simpa using e)) (groups_off hgr6 (by intro k c e hc; cases e; rw [hcur6] at hc; cases hc))
  have low6 : Below B w w6 := (Below.refl B w).grown hg (Nat.le_trans hB' (Nat.le_of_lt hlt)) (fun k hk => (hlk.lt k hk).1)
  refine ⟨⟨k7 (k6 h.hd (by intro c e; cases e)) ag, h.gB, h.mB, h.rB, h.mr, by simp [hn, hlen], ?_, ?_, ?_, ⟨D, ?_, hD.1, ?_⟩, ⟨G, by rw [hn]; exact hgr7, hG.1, ?_⟩, ?_, by rw [hn]; exact h.few, ?_⟩, low6.setCell (p := ⟨a, j * 3 + 2, none⟩) hB' v', ?_⟩
  · rw [hn, nodeCells_linkUp x v' ns vs j hlen]
    have h6 : w6.ownsRow B 81 3 (.slice (some ⟨a, 0, none⟩) ns.length cap) ns.length (nodeCells ns vs) := ownsRow_heap h.nod (fun k c hk _ => k6 hk (by intro c' e; cases e))
    exact (h6.stored (j * 3 + 2) v').1
  · intro i hi
    have hi' : i < ns.length := by rw [hn] at hi; exact hi
    rw [linkUp_at ns j x i hi hi', vAt_set vs j v' i (by omega)]
    by_cases e : i = j
    · subst e
      simp only [if_true, List.length_append, List.length_singleton]
      refine ownsRow_heap hown (fun k c hk _ => k7 hk ?_)
      rintro rfl
      rw [hcur6] at hk
      cases hk
    · rw [if_neg e, if_neg e]
      have h6 := (h.lks i hi').kept hg (h.apart i j hi' hj e)
      refine ownsRow_heap h6 (fun k c hk _ => k7 hk ?_)
      rintro rfl
      rw [hcur6] at hk
      cases hk
  · intro i k hi hk hne
    rw [hn] at hi hk
    have old : ∀ i, i < ns.length → i ≠ j → (vAt vs i).ownBlock = none ∨ (vAt vs i).ownBlock ≠ v'.ownBlock := by
      intro i hi hij
      rcases h.apart i j hi hj hij with h0 | h0
      · exact Or.inl h0
      · cases ho : (vAt vs i).ownBlock with
        | none => exact Or.inl rfl
        | some q =>
          refine Or.inr (fun e => ?_)
          rcases hloc with h2 | ⟨q', h2, h3⟩
          · exact h0 (by rw [ho, e, h2])
          · rw [h2] at e
            cases e
            have := ((h.lks i hi).lt q ho).2
            omega
    rw [vAt_set vs j v' i (by omega), vAt_set vs j v' k (by omega)]
    by_cases e : i = j
    · rw [if_pos e]
      by_cases e' : k = j
      · exact absurd (e.trans e'.symm) hne
      · rw [if_neg e']
        rcases old k hk e' with h0 | h0
        · rw [h0]
          cases v'.ownBlock <;> simp
        · exact Or.inr (Ne.symm h0)
    · rw [if_neg e]
      by_cases e' : k = j
      · rw [if_pos e']
        exact old i hi e
      · rw [if_neg e']
        exact h.apart i k hi hk hne
  · rw [hn]
    exact ownsMap_heap hm ((k7 (k6 hbm (by intro c e; cases e)) abm).trans hbm.symm)
  · intro c d wc wd
    rw [hD.2 c d wc wd, idx_linkUp]
  · intro l wl
    rw [hG.2 l wl, rowsFrom_linkUp]
  · intro n hmem
    obtain ⟨i, hi, rfl⟩ := List.getElem_of_mem hmem
    have hi' : i < ns.length := by rw [hn] at hi; exact hi
    rw [linkUp_at ns j x i hi hi']
    have := h.wf _ (List.getElem_mem hi')
    split <;> exact this
  · intro n hmem
    obtain ⟨i, hi, rfl⟩ := List.getElem_of_mem hmem
    have hi' : i < ns.length := by rw [hn] at hi; exact hi
    rw [linkUp_at ns j x i hi hi']
    have := h.lkp _ (List.getElem_mem hi')
    split
    · simp only [List.length_append, List.length_singleton]
      omega
    · omega
  · intro No hN off
    have s6 : ∀ k, No k → w6.heap[k]? = w.heap[k]? := fun k hk => hg.block k (hN k hk) (fun e => off.vs_ j k e.symm hk)
    have an : ¬ No a := off.nv_ a rfl
    have s7 : ∀ k, No k → (w6.setCell ⟨a, j * 3 + 2, none⟩ v').heap[k]? = w.heap[k]? := fun k hk => (Below.heap_setCell w6 ⟨a, j * 3 + 2, none⟩ v' k (by rintro rfl; exact an hk)).trans (s6 k hk)
    refine ⟨⟨off.hd, off.bm_, off.br_, off.nv_, ?_, shuns_heap ((k7 (k6 hbr (by intro c e; cases e)) abr).trans hbr.symm) off.rows⟩, s7⟩
    intro i k hk
    rw [vAt_set vs j v' i (by omega)] at hk
    split at hk
    · rcases hloc with h2 | ⟨q, h2, h3⟩
      · exact off.vs_ j k (h2.symm.trans hk)
      · rw [h2] at hk
        cases hk
        intro hno
        have := hN _ hno
        omega
    · exact off.vs_ i k hk
end Go.Proofs.Yteeiidkbihhekaa
