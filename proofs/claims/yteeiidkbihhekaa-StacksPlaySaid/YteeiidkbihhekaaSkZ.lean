/- The reference's stacks: Push. -/
import Derived.Test.YteeiidkbihhekaaSkY
import Derived.Deep.DeepCutAuto
set_option linter.unusedVariables false
set_option linter.unusedSimpArgs false
namespace Go.Proofs.Yteeiidkbihhekaa
open Go Go.RowKit
variable {w : World} {S r p : Nat} {nv : Value} {vs : List Value} {ns : List N}
/-- what a call does beside the reference's blocks: nothing -/
structure RFr (w w' : World) (S r : Nat) (nv : Value) (vs : List Value) (nv' : Value) (vs' : List Value) : Prop where
  low : Below S w w'
  off : ∀ k, k < w.heap.size → ¬ RSet r nv vs k → w'.heap[k]? = w.heap[k]?
  set : ∀ k, RSet r nv' vs' k → RSet r nv vs k ∨ w.heap.size ≤ k
theorem RFr.refl (w : World) (S r : Nat) (nv : Value) (vs : List Value) : RFr w w S r nv vs nv vs := ⟨Below.refl _ _, fun _ _ _ => rfl, fun _ h => .inl h⟩
theorem RFr.trans {a b c : World} {nv1 nv2 : Value} {vs1 vs2 : List Value} (h : RFr a b S r nv vs nv1 vs1) (k : RFr b c S r nv1 vs1 nv2 vs2) : RFr a c S r nv vs nv2 vs2 :=
  ⟨h.low.trans k.low, fun q hq hn => (k.off q (Nat.lt_of_lt_of_le hq h.low.size) (fun h1 => by
    rcases h.set q h1 with h2 | h2
    · exact hn h2
    · omega)).trans (h.off q hq hn), fun q hq => by
    rcases k.set q hq with h1 | h1
    · exact h.set q h1
    · exact .inr (Nat.le_trans h.low.size h1)⟩
theorem RFr.of_below {w w' : World} {S r : Nat} (nv : Value) (vs : List Value) (hS : S ≤ w.heap.size) (b : Below w.heap.size w w') : RFr w w' S r nv vs nv vs := ⟨b.mono hS, fun k hk _ => b.block k hk, fun _ h => .inl h⟩
theorem RM.low (h : RM w S r nv vs ns p) : S ≤ w.heap.size := Nat.le_trans h.rS (Nat.le_of_lt (Array.getElem?_eq_some_iff.1 h.hd).1)
/-- a node more -/
theorem RM.made {w6 : World} {nv' : Value} {a b : Int} (h : RM w S r nv vs ns p) (hg : w.grownBy w6 nv.ownBlock) (hown : w6.ownsRow S 67 3 nv' (ns.length + 1) (nodeCells ns vs ++ [.int .i64 a, .int .i64 b, .slice none 0 0]))
    (hat : nv'.ownBlock = nv.ownBlock ∨ nv'.ownBlock = some w.heap.size) :
    RM (w6.setCell ⟨r, 0, none⟩ nv') S r nv' (vs ++ [.slice none 0 0]) (ns ++ [⟨a, b, []⟩]) p ∧ RFr w (w6.setCell ⟨r, 0, none⟩ nv') S r nv vs nv' (vs ++ [.slice none 0 0]) := by
  have hlen := h.len
  have hn : (ns ++ [(⟨a, b, []⟩ : N)]).length = ns.length + 1 := by simp
  have hr6 := kept_block h.nod hg h.hd (by intro cur e; cases e)
  have k6 : ∀ {k : Nat} {o : Obj}, w.heap[k]? = some o → (∀ cur, o ≠ .cells cur 67 (0, 0)) → w6.heap[k]? = some o := fun hk hne => kept_block h.nod hg hk hne
  have k7 : ∀ {k : Nat} {o : Obj}, w6.heap[k]? = some o → k ≠ r → (w6.setCell ⟨r, 0, none⟩ nv').heap[k]? = some o := fun hk hne => (Below.heap_setCell w6 ⟨r, 0, none⟩ nv' _ hne).trans hk
  have ner : ∀ {k : Nat} {cur : Array Value} {t : TypeId}, w6.heap[k]? = some (.cells cur t (0, 0)) → t ≠ 63 → k ≠ r := by
    intro k cur t hk ht e
    subst e
    rw [hr6] at hk
    cases hk
    exact ht rfl
  refine ⟨⟨Joins.block_setCell (i := 0) hr6 nv', h.rS, by simp [hlen], ?_, ?_, ?_, ?_⟩, ⟨?_, ?_, ?_⟩⟩
  · rw [nodeCells_snoc _ _ _ _ hlen, hn]
    exact ownsRow_heap hown (fun k c hk _ => k7 hk (ner hk (by decide)))
  · intro i hi
    rw [vAt_snoc]
    by_cases h1 : i < ns.length
    · rw [if_pos (by omega)]
      simp only [List.getElem_append_left h1]
      exact ownsRow_heap (h.lks i h1) (fun k c hk _ => by
        have := k6 hk (by intro cur e; cases e)
        exact k7 this (ner this (by decide)))
    · have : i = ns.length := by simp at hi; omega
      subst this
      rw [if_neg (by omega), if_pos hlen.symm]
      simp only [List.getElem_append_right (Nat.le_refl _), Nat.sub_self, List.getElem_singleton]
      exact own_nil _ _ _ _
  · intro i j hi hj hne
    rw [hn] at hi hj
    rw [vAt_snoc, vAt_snoc]
    by_cases h1 : i < ns.length
    · rw [if_pos (by omega)]
      by_cases h2 : j < ns.length
      · rw [if_pos (by omega)]
        exact h.apart i j h1 h2 hne
      · rw [if_neg (by omega), if_pos (by omega)]
        cases (vAt vs i).ownBlock <;> simp [Value.ownBlock]
    · rw [if_neg (by omega), if_pos (by omega)]
      exact Or.inl rfl
  · intro n hmem
    rcases List.mem_append.1 hmem with h1 | h1
    · exact h.lkp n h1
    · simp at h1
      subst h1
      simp
  · exact (((Below.refl S w).grown hg h.low (fun k hk => (h.nod.lt k hk).1)).setCell (p := ⟨r, 0, none⟩) h.rS nv')
  · intro k hk hn
    exact (Below.heap_setCell w6 ⟨r, 0, none⟩ nv' k (fun e => hn (.inl e))).trans (hg.block k hk (fun e => hn (.inr (.inl e.symm))))
  · intro k hk
    rcases hk with rfl | hk | ⟨i, hk⟩
    · exact .inl (.inl rfl)
    · rcases hat with e | e
      · exact .inl (.inr (.inl (e ▸ hk)))
      · rw [e] at hk
        cases hk
        exact .inr (Nat.le_refl _)
    · rw [vAt_snoc] at hk
      split at hk
      · exact .inl (.inr (.inr ⟨i, hk⟩))
      · split at hk <;> simp [Value.ownBlock] at hk
/-- a link more -/
theorem RM.linked {w6 : World} {a cap j : Nat} (h : RM w S r (.slice (some ⟨a, 0, none⟩) ns.length cap) vs ns p) (hj : j < ns.length) (x : Int × Int) {v' : Value}
    (hg : w.grownBy w6 (vAt vs j).ownBlock) (hown : w6.ownsRow S 46 2 v' ((ns[j]).lk.length + 1) (lkCells ((ns[j]).lk ++ [x]))) (hloc : v'.ownBlock = (vAt vs j).ownBlock ∨ ∃ k, v'.ownBlock = some k ∧ w.heap.size ≤ k) :
    RM (w6.setCell ⟨a, j * 3 + 2, none⟩ v') S r (.slice (some ⟨a, 0, none⟩) ns.length cap) (vs.set j v') (linkUp ns j x) (p + 1) ∧
    RFr w (w6.setCell ⟨a, j * 3 + 2, none⟩ v') S r (.slice (some ⟨a, 0, none⟩) ns.length cap) vs (.slice (some ⟨a, 0, none⟩) ns.length cap) (vs.set j v') := by
  have hlk := h.lks j hj
  have hlen := h.len
  have hn : (linkUp ns j x).length = ns.length := linkUp_len ns j x
  obtain ⟨a', cap', hv, hB', hlt, hcap, _, cur, hcur, hcs⟩ := own_cells h.nod (by omega)
  cases hv
  have k6 : ∀ {k : Nat} {o : Obj}, w.heap[k]? = some o → (∀ cur, o ≠ .cells cur 46 (0, 0)) → w6.heap[k]? = some o := fun hk hne => kept_block hlk hg hk hne
  have k7 : ∀ {k : Nat} {o : Obj}, w6.heap[k]? = some o → k ≠ a → (w6.setCell ⟨a, j * 3 + 2, none⟩ v').heap[k]? = some o := fun hk hne => (Below.heap_setCell w6 ⟨a, j * 3 + 2, none⟩ v' _ hne).trans hk
  have hcur6 := k6 hcur (by intro c e; cases e)
  have ag : r ≠ a := by rintro rfl; rw [h.hd] at hcur; cases hcur
  have low6 : Below S w w6 := (Below.refl S w).grown hg h.low (fun k hk => (hlk.lt k hk).1)
  refine ⟨⟨k7 (k6 h.hd (by intro c e; cases e)) ag, h.rS, by simp [hn, hlen], ?_, ?_, ?_, ?_⟩, ⟨low6.setCell (p := ⟨a, j * 3 + 2, none⟩) hB' v', ?_, ?_⟩⟩
  · rw [hn, nodeCells_linkUp x v' ns vs j hlen]
    have h6 : w6.ownsRow S 67 3 (.slice (some ⟨a, 0, none⟩) ns.length cap) ns.length (nodeCells ns vs) := ownsRow_heap h.nod (fun k c hk _ => k6 hk (by intro c' e; cases e))
    exact (h6.stored (j * 3 + 2) v').1
  · intro i hi
    have hi' : i < ns.length := by rw [hn] at hi; exact hi
    rw [linkUp_at ns j x i hi hi', vAt_set vs j v' i (by omega)]
    by_cases e : i = j
    · subst e
      simp only [if_true, List.length_append, List.length_singleton]
      refine ownsRow_heap hown (fun k c hk _ => k7 hk ?_)
      rintro rfl
      rw [hcur6] at hk
      cases hk
    · rw [if_neg e, if_neg e]
      have h6 := (h.lks i hi').kept hg (h.apart i j hi' hj e)
      refine ownsRow_heap h6 (fun k c hk _ => k7 hk ?_)
      rintro rfl
      rw [hcur6] at hk
      cases hk
  · intro i k hi hk hne
    rw [hn] at hi hk
    have old : ∀ i, i < ns.length → i ≠ j → (vAt vs i).ownBlock = none ∨ (vAt vs i).ownBlock ≠ v'.ownBlock := by
      intro i hi hij
      rcases h.apart i j hi hj hij with h0 | h0
      · exact Or.inl h0
      · cases ho : (vAt vs i).ownBlock with
        | none => exact Or.inl rfl
        | some q =>
          refine Or.inr (fun e => ?_)
          rcases hloc with h2 | ⟨q', h2, h3⟩
          · exact h0 (by rw [ho, e, h2])
          · rw [h2] at e
            cases e
            have := ((h.lks i hi).lt q ho).2
            omega
    rw [vAt_set vs j v' i (by omega), vAt_set vs j v' k (by omega)]
    by_cases e : i = j
    · rw [if_pos e]
      by_cases e' : k = j
      · exact absurd (e.trans e'.symm) hne
      · rw [if_neg e']
        exact off_none (old k hk e')
    · rw [if_neg e]
      by_cases e' : k = j
      · rw [if_pos e']
        exact old i hi e
      · rw [if_neg e']
        exact h.apart i k hi hk hne
  · intro n hmem
    obtain ⟨i, hi, rfl⟩ := List.getElem_of_mem hmem
    have hi' : i < ns.length := by rw [hn] at hi; exact hi
    rw [linkUp_at ns j x i hi hi']
    have := h.lkp _ (List.getElem_mem hi')
    split
    · simp only [List.length_append, List.length_singleton]
      omega
    · omega
  · intro k hk hno
    exact (Below.heap_setCell w6 ⟨a, j * 3 + 2, none⟩ v' k (fun e => hno (.inr (.inl (by rw [e]; rfl))))).trans (hg.block k hk (fun e => hno (.inr (.inr ⟨j, e.symm⟩))))
  · intro k hk
    rcases hk with rfl | hk | ⟨i, hk⟩
    · exact .inl (.inl rfl)
    · exact .inl (.inr (.inl hk))
    · rw [vAt_set vs j v' i (by omega)] at hk
      split at hk
      · rcases hloc with h2 | ⟨q, h2, h3⟩
        · exact .inl (.inr (.inr ⟨j, h2 ▸ hk⟩))
        · rw [h2] at hk
          cases hk
          exact .inr h3
      · exact .inl (.inr (.inr ⟨i, hk⟩))
end Go.Proofs.Yteeiidkbihhekaa
