/- The reference's search: what it computes; ways in memory that grow in place. -/
import Derived.Test.YteeiidkbihhekaaSkU
import Derived.Test.YteeiidkbihhekaaSkZ1
set_option linter.unusedVariables false
set_option linter.unusedSimpArgs false
namespace Go.Proofs.Yteeiidkbihhekaa
open Go Go.RowKit
def rLoop (f : Nat → Bool → List Wy) (n : Nat) (nd lk : Int) (used : Bool) : Nat → List (Int × Int) → List Wy → List Wy
  | _, [], out => out
  | i, l :: ls, out => if out.length ≤ 4096 then rLoop f n nd lk used (i + 1) ls (out ++ (f l.1.toNat (used || (decide ((n : Int) = nd) && decide ((i : Int) = lk)))).map (addT l.2)) else out
def downR (ns : List N) (nd lk : Int) : Nat → Nat → Bool → List Wy
  | 0, n, used => if used = true then [((n : Int), [])] else []
  | k + 1, n, used => rLoop (downR ns nd lk k) n nd lk used 0 (lkOf ns n) []
theorem downR_all (ns : List N) (nd lk : Int) : ∀ (k n : Nat) (used : Bool), (nd < 0 → used = true) →
    ((allW ns nd lk k n used).length ≤ 4096 → downR ns nd lk k n used = allW ns nd lk k n used) ∧ (4096 < (allW ns nd lk k n used).length → 4096 < (downR ns nd lk k n used).length)
  | 0, n, used, hu => by
    have e1 : downR ns nd lk 0 n used = if used = true then [((n : Int), [])] else [] := rfl
    have e2 : allW ns nd lk 0 n used = if nd < 0 ∨ used = true then [((n : Int), [])] else [] := rfl
    rw [e1, e2]
    by_cases h : used = true
    · rw [if_pos h, if_pos (Or.inr h)]
      exact ⟨fun _ => rfl, fun h => h⟩
    · rw [if_neg h, if_neg (fun h1 => h (h1.elim hu id))]
      exact ⟨fun _ => rfl, fun h => h⟩
  | k + 1, n, used, hu => by
    have go : ∀ (ls : List (Int × Int)) (i : Nat) (out : List Wy),
        (out.length + (allL (allW ns nd lk k) n nd lk used i ls).length ≤ 4096 → rLoop (downR ns nd lk k) n nd lk used i ls out = out ++ allL (allW ns nd lk k) n nd lk used i ls) ∧
        (4096 < out.length + (allL (allW ns nd lk k) n nd lk used i ls).length → 4096 < (rLoop (downR ns nd lk k) n nd lk used i ls out).length) := by
      intro ls
      induction ls with
      | nil => exact fun i out => ⟨fun _ => by simp [rLoop, allL], fun h => by simpa [rLoop, allL] using h⟩
      | cons l ls ih =>
        intro i out
        have hd := downR_all ns nd lk k l.1.toNat (used || (decide ((n : Int) = nd) && decide ((i : Int) = lk))) (fun h => by rw [hu h, Bool.true_or])
        have eL : allL (allW ns nd lk k) n nd lk used i (l :: ls) = (allW ns nd lk k l.1.toNat (used || (decide ((n : Int) = nd) && decide ((i : Int) = lk)))).map (addT l.2) ++ allL (allW ns nd lk k) n nd lk used (i + 1) ls := rfl
        have eR : rLoop (downR ns nd lk k) n nd lk used i (l :: ls) out = if out.length ≤ 4096 then rLoop (downR ns nd lk k) n nd lk used (i + 1) ls (out ++ (downR ns nd lk k l.1.toNat (used || (decide ((n : Int) = nd) && decide ((i : Int) = lk)))).map (addT l.2)) else out := rfl
        rw [eL, eR]
        generalize allW ns nd lk k l.1.toNat (used || (decide ((n : Int) = nd) && decide ((i : Int) = lk))) = W at *
        generalize downR ns nd lk k l.1.toNat (used || (decide ((n : Int) = nd) && decide ((i : Int) = lk))) = D at *
        rw [List.length_append, List.length_map]
        by_cases ho : out.length ≤ 4096
        · rw [if_pos ho]
          have h2 := ih (i + 1) (out ++ D.map (addT l.2))
          rw [List.length_append, List.length_map] at h2
          by_cases hW : W.length ≤ 4096
          · have e := hd.1 hW
            subst e
            exact ⟨fun h => by rw [h2.1 (by omega), List.append_assoc], fun h => h2.2 (by omega)⟩
          · have := hd.2 (by omega)
            exact ⟨fun h => by omega, fun h => h2.2 (by omega)⟩
        · rw [if_neg ho]
          exact ⟨fun h => by omega, fun _ => by omega⟩
    have := go (lkOf ns n) 0 []
    simp only [List.length_nil, Nat.zero_add, List.nil_append] at this
    exact this
theorem rLoop_len {f : Nat → Bool → List Wy} {n : Nat} {nd lk : Int} {used : Bool} {B : Nat} (hf : ∀ m u, (f m u).length ≤ B) : ∀ (ls : List (Int × Int)) (i : Nat) (out : List Wy), out.length ≤ 4096 + B → (rLoop f n nd lk used i ls out).length ≤ 4096 + B
  | [], i, out, h => h
  | l :: ls, i, out, h => by
    show (if out.length ≤ 4096 then rLoop f n nd lk used (i + 1) ls (out ++ (f l.1.toNat _).map (addT l.2)) else out).length ≤ _
    split
    · refine rLoop_len hf ls (i + 1) _ ?_
      rw [List.length_append, List.length_map]
      have := hf l.1.toNat (used || (decide ((n : Int) = nd) && decide ((i : Int) = lk)))
      omega
    · exact h
theorem downR_len (ns : List N) (nd lk : Int) : ∀ (k n : Nat) (used : Bool), (downR ns nd lk k n used).length ≤ 4096 * k + 1
  | 0, n, used => by
    have e1 : downR ns nd lk 0 n used = if used = true then [((n : Int), [])] else [] := rfl
    rw [e1]
    split <;> simp
  | k + 1, n, used => by
    have := rLoop_len (n := n) (nd := nd) (lk := lk) (used := used) (B := 4096 * k + 1) (fun m u => downR_len ns nd lk k m u) (lkOf ns n) 0 [] (by simp)
    show (rLoop (downR ns nd lk k) n nd lk used 0 (lkOf ns n) []).length ≤ _
    omega
theorem rLoop_things {f : Nat → Bool → List Wy} {n : Nat} {nd lk : Int} {used : Bool} {k : Nat} (hf : ∀ m u, ∀ y ∈ f m u, y.2.length = k) : ∀ (ls : List (Int × Int)) (i : Nat) (out : List Wy), (∀ y ∈ out, y.2.length = k + 1) → ∀ y ∈ rLoop f n nd lk used i ls out, y.2.length = k + 1
  | [], i, out, h => h
  | l :: ls, i, out, h => by
    show ∀ y ∈ (if out.length ≤ 4096 then rLoop f n nd lk used (i + 1) ls (out ++ (f l.1.toNat _).map (addT l.2)) else out), y.2.length = k + 1
    split
    · refine rLoop_things hf ls (i + 1) _ (fun y hy => ?_)
      rcases List.mem_append.1 hy with h1 | h1
      · exact h y h1
      · obtain ⟨z, hz, rfl⟩ := List.mem_map.1 h1
        have := hf _ _ z hz
        simp [addT, this]
    · exact h
theorem downR_things (ns : List N) (nd lk : Int) : ∀ (k n : Nat) (used : Bool), ∀ y ∈ downR ns nd lk k n used, y.2.length = k
  | 0, n, used, y, hy => by
    have e1 : downR ns nd lk 0 n used = if used = true then [((n : Int), [])] else [] := rfl
    rw [e1] at hy
    split at hy
    · simp at hy
      subst hy
      rfl
    · simp at hy
  | k + 1, n, used, y, hy => rLoop_things (fun m u => downR_things ns nd lk k m u) (lkOf ns n) 0 [] (fun y hy => absurd hy (by simp)) y hy
/-- ways in rows from block S on; no two share a block -/
structure WA (w : World) (S : Nat) (v : Value) (us : List Value) (out : List Wy) : Prop where
  wm : WaysM w S v us out
  apart : ∀ i j, i < out.length → j < out.length → i ≠ j → (vAt us i).ownBlock = none ∨ (vAt us i).ownBlock ≠ (vAt us j).ownBlock
theorem WA.nil (w : World) (S : Nat) : WA w S (.slice none 0 0) [] [] := ⟨WaysM.nil w S, fun i j hi => absurd hi (by simp)⟩
variable {w : World} {S : Nat} {v : Value} {us : List Value} {out : List Wy}
theorem WA.below {w' : World} (h : WA w S v us out) (b : Below w.heap.size w w') : WA w' S v us out := ⟨h.wm.below b, h.apart⟩
theorem WaysM.mono {C : Nat} (h : WaysM w S v us out) (hC : C ≤ S) : WaysM w C v us out := ⟨h.len, own_mono h.outr hC, fun i hi => own_mono (h.ways i hi) hC⟩
theorem wayCells_set (o : Int) (u : Value) : ∀ (ys : List Wy) (us : List Value) (k : Nat) (hk : k < ys.length), us.length = ys.length → wayCells (ys.set k (addT o ys[k])) (us.set k u) = (wayCells ys us).set (k * 2 + 1) u
  | [], us, k, hk, _ => absurd hk (by simp)
  | y :: ys, [], k, _, h => by simp at h
  | y :: ys, t :: us, 0, _, h => rfl
  | y :: ys, t :: us, k + 1, hk, h => by
    have ih := wayCells_set o u ys us k (by simpa using hk) (by simpa using h)
    show [Value.int .i64 y.1, t] ++ wayCells (ys.set k (addT o (ys[k]'(by simpa using hk)))) (us.set k u) = ([Value.int .i64 y.1, t] ++ wayCells ys us).set ((k + 1) * 2 + 1) u
    rw [ih, List.set_append_right _ _ (by simp; omega)]
    have : (k + 1) * 2 + 1 - [Value.int .i64 y.1, t].length = k * 2 + 1 := by simp; omega
    rw [this]
/-- a thing more behind one way, in place -/
theorem WA.ext {w6 : World} {a cap k : Nat} {o : Int} {u' : Value} (h : WA w S (.slice (some ⟨a, 0, none⟩) out.length cap) us out) (hSw : S ≤ w.heap.size) (hk : k < out.length) (hg : w.grownBy w6 (vAt us k).ownBlock)
    (hown : w6.ownsRow S 3 1 u' ((out[k]).2.length + 1) (ints ((out[k]).2) ++ [.int .i64 o])) (hloc : u'.ownBlock = (vAt us k).ownBlock ∨ ∃ q, u'.ownBlock = some q ∧ w.heap.size ≤ q) :
    WA (w6.setCell ⟨a, k * 2 + 1, none⟩ u') S (.slice (some ⟨a, 0, none⟩) out.length cap) (us.set k u') (out.set k (addT o out[k])) ∧ Below S w (w6.setCell ⟨a, k * 2 + 1, none⟩ u') := by
  have hlk := h.wm.ways k hk
  have hlen := h.wm.len
  have hn : (out.set k (addT o out[k])).length = out.length := List.length_set ..
  obtain ⟨a', cap', hv, hB', hlt, hcap, _, cur, hcur, hcs⟩ := own_cells h.wm.outr (by omega)
  cases hv
  have k6 : ∀ {q : Nat} {b : Obj}, w.heap[q]? = some b → (∀ cur, b ≠ .cells cur 3 (0, 0)) → w6.heap[q]? = some b := fun hk hne => kept_block hlk hg hk hne
  have k7 : ∀ {q : Nat} {b : Obj}, w6.heap[q]? = some b → q ≠ a → (w6.setCell ⟨a, k * 2 + 1, none⟩ u').heap[q]? = some b := fun hk hne => (Below.heap_setCell w6 ⟨a, k * 2 + 1, none⟩ u' _ hne).trans hk
  have hcur6 := k6 hcur (by intro c e; cases e)
  have ne3 : ∀ {q : Nat} {c : Array Value}, w6.heap[q]? = some (.cells c 3 (0, 0)) → q ≠ a := by
    intro q c hq e
    subst e
    rw [hcur6] at hq
    cases hq
  refine ⟨⟨⟨by simp [hlen], ?_, ?_⟩, ?_⟩, ?_⟩
  · rw [hn, wayCells_set o u' out us k hk hlen]
    have h6 : w6.ownsRow S 35 2 (.slice (some ⟨a, 0, none⟩) out.length cap) out.length (wayCells out us) := ownsRow_heap h.wm.outr (fun q c hq _ => k6 hq (by intro c' e; cases e))
    exact (h6.stored (k * 2 + 1) u').1
  · intro i hi
    have hi' : i < out.length := by rw [hn] at hi; exact hi
    rw [vAt_set us k u' i (by omega)]
    by_cases e : i = k
    · subst e
      rw [if_pos rfl]
      simp only [List.getElem_set_self]
      have e2 : (addT o out[i]).2.length = (out[i]).2.length + 1 := by simp [addT]
      have e3 : ints (addT o out[i]).2 = ints (out[i]).2 ++ [.int .i64 o] := by simp [addT, ints]
      rw [e2, e3]
      exact ownsRow_heap hown (fun q c hq _ => k7 hq (ne3 hq))
    · rw [if_neg e, List.getElem_set_ne (Ne.symm e)]
      have h6 := (h.wm.ways i hi').kept hg (h.apart i k hi' hk e)
      exact ownsRow_heap h6 (fun q c hq _ => k7 hq (ne3 hq))
  · intro i j hi hj hne
    rw [hn] at hi hj
    have old : ∀ i, i < out.length → i ≠ k → (vAt us i).ownBlock = none ∨ (vAt us i).ownBlock ≠ u'.ownBlock := by
      intro i hi hij
      rcases h.apart i k hi hk hij with h0 | h0
      · exact Or.inl h0
      · cases ho : (vAt us i).ownBlock with
        | none => exact Or.inl rfl
        | some q =>
          refine Or.inr (fun e => ?_)
          rcases hloc with h2 | ⟨q', h2, h3⟩
          · exact h0 (by rw [ho, e, h2])
          · rw [h2] at e
            cases e
            have := own_lt (h.wm.ways i hi) ho
            omega
    rw [vAt_set us k u' i (by omega), vAt_set us k u' j (by omega)]
    by_cases e : i = k
    · rw [if_pos e]
      by_cases e' : j = k
      · exact absurd (e.trans e'.symm) hne
      · rw [if_neg e']
        exact off_none (old j hj e')
    · rw [if_neg e]
      by_cases e' : j = k
      · rw [if_pos e']
        exact old i hi e
      · rw [if_neg e']
        exact h.apart i j hi hj hne
  · exact (((Below.refl S w).grown hg hSw (fun q hq => (hlk.lt q hq).1)).setCell (p := ⟨a, k * 2 + 1, none⟩) hB' u')
/-- behind an append of other ways, that lie above -/
theorem WA.more {w' : World} {C : Nat} {v' vl : Value} {vs : List Value} {l : List Wy} (h : WA w S v us out) (hl : WA w C vl vs l) (hSC : S ≤ C) (hC : ∀ i k, (vAt us i).ownBlock = some k → i < out.length → k < C)
    (hg : w.grownBy w' v.ownBlock) (hown : w'.ownsRow S 35 2 v' (out.length + l.length) (wayCells out us ++ wayCells l vs)) : WA w' S v' (us ++ vs) (out ++ l) := by
  have k3 : ∀ {q : Nat} {c : Array Value}, w.heap[q]? = some (.cells c 3 (0, 0)) → w'.heap[q]? = some (.cells c 3 (0, 0)) := fun hq => kept_block h.wm.outr hg hq (by intro cur e; cases e)
  refine ⟨⟨by simp [h.wm.len, hl.wm.len], ?_, fun i hi => ?_⟩, fun i j hi hj hne => ?_⟩
  · rw [List.length_append, wayCells_append _ _ _ _ h.wm.len]
    exact hown
  · rw [vAt_append, h.wm.len]
    by_cases h1 : i < out.length
    · rw [if_pos h1]
      simp only [List.getElem_append_left h1]
      exact ownsRow_heap (h.wm.ways i h1) (fun q c hq _ => k3 hq)
    · rw [if_neg h1]
      have h2 : i - out.length < l.length := by simp at hi; omega
      rw [List.getElem_append_right (by omega)]
      exact own_mono (ownsRow_heap (hl.wm.ways _ h2) (fun q c hq _ => k3 hq)) hSC
  · have cross : ∀ i j, i < out.length → j < l.length → (vAt us i).ownBlock = none ∨ (vAt us i).ownBlock ≠ (vAt vs j).ownBlock := by
      intro i j hi hj
      cases ho : (vAt us i).ownBlock with
      | none => exact .inl rfl
      | some q =>
        refine .inr (fun e => ?_)
        have h1 := hC i q ho hi
        have h2 := ((hl.wm.ways j hj).lt q e.symm).1
        omega
    rw [vAt_append, vAt_append, h.wm.len]
    rw [List.length_append] at hi hj
    by_cases h1 : i < out.length
    · rw [if_pos h1]
      by_cases h2 : j < out.length
      · rw [if_pos h2]
        exact h.apart i j h1 h2 hne
      · rw [if_neg h2]
        exact cross i _ h1 (by omega)
    · rw [if_neg h1]
      by_cases h2 : j < out.length
      · rw [if_pos h2]
        exact off_none (cross j _ h2 (by omega))
      · rw [if_neg h2]
        exact hl.apart _ _ (by omega) (by omega) (by omega)
end Go.Proofs.Yteeiidkbihhekaa
