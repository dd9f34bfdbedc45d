/- Stacks: the search: what it computes; what memory holds while it goes. -/
import Derived.Test.YteeiidkbihhekaaSkI
import Derived.Test.YteeiidkbihhekaaSkF0
set_option linter.unusedVariables false
set_option linter.unusedSimpArgs false
namespace Go.Proofs.Yteeiidkbihhekaa
open Go Go.RowKit Go.Maps Go.WideMaps
abbrev Wy := Int × List Int
def lkOf (ns : List N) (n : Nat) : List (Int × Int) := ((ns[n]?).map N.lk).getD []
/-- the ways by a node's links, from the i-th on -/
def byLinks (f : Nat → Bool → List Int → List Wy → List Wy × Bool) (n : Nat) (nd lk : Int) (met : Bool) (ov : List Int) : Nat → List (Int × Int) → List Wy → List Wy × Bool
  | _, [], out => (out, true)
  | i, l :: ls, out =>
    if (f l.1.toNat (met || (decide ((n : Int) = nd) && decide ((i : Int) = lk))) (ov ++ [l.2]) out).2 = true then byLinks f n nd lk met ov (i + 1) ls (f l.1.toNat (met || (decide ((n : Int) = nd) && decide ((i : Int) = lk))) (ov ++ [l.2]) out).1
    else ((f l.1.toNat (met || (decide ((n : Int) = nd) && decide ((i : Int) = lk))) (ov ++ [l.2]) out).1, false)
def downP (ns : List N) (nd lk : Int) : Nat → Nat → Bool → List Int → List Wy → List Wy × Bool
  | 0, n, met, ov, out =>
    (if nd < 0 ∨ met = true then out ++ [((n : Int), ov.reverse)] else out, decide ((if nd < 0 ∨ met = true then out ++ [((n : Int), ov.reverse)] else out).length ≤ 4096))
  | k + 1, n, met, ov, out => byLinks (downP ns nd lk k) n nd lk met ov 0 (lkOf ns n) out
def wayCells : List Wy → List Value → List Value
  | y :: ys, u :: us => [.int .i64 y.1, u] ++ wayCells ys us
  | _, _ => []
theorem wayCells_snoc : ∀ (ys : List Wy) (us : List Value) (y : Wy) (u : Value), us.length = ys.length → wayCells (ys ++ [y]) (us ++ [u]) = wayCells ys us ++ [.int .i64 y.1, u]
  | [], [], y, u, _ => rfl
  | [], _ :: _, y, u, h => by simp at h
  | _ :: _, [], y, u, h => by simp at h
  | z :: ys, t :: us, y, u, h => by
    show [.int .i64 z.1, t] ++ wayCells (ys ++ [y]) (us ++ [u]) = _
    rw [wayCells_snoc ys us y u (by simpa using h)]
    rfl
theorem wayCells_at : ∀ (ys : List Wy) (us : List Value) (i : Nat), us.length = ys.length → (h : i < ys.length) → (wayCells ys us)[i * 2]? = some (.int .i64 (ys[i]).1) ∧ (wayCells ys us)[i * 2 + 1]? = some (vAt us i)
  | [], _, i, _, h => absurd h (by simp)
  | _ :: _, [], i, hl, _ => absurd hl (by simp)
  | n :: ns, v :: vs, 0, _, _ => ⟨rfl, rfl⟩
  | n :: ns, v :: vs, i + 1, hl, h => by
    have ih := wayCells_at ns vs i (by simpa using hl) (by simpa using h)
    have e : wayCells (n :: ns) (v :: vs) = [.int .i64 n.1, v] ++ wayCells ns vs := rfl
    have a0 : (i + 1) * 2 = 2 + i * 2 := by omega
    rw [e, a0]
    refine ⟨?_, ?_⟩
    · rw [List.getElem?_append_right (by simp)]
      have : 2 + i * 2 - [Value.int .i64 n.1, v].length = i * 2 := by simp
      rw [this]
      exact ih.1
    · rw [List.getElem?_append_right (by simp; omega)]
      have : 2 + i * 2 + 1 - [Value.int .i64 n.1, v].length = i * 2 + 1 := by simp; omega
      rw [this]
      exact ih.2
/-- memory holds these ways, each thing in a block from S on -/
structure WaysM (w : World) (S : Nat) (vw : Value) (us : List Value) (out : List Wy) : Prop where
  len : us.length = out.length
  outr : w.ownsRow S 35 2 vw out.length (wayCells out us)
  ways : ∀ i, (h : i < out.length) → w.ownsRow S 3 1 (vAt us i) (out[i]).2.length (ints (out[i]).2)
structure Srch (w : World) (S q g : Nat) (nd lk : Int) (ov : List Int) (vo vw : Value) (us : List Value) (out : List Wy) : Prop where
  hd : w.heap[q]? = some (.cells #[.pointer (some ⟨g, 0, none⟩), .int .i64 nd, .int .i64 lk, vo, vw] 89 (0, 0))
  qS : S ≤ q
  ovr : w.ownsRow S 3 1 vo ov.length (ints ov)
  wm : WaysM w S vw us out
  apart : ∀ i, i < out.length → (vAt us i).ownBlock = none ∨ (vAt us i).ownBlock ≠ vo.ownBlock
structure Fr3 (w w' : World) (q : Nat) (vo vw vo' vw' : Value) : Prop where
  os : w'.os = w.os
  tape : w'.tape = w.tape
  output : w'.output = w.output
  size : w.heap.size ≤ w'.heap.size
  block : ∀ k, k < w.heap.size → k ≠ q → some k ≠ vo.ownBlock → some k ≠ vw.ownBlock → w'.heap[k]? = w.heap[k]?
  o : vo'.ownBlock = vo.ownBlock ∨ ∃ k, vo'.ownBlock = some k ∧ w.heap.size ≤ k
  v : vw'.ownBlock = vw.ownBlock ∨ ∃ k, vw'.ownBlock = some k ∧ w.heap.size ≤ k
theorem Fr3.trans {a b c : World} {q : Nat} {vo vw vo1 vw1 vo2 vw2 : Value} (h : Fr3 a b q vo vw vo1 vw1) (k : Fr3 b c q vo1 vw1 vo2 vw2) : Fr3 a c q vo vw vo2 vw2 where
  os := k.os.trans h.os
  tape := k.tape.trans h.tape
  output := k.output.trans h.output
  size := Nat.le_trans h.size k.size
  block := fun i hi hq ho hv => by
    refine (k.block i (Nat.lt_of_lt_of_le hi h.size) hq ?_ ?_).trans (h.block i hi hq ho hv)
    · rcases h.o with e | ⟨j, e, hj⟩
      · rw [e]; exact ho
      · rw [e]; intro e'; cases e'; omega
    · rcases h.v with e | ⟨j, e, hj⟩
      · rw [e]; exact hv
      · rw [e]; intro e'; cases e'; omega
  o := by
    rcases k.o with e | ⟨j, e, hj⟩
    · rw [e]; exact h.o
    · exact .inr ⟨j, e, Nat.le_trans h.size hj⟩
  v := by
    rcases k.v with e | ⟨j, e, hj⟩
    · rw [e]; exact h.v
    · exact .inr ⟨j, e, Nat.le_trans h.size hj⟩
theorem Fr3.of_below {w w' : World} (q : Nat) (vo vw : Value) (b : Below w.heap.size w w') : Fr3 w w' q vo vw vo vw :=
  ⟨b.os, b.tape, b.output, b.size, fun k hk _ _ _ => b.block k hk, .inl rfl, .inl rfl⟩
theorem WaysM.heap {w w' : World} {S : Nat} {vw : Value} {us : List Value} {out : List Wy} (h : WaysM w S vw us out)
    (k35 : ∀ k cur, w.heap[k]? = some (.cells cur 35 (0, 0)) → S ≤ k → w'.heap[k]? = some (.cells cur 35 (0, 0)))
    (k3 : ∀ i, i < out.length → ∀ k cur, (vAt us i).ownBlock = some k → w.heap[k]? = some (.cells cur 3 (0, 0)) → w'.heap[k]? = some (.cells cur 3 (0, 0))) : WaysM w' S vw us out := by
  refine ⟨h.len, ownsRow_heap h.outr k35, fun i hi => ?_⟩
  have o := h.ways i hi
  refine ⟨o.1, ?_⟩
  rcases o.2 with hn | ⟨g, cc, cur, hv, hB', hgc, rest⟩
  · exact .inl hn
  · exact .inr ⟨g, cc, cur, hv, hB', k3 i hi g cur (by rw [hv]; rfl) hgc, rest⟩
variable {w : World} {S q g : Nat} {nd lk : Int} {ov : List Int} {vo vw : Value} {us : List Value} {out : List Wy}
theorem WaysM.below {w' : World} (h : WaysM w S vw us out) (b : Below w.heap.size w w') : WaysM w' S vw us out := by
  have k : ∀ {k : Nat} {o : Obj}, w.heap[k]? = some o → w'.heap[k]? = some o := fun hk => (b.block _ (Array.getElem?_eq_some_iff.1 hk).1).trans hk
  exact h.heap (fun _ _ hk _ => k hk) (fun _ _ _ _ _ hk => k hk)
theorem Srch.below {w' : World} (h : Srch w S q g nd lk ov vo vw us out) (b : Below w.heap.size w w') : Srch w' S q g nd lk ov vo vw us out := by
  have k : ∀ {k : Nat} {o : Obj}, w.heap[k]? = some o → w'.heap[k]? = some o := fun hk => (b.block _ (Array.getElem?_eq_some_iff.1 hk).1).trans hk
  exact ⟨k h.hd, h.qS, ownsRow_heap h.ovr (fun _ _ hk _ => k hk), h.wm.below b, h.apart⟩
theorem Srch.qlt (h : Srch w S q g nd lk ov vo vw us out) : q < w.heap.size := (Array.getElem?_eq_some_iff.1 h.hd).1
theorem Srch.cell (h : Srch w S q g nd lk ov vo vw us out) (i : Nat) : w.cell? ⟨q, i, none⟩ = (#[.pointer (some ⟨g, 0, none⟩), .int .i64 nd, .int .i64 lk, vo, vw] : Array Value)[i]? := by simp [World.cell?, h.hd]
theorem Srch.vo_ne (h : Srch w S q g nd lk ov vo vw us out) : vo.ownBlock ≠ some q := by
  intro e
  obtain ⟨c, _, hc, _⟩ := own_block_cells h.ovr e
  rw [h.hd] at hc
  cases hc
theorem Srch.vw_ne (h : Srch w S q g nd lk ov vo vw us out) : vw.ownBlock ≠ some q := by
  intro e
  obtain ⟨c, _, hc, _⟩ := own_block_cells h.wm.outr e
  rw [h.hd] at hc
  cases hc
/-- a thing more on the way -/
theorem Srch.push {w2 : World} {vo' : Value} {x : Int} (h : Srch w S q g nd lk ov vo vw us out) (hg : w.grownBy w2 vo.ownBlock) (hown : w2.ownsRow S 3 1 vo' (ov.length + 1) (ints (ov ++ [x]))) (hloc : vo'.ownBlock = vo.ownBlock ∨ ∃ k, vo'.ownBlock = some k ∧ w.heap.size ≤ k) :
    Srch (w2.setCell ⟨q, 3, none⟩ vo') S q g nd lk (ov ++ [x]) vo' vw us out ∧ Fr3 w (w2.setCell ⟨q, 3, none⟩ vo') q vo vw vo' vw := by
  have k2 : ∀ {k : Nat} {o : Obj}, w.heap[k]? = some o → some k ≠ vo.ownBlock → w2.heap[k]? = some o := fun hk hne => (hg.block _ (Array.getElem?_eq_some_iff.1 hk).1 hne).trans hk
  have k3 : ∀ {k : Nat} {o : Obj}, w2.heap[k]? = some o → k ≠ q → (w2.setCell ⟨q, 3, none⟩ vo').heap[k]? = some o := fun hk hne => (Below.heap_setCell w2 ⟨q, 3, none⟩ vo' _ hne).trans hk
  have hq2 := k2 h.hd (Ne.symm h.vo_ne)
  refine ⟨⟨?_, h.qS, ?_, h.wm.heap ?_ ?_, ?_⟩, ⟨hg.os, hg.tape, hg.output, ?_, ?_, hloc, .inl rfl⟩⟩
  · have := Joins.block_setCell (i := 3) hq2 vo'
    exact this
  · have e : (ov ++ [x]).length = ov.length + 1 := by simp
    rw [e]
    refine ownsRow_heap hown (fun k c hk _ => k3 hk ?_)
    rintro rfl
    rw [hq2] at hk
    cases hk
  · intro k c hk _
    refine k3 (k2 hk ?_) ?_
    · intro e
      obtain ⟨c', _, hc, _⟩ := own_block_cells h.ovr e.symm
      rw [hk] at hc
      cases hc
    · rintro rfl
      rw [h.hd] at hk
      cases hk
  · intro i hi k c hb hk
    refine k3 (k2 hk ?_) ?_
    · intro e
      rcases h.apart i hi with e0 | e0
      · rw [e0] at hb; cases hb
      · exact e0 (hb.trans e)
    · rintro rfl
      rw [h.hd] at hk
      cases hk
  · intro i hi
    rcases hloc with e | ⟨k, e, hk⟩
    · rw [e]; exact h.apart i hi
    · cases hb : (vAt us i).ownBlock with
      | none => exact .inl rfl
      | some j =>
        refine .inr (fun e1 => ?_)
        rw [e] at e1
        cases e1
        have := ((h.wm.ways i hi).lt _ hb).2
        omega
  · exact Nat.le_trans hg.size (by simp)
  · intro k hk hq ho hv
    exact (Below.heap_setCell w2 ⟨q, 3, none⟩ vo' k hq).trans (hg.block k hk ho)
/-- the last thing on the way goes -/
theorem Srch.pop {A : Option Addr} {m cap : Nat} {x : Int} (h : Srch w S q g nd lk (ov ++ [x]) (.slice A m cap) vw us out) :
    Srch (w.setCell ⟨q, 3, none⟩ (.slice A ov.length cap)) S q g nd lk ov (.slice A ov.length cap) vw us out ∧ Fr3 w (w.setCell ⟨q, 3, none⟩ (.slice A ov.length cap)) q (.slice A m cap) vw (.slice A ov.length cap) vw := by
  obtain ⟨a, cap', hv, hB, hlt, hc, hcell, cur, hcur, hcs⟩ := own_cells h.ovr (by simp)
  have hm : m = ov.length + 1 := by
    injection hv with _ e _
    simpa using e
  cases hv
  have k3 : ∀ {k : Nat} {o : Obj}, w.heap[k]? = some o → k ≠ q → (w.setCell ⟨q, 3, none⟩ (.slice (some ⟨a, 0, none⟩) ov.length cap)).heap[k]? = some o := fun hk hne => (Below.heap_setCell w ⟨q, 3, none⟩ _ _ hne).trans hk
  have hoff := h.ovr.2
  refine ⟨⟨?_, h.qS, ?_, h.wm.heap ?_ ?_, ?_⟩, ⟨rfl, rfl, rfl, by simp, ?_, .inl rfl, .inl rfl⟩⟩
  · exact Joins.block_setCell (i := 3) h.hd _
  · refine ⟨by simp [ints], .inr ⟨a, cap, cur, rfl, hB, k3 hcur ?_, ?_, ?_, hcs, ?_⟩⟩
    · rintro rfl
      rw [h.hd] at hcur
      cases hcur
    · have h9 := hc
      simp at h9
      omega
    · rcases hoff with ⟨e, _⟩ | ⟨g', cp', c', e, _, hg', h1, h2, h3, h4⟩
      · cases e
      · cases e
        exact h2
    · rcases hoff with ⟨e, _⟩ | ⟨g', cp', c', e, _, hg', h1, h2, h3, h4⟩
      · cases e
      · cases e
        rw [hcur] at hg'
        cases hg'
        have e1 : cur.toList.take (ov.length * 1) = (cur.toList.take ((ov ++ [x]).length * 1)).take (ov.length * 1) := by
          rw [List.take_take]
          congr 1
          simp
        rw [e1, h4]
        simp [ints]
  · intro k c hk _
    refine k3 hk ?_
    rintro rfl
    rw [h.hd] at hk
    cases hk
  · intro i hi k c hb hk
    refine k3 hk ?_
    rintro rfl
    rw [h.hd] at hk
    cases hk
  · intro i hi
    exact h.apart i hi
  · intro k hk hq ho hv
    exact Below.heap_setCell w ⟨q, 3, none⟩ _ k hq
/-- a way more -/
theorem Srch.add {w1 w2 : World} {vw' u : Value} {n : Nat} {zs : List Int} (h : Srch w S q g nd lk ov vo vw us out) (hSw : S ≤ w.heap.size) (b : Below w.heap.size w w1) (hu : w1.ownsRow w.heap.size 3 1 u zs.length (ints zs)) (hg : w1.grownBy w2 vw.ownBlock)
    (hown : w2.ownsRow S 35 2 vw' (out.length + 1) (wayCells out us ++ [.int .i64 n, u])) (hloc : vw'.ownBlock = vw.ownBlock ∨ ∃ k, vw'.ownBlock = some k ∧ w1.heap.size ≤ k) :
    Srch (w2.setCell ⟨q, 4, none⟩ vw') S q g nd lk ov vo vw' (us ++ [u]) (out ++ [((n : Int), zs)]) ∧ Fr3 w (w2.setCell ⟨q, 4, none⟩ vw') q vo vw vo vw' := by
  have h1 := h.below b
  have k2 : ∀ {k : Nat} {o : Obj}, w1.heap[k]? = some o → some k ≠ vw.ownBlock → w2.heap[k]? = some o := fun hk hne => (hg.block _ (Array.getElem?_eq_some_iff.1 hk).1 hne).trans hk
  have k3 : ∀ {k : Nat} {o : Obj}, w2.heap[k]? = some o → k ≠ q → (w2.setCell ⟨q, 4, none⟩ vw').heap[k]? = some o := fun hk hne => (Below.heap_setCell w2 ⟨q, 4, none⟩ vw' _ hne).trans hk
  have hq2 := k2 h1.hd (Ne.symm h1.vw_ne)
  have vw3 : ∀ {k : Nat} {c : Array Value}, w1.heap[k]? = some (.cells c 3 (0, 0)) → some k ≠ vw.ownBlock := by
    intro k c hk e
    obtain ⟨c', _, hc, _⟩ := own_block_cells h1.wm.outr e.symm
    rw [hk] at hc
    cases hc
  have q3 : ∀ {k : Nat} {c : Array Value}, w1.heap[k]? = some (.cells c 3 (0, 0)) → k ≠ q := by
    intro k c hk
    rintro rfl
    rw [h1.hd] at hk
    cases hk
  have hulen : (us ++ [u]).length = (out ++ [((n : Int), zs)]).length := by simp [h.wm.len]
  refine ⟨⟨?_, h.qS, ?_, ⟨hulen, ?_, ?_⟩, ?_⟩, ⟨hg.os.trans b.os, hg.tape.trans b.tape, hg.output.trans b.output, ?_, ?_, .inl rfl, ?_⟩⟩
  · exact Joins.block_setCell (i := 4) hq2 vw'
  · exact ownsRow_heap h1.ovr (fun k c hk _ => k3 (k2 hk (vw3 hk)) (q3 hk))
  · rw [wayCells_snoc _ _ _ _ h.wm.len]
    have e : (out ++ [((n : Int), zs)]).length = out.length + 1 := by simp
    rw [e]
    refine ownsRow_heap hown (fun k c hk _ => k3 hk ?_)
    rintro rfl
    rw [hq2] at hk
    cases hk
  · intro i hi
    rw [vAt_snoc]
    by_cases h2 : i < out.length
    · rw [if_pos (by rw [h.wm.len]; exact h2)]
      simp only [List.getElem_append_left h2]
      exact ownsRow_heap (h1.wm.ways i h2) (fun k c hk _ => k3 (k2 hk (vw3 hk)) (q3 hk))
    · have e : i = out.length := by simp at hi; omega
      subst e
      rw [if_neg (by rw [h.wm.len]; omega), if_pos h.wm.len.symm]
      simp only [List.getElem_append_right (Nat.le_refl _), Nat.sub_self, List.getElem_singleton]
      have o2 := ownsRow_heap (w' := w2.setCell ⟨q, 4, none⟩ vw') hu (fun k c hk _ => k3 (k2 hk (vw3 hk)) (q3 hk))
      exact ⟨o2.1, o2.2.imp id (fun ⟨g', cp, c, e1, e2, rest⟩ => ⟨g', cp, c, e1, Nat.le_trans hSw e2, rest⟩)⟩
  · intro i hi
    rw [vAt_snoc]
    by_cases h2 : i < out.length
    · rw [if_pos (by rw [h.wm.len]; exact h2)]
      exact h.apart i h2
    · have e : i = out.length := by simp at hi; omega
      subst e
      rw [if_neg (by rw [h.wm.len]; omega), if_pos h.wm.len.symm]
      cases hb : u.ownBlock with
      | none => exact .inl rfl
      | some j =>
        refine .inr (fun e1 => ?_)
        have l1 := (hu.lt j hb).1
        have l2 := (h.ovr.lt j e1.symm).2
        omega
  · exact Nat.le_trans b.size (Nat.le_trans hg.size (by simp))
  · intro k hk hq ho hv
    exact (Below.heap_setCell w2 ⟨q, 4, none⟩ vw' k hq).trans ((hg.block k (Nat.lt_of_lt_of_le hk b.size) hv).trans (b.block k hk))
  · rcases hloc with e | ⟨k, e, hk⟩
    · exact .inl e
    · exact .inr ⟨k, e, Nat.le_trans b.size hk⟩
end Go.Proofs.Yteeiidkbihhekaa
