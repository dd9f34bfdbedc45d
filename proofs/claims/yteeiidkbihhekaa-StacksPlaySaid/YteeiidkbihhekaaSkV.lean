/- Stacks: CopyInts; ways that are gathered. -/
import Derived.Test.YteeiidkbihhekaaSkO
import Derived.Laws.AppendOwnNone
set_option linter.unusedVariables false
set_option linter.unusedSimpArgs false
namespace Go.Proofs.Yteeiidkbihhekaa
open Go Go.RowKit
theorem own_nil (w : World) (B e z : Nat) : w.ownsRow B e z (.slice none 0 0) 0 [] := ⟨by simp, .inl ⟨rfl, rfl⟩⟩
set_option maxRecDepth 100000 in
theorem copy_in {w : World} {B : Nat} {v : Value} {zs : List Int} (h : w.ownsRow B 3 1 v zs.length (ints zs)) (hn : zs.length ≤ 1099511627776) :
    Calls Try.prog 19 #[v] w fun e w' => ∃ v', e = .returned v' ∧ w'.ownsRow w.heap.size 3 1 v' zs.length (ints zs) ∧ Below w.heap.size w w' := by
  obtain ⟨i0, hi, z0, z1, z2⟩ := info_parts info3
  rcases h.2 with ⟨rfl, h0⟩ | ⟨g, cap, cur, rfl, _, hg, hc, _, hs, ht⟩
  · have e : zs = [] := List.length_eq_zero_iff.1 (by omega)
    subst e
    have hnil := own_nil w w.heap.size 3 1
    go_enter Try.func19, Try.ntmps19
    go_wp2_with (first | (at_builtin; refine wpList_append_own_none rfl _ _ 33 rfl w.heap.size 3 i0 1 Try.underlying33 hi _ 0 [] rfl hnil rfl ?_))
    go_ret
    exact ⟨_, rfl, hnil, Below.refl _ _⟩
  · have hgs : g < w.heap.size := (Array.getElem?_eq_some_iff.1 hg).1
    have hnews : ∀ j u, (ints zs)[j]? = some u → w.cell? ((⟨g, 0, none⟩ : Addr).add j) = some u := by
      intro j u hj
      have hadd : (⟨g, 0, none⟩ : Addr).add j = ⟨g, j, none⟩ := by unfold Addr.add; split <;> simp_all
      rw [hadd]
      have hj' : j < zs.length * 1 := by
        have := (List.getElem?_eq_some_iff.1 hj).1
        simp [ints] at this
        omega
      have e1 : w.cell? ⟨g, j, none⟩ = cur[j]? := by simp [World.cell?, hg]
      rw [e1, ← hj, ← ht, List.getElem?_take, if_pos hj', Array.getElem?_toList]
    have hnil := own_nil w w.heap.size 3 1
    have one := ints_one zs
    have hil : (ints zs).length = zs.length * 1 := by simp [ints]
    generalize zs.length = m at *
    clear hg hs ht h
    go_enter Try.func19, Try.ntmps19
    go_wp2_with (first
      | (at_builtin; refine wpList_append_own_at _ rfl _ _ 33 rfl w.heap.size 3 i0 (.int .i64 0) 1 8 Try.underlying33 hi z0 z1 z2 rfl (by decide) _ 0 [] rfl hnil ⟨g, 0, none⟩ m cap (ints zs) rfl hil hnews one (by unfold maxLen; omega) (by omega) (Nat.le_refl _) ?_; intro v' w2 hown2 hgrow _ _))
    go_ret
    refine ⟨_, rfl, by simpa using hown2, (Below.refl _ _).grown hgrow (Nat.le_refl _) (by intro k hk; cases hk)⟩
/-- a slice of numbers that starts at a block's first cell -/
def OwnI (w : World) (u : Value) (zs : List Int) : Prop := ∃ B, w.ownsRow B 3 1 u zs.length (ints zs)
theorem OwnI.reads {w : World} {u : Value} {zs : List Int} (h : OwnI w u zs) : IntsR w u zs := by
  obtain ⟨B, h⟩ := h
  exact IntsR.of_row h
theorem OwnI.below {w w' : World} {u : Value} {zs : List Int} (h : OwnI w u zs) (b : Below w.heap.size w w') : OwnI w' u zs := by
  obtain ⟨B, h⟩ := h
  exact ⟨B, ownsRow_heap h (fun k c hk _ => (b.block k (Array.getElem?_eq_some_iff.1 hk).1).trans hk)⟩
/-- the growth of a row of ways does not touch numbers -/
theorem OwnI.grown {w w' : World} {u v : Value} {zs : List Int} {S n : Nat} {xs : List Value} (h : OwnI w u zs) (hv : w.ownsRow S 35 2 v n xs) (hg : w.grownBy w' v.ownBlock) : OwnI w' u zs := by
  obtain ⟨B, h⟩ := h
  exact ⟨B, ownsRow_heap h (fun k c hk _ => kept_block hv hg hk (by intro cur e; cases e))⟩
/-- ways that were gathered: a row of one's own, of things that memory holds -/
structure PartsM (w : World) (S : Nat) (v : Value) (us : List Value) (out : List Wy) : Prop where
  len : us.length = out.length
  row : w.ownsRow S 35 2 v out.length (wayCells out us)
  rd : ∀ i, (h : i < out.length) → OwnI w (vAt us i) (out[i]).2
theorem PartsM.nil (w : World) (S : Nat) : PartsM w S (.slice none 0 0) [] [] := ⟨rfl, own_nil w S 35 2, fun i hi => absurd hi (by simp)⟩
theorem IntsR.cell1 {w : World} {v : Value} {zs : List Int} (h : IntsR w v zs) : v.oneCell' = true := by
  obtain ⟨A, cap, rfl, _⟩ := h
  rfl
theorem PartsM.reads {w : World} {S : Nat} {v : Value} {us : List Value} {l : List Wy} (h : PartsM w S v us l) : WaysR w v l := by
  obtain ⟨A, cap, rfl⟩ := own_len h.row
  refine ⟨A, cap, us, rfl, fun i hi => ?_⟩
  obtain ⟨a, c, hv, _, _, _, hr, _⟩ := own_cells h.row (by omega)
  cases hv
  obtain ⟨e0, e1⟩ := wayCells_at l us i h.len hi
  exact ⟨a, 0, rfl, by rw [Nat.zero_add]; exact (hr _ (by omega)).trans e0, by rw [Nat.zero_add]; exact (hr _ (by omega)).trans e1, (h.rd i hi).reads⟩
theorem PartsM.below {w w' : World} {S : Nat} {v : Value} {us : List Value} {l : List Wy} (h : PartsM w S v us l) (b : Below w.heap.size w w') : PartsM w' S v us l :=
  ⟨h.len, ownsRow_heap h.row (fun k c hk _ => (b.block k (Array.getElem?_eq_some_iff.1 hk).1).trans hk), fun i hi => (h.rd i hi).below b⟩
theorem wayCells_append : ∀ (l m : List Wy) (us vs : List Value), us.length = l.length → wayCells (l ++ m) (us ++ vs) = wayCells l us ++ wayCells m vs
  | [], m, [], vs, _ => rfl
  | [], m, _ :: _, vs, h => by simp at h
  | _ :: _, m, [], vs, h => by simp at h
  | y :: l, m, u :: us, vs, h => by
    show [Value.int .i64 y.1, u] ++ wayCells (l ++ m) (us ++ vs) = [Value.int .i64 y.1, u] ++ wayCells l us ++ wayCells m vs
    rw [wayCells_append l m us vs (by simpa using h)]
    simp
theorem wayCells_len : ∀ (l : List Wy) (us : List Value), us.length = l.length → (wayCells l us).length = l.length * 2
  | [], [], _ => rfl
  | [], _ :: _, h => by simp at h
  | _ :: _, [], h => by simp at h
  | y :: l, u :: us, h => by
    show ([Value.int .i64 y.1, u] ++ wayCells l us).length = _
    rw [List.length_append, wayCells_len l us (by simpa using h)]
    simp
    omega
theorem vAt_append (us vs : List Value) (i : Nat) : vAt (us ++ vs) i = if i < us.length then vAt us i else vAt vs (i - us.length) := by
  unfold vAt
  by_cases h : i < us.length
  · rw [if_pos h, List.getD, List.getElem?_append_left h, List.getD]
  · rw [if_neg h, List.getD, List.getElem?_append_right (by omega), List.getD]
theorem wayCells_one : ∀ (l : List Wy) (us : List Value), us.length = l.length → (∀ i, i < l.length → (vAt us i).oneCell' = true) → ∀ u ∈ wayCells l us, u.oneCell' = true
  | [], us, _, _, u, hu => by
    cases us <;> simp [wayCells] at hu
  | y :: l, [], h, _, u, hu => by simp at h
  | y :: l, v :: us, h, h1, u, hu => by
    have e : wayCells (y :: l) (v :: us) = [Value.int .i64 y.1, v] ++ wayCells l us := rfl
    rw [e] at hu
    rcases List.mem_append.1 hu with h2 | h2
    · simp at h2
      rcases h2 with rfl | rfl
      · rfl
      · exact h1 0 (by simp)
    · exact wayCells_one l us (by simpa using h) (fun i hi => h1 (i + 1) (by simpa using hi)) u h2
/-- behind an append of other ways -/
theorem PartsM.more {w w' : World} {S : Nat} {v v' : Value} {us vs : List Value} {l m : List Wy} (h : PartsM w S v us l) (hl : vs.length = m.length) (hr : ∀ i, (hi : i < m.length) → OwnI w (vAt vs i) (m[i]).2)
    (hg : w.grownBy w' v.ownBlock) (hown : w'.ownsRow S 35 2 v' (l.length + m.length) (wayCells l us ++ wayCells m vs)) : PartsM w' S v' (us ++ vs) (l ++ m) := by
  refine ⟨by simp [h.len, hl], ?_, fun i hi => ?_⟩
  · rw [List.length_append, wayCells_append _ _ _ _ h.len]
    exact hown
  · rw [vAt_append, h.len]
    by_cases h1 : i < l.length
    · rw [if_pos h1]
      simp only [List.getElem_append_left h1]
      exact (h.rd i h1).grown h.row hg
    · rw [if_neg h1]
      have h2 : i - l.length < m.length := by simp at hi; omega
      rw [List.getElem_append_right (by omega)]
      exact (hr _ h2).grown h.row hg
end Go.Proofs.Yteeiidkbihhekaa
