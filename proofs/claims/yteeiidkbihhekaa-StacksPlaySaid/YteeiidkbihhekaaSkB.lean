/- Stacks: the reading methods, walked: there, Find, Node, Len. -/
import Derived.Test.YteeiidkbihhekaaSkA
set_option linter.unusedVariables false
set_option linter.unusedSimpArgs false
namespace Go.Proofs.Yteeiidkbihhekaa
open Go Go.RowKit Go.Maps Go.WideMaps
theorem own_cells {w : World} {B e z n : Nat} {v : Value} {xs : List Value} (h : w.ownsRow B e z v n xs) (hn : 0 < n) :
    ∃ g cap, v = .slice (some ⟨g, 0, none⟩) n cap ∧ B ≤ g ∧ g < w.heap.size ∧ n ≤ cap ∧ (∀ j, j < n * z → w.cell? ⟨g, j, none⟩ = xs[j]?) ∧ ∃ cur, w.heap[g]? = some (.cells cur e (0, 0)) ∧ cur.size = cap * z := by
  rcases h.2 with ⟨_, h0⟩ | ⟨g, cap, cur, hv, hB, hg, hc, _, hs, ht⟩
  · omega
  · refine ⟨g, cap, hv, hB, (Array.getElem?_eq_some_iff.1 hg).1, hc, ?_, cur, hg, hs⟩
    intro j hj
    have e1 : w.cell? ⟨g, j, none⟩ = cur[j]? := by simp [World.cell?, hg]
    rw [e1, ← ht, List.getElem?_take, if_pos hj, Array.getElem?_toList]
theorem own_len {w : World} {B e z n : Nat} {v : Value} {xs : List Value} (h : w.ownsRow B e z v n xs) : ∃ A cap, v = .slice A n cap := by
  rcases h.2 with ⟨hv, h0⟩ | ⟨g, cap, cur, hv, _⟩
  · subst h0
    exact ⟨none, 0, hv⟩
  · exact ⟨_, _, hv⟩
theorem node_at : ∀ (ns : List N) (vs : List Value) (i : Nat), vs.length = ns.length → (h : i < ns.length) → (nodeCells ns vs)[i * 3]? = some (.int .i64 (ns[i]).st) ∧ (nodeCells ns vs)[i * 3 + 1]? = some (.int .i64 (ns[i]).lv) ∧ (nodeCells ns vs)[i * 3 + 2]? = some (vAt vs i)
  | [], _, i, _, h => absurd h (by simp)
  | _ :: _, [], i, hl, _ => absurd hl (by simp)
  | n :: ns, v :: vs, 0, _, _ => ⟨rfl, rfl, rfl⟩
  | n :: ns, v :: vs, i + 1, hl, h => by
    have ih := node_at ns vs i (by simpa using hl) (by simpa using h)
    have e : nodeCells (n :: ns) (v :: vs) = [.int .i64 n.st, .int .i64 n.lv, v] ++ nodeCells ns vs := rfl
    have a0 : (i + 1) * 3 = 3 + i * 3 := by omega
    rw [e, a0]
    refine ⟨?_, ?_, ?_⟩
    · rw [List.getElem?_append_right (by simp)]
      have : 3 + i * 3 - [Value.int .i64 n.st, .int .i64 n.lv, v].length = i * 3 := by simp
      rw [this]
      exact ih.1
    · rw [List.getElem?_append_right (by simp; omega)]
      have : 3 + i * 3 + 1 - [Value.int .i64 n.st, .int .i64 n.lv, v].length = i * 3 + 1 := by simp; omega
      rw [this]
      exact ih.2.1
    · rw [List.getElem?_append_right (by simp; omega)]
      have : 3 + i * 3 + 2 - [Value.int .i64 n.st, .int .i64 n.lv, v].length = i * 3 + 2 := by simp; omega
      rw [this]
      exact ih.2.2
variable {w : World} {B g bm br p : Nat} {nv : Value} {vs : List Value} {ns : List N}
theorem StM.c0 (h : StM w B g nv bm br vs ns p) : w.cell? ⟨g, 0, none⟩ = some nv := by simp [World.cell?, h.hd]
theorem StM.c1 (h : StM w B g nv bm br vs ns p) : w.cell? ⟨g, 1, none⟩ = some (.map (some bm)) := by simp [World.cell?, h.hd]
theorem StM.c2 (h : StM w B g nv bm br vs ns p) : w.cell? ⟨g, 2, none⟩ = some (.map (some br)) := by simp [World.cell?, h.hd]
theorem there_in (h : StM w B g nv bm br vs ns p) (k : Int) : Calls Try.prog 28 #[.pointer (some ⟨g, 0, none⟩), .int .i64 k] w fun e w' => e = .returned (.bool (decide (0 ≤ k ∧ k < ns.length))) ∧ w' = w := by
  have c0 := h.c0
  obtain ⟨A, cap, rfl⟩ := own_len h.nod
  by_cases h0 : 0 ≤ k
  · have d0 : decide (0 ≤ k) = true := decide_eq_true h0
    by_cases h1 : k < (ns.length : Int)
    · have d1 : decide (k < (ns.length : Int)) = true := decide_eq_true h1
      have e : decide (0 ≤ k ∧ k < (ns.length : Int)) = true := decide_eq_true ⟨h0, h1⟩
      rw [e]
      clear e
      go_enter Try.func28, Try.ntmps28
      go_wp2
      go_ret
      exact ⟨rfl, rfl⟩
    · have d1 : decide (k < (ns.length : Int)) = false := decide_eq_false h1
      have e : decide (0 ≤ k ∧ k < (ns.length : Int)) = false := decide_eq_false (fun h => h1 h.2)
      rw [e]
      clear e
      go_enter Try.func28, Try.ntmps28
      go_wp2
      go_ret
      exact ⟨rfl, rfl⟩
  · have d0 : decide (0 ≤ k) = false := decide_eq_false h0
    have e : decide (0 ≤ k ∧ k < (ns.length : Int)) = false := decide_eq_false (fun h => h0 h.1)
    rw [e]
    clear e
    go_enter Try.func28, Try.ntmps28
    go_wp2
    go_ret
    exact ⟨rfl, rfl⟩
theorem len_in (h : StM w B g nv bm br vs ns p) : Calls Try.prog 13 #[.pointer (some ⟨g, 0, none⟩)] w fun e w' => e = .returned (.int .i64 ns.length) ∧ w' = w := by
  have c0 := h.c0
  obtain ⟨A, cap, rfl⟩ := own_len h.nod
  go_enter Try.func13, Try.ntmps13
  go_wp2
  go_ret
  exact ⟨rfl, rfl⟩
set_option maxRecDepth 100000 in
theorem find_in (h : StM w B g nv bm br vs ns p) (a b : Int) (ha : Wf a) (hb : Wf b) : Calls Try.prog 23 #[.pointer (some ⟨g, 0, none⟩), .int .i64 a, .int .i64 b] w fun e w' => e = .returned (.tuple #[.int .i64 ((idx ns a b - 1 : Nat) : Int), .bool (decide (0 < idx ns a b))]) ∧ w' = w := by
  have c1 := h.c1
  obtain ⟨D, hown, hD⟩ := h.by_
  have hat0 := hD.2 a b ha hb
  have hi := idx_le ns a b
  have hf := h.few
  go_enter Try.func23, Try.ntmps23
  go_wp2_with (first
    | (at_lookup; refine wpList_lookup_own_int _ rfl _ _ 73 rfl 84 3 .i64 law84 Try.underlying73 Try.underlying3 (zero3 _) bm ns.length D rfl hown _ _ rfl (key_kp ha hb) ?_; intro c hat hwc; obtain rfl : c = (idx ns a b : Int) := (by rw [hat0] at hat; simpa using hat.symm)))
  all_goals
    go_ret2
    first
      | (have e : ((idx ns a b - 1 : Nat) : Int) = 0 := by omega
         rw [e]
         exact ⟨rfl, rfl⟩)
      | (have e : ((idx ns a b - 1 : Nat) : Int) = (idx ns a b : Int) - 1 := by omega
         rw [e]
         exact ⟨rfl, rfl⟩)
/-- a node's cells, where memory holds them -/
theorem StM.node (h : StM w B g nv bm br vs ns p) (i : Nat) (hi : i < ns.length) : ∃ a cap, nv = .slice (some ⟨a, 0, none⟩) ns.length cap ∧ B ≤ a ∧ a < w.heap.size ∧ ns.length ≤ cap ∧ w.cell? ⟨a, i * 3, none⟩ = some (.int .i64 (ns[i]).st) ∧ w.cell? ⟨a, i * 3 + 1, none⟩ = some (.int .i64 (ns[i]).lv) ∧ w.cell? ⟨a, i * 3 + 2, none⟩ = some (vAt vs i) := by
  obtain ⟨a, cap, hv, hB, hlt, hc, hcell, _⟩ := own_cells h.nod (by omega)
  obtain ⟨e0, e1, e2⟩ := node_at ns vs i h.len hi
  exact ⟨a, cap, hv, hB, hlt, hc, (hcell _ (by omega)).trans e0, (hcell _ (by omega)).trans e1, (hcell _ (by omega)).trans e2⟩
end Go.Proofs.Yteeiidkbihhekaa
