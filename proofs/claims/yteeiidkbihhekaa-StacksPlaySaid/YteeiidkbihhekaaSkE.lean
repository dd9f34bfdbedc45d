/- Stacks: Node, Links, New. -/
import Derived.Test.YteeiidkbihhekaaSkD
set_option linter.unusedVariables false
set_option linter.unusedSimpArgs false
namespace Go.Proofs.Yteeiidkbihhekaa
open Go Go.RowKit Go.Maps Go.WideMaps
variable {w : World} {B g bm br p : Nat} {nv : Value} {vs : List Value} {ns : List N}
theorem oneCell_lk (l : List (Int × Int)) : ∀ u ∈ lkCells l, u.oneCell' = true := by
  intro u hu
  obtain ⟨x, _, hx⟩ := List.mem_flatMap.1 hu
  simp at hx
  rcases hx with rfl | rfl <;> rfl
set_option maxRecDepth 100000 in
theorem node_ok (h : StM w B g nv bm br vs ns p) (i : Nat) (hi : i < ns.length) : Calls Try.prog 14 #[.pointer (some ⟨g, 0, none⟩), .int .i64 i] w fun e w' => e = .returned (.tuple #[.int .i64 (ns[i]).st, .int .i64 (ns[i]).lv, .bool true]) ∧ ∃ n, w' = w.drewN n := by
  have ht := there_in h i
  have e0 : decide (0 ≤ (i : Int) ∧ (i : Int) < ns.length) = true := decide_eq_true ⟨by omega, by omega⟩
  rw [e0] at ht
  have c0 := h.c0
  obtain ⟨a, cap, rfl, _, _, _, x0, x1, _⟩ := h.node i hi
  have d1 : decide (i < ns.length) = true := decide_eq_true hi
  have d1' : decide ((i : Int) < (ns.length : Int)) = true := decide_eq_true (by omega)
  generalize (ns[i]).st = S at *
  generalize (ns[i]).lv = L at *
  go_enter Try.func14, Try.ntmps14
  go_wp2_with (first | (go_at_call 28; (with_reducible refine ht.mono ?_); rintro en w1 ⟨rfl, rfl⟩))
  go_quiet (fail)
  go_wp2
  refine bodyPost_ret (v := .tuple #[.int .i64 S, .int .i64 L, .bool true]) (by simp [results, Try.results14, go_sem]) rfl ⟨rfl, _, rfl⟩
set_option maxRecDepth 100000 in
theorem node_no (h : StM w B g nv bm br vs ns p) (k : Int) (hk : ¬ (0 ≤ k ∧ k < ns.length)) : Calls Try.prog 14 #[.pointer (some ⟨g, 0, none⟩), .int .i64 k] w fun e w' => e = .returned (.tuple #[.int .i64 0, .int .i64 0, .bool false]) ∧ w' = w := by
  have ht := there_in h k
  rw [decide_eq_false hk] at ht
  go_enter Try.func14, Try.ntmps14
  go_wp2_with (first | (go_at_call 28; (with_reducible refine ht.mono ?_); rintro en w1 ⟨rfl, rfl⟩))
  refine bodyPost_ret (v := .tuple #[.int .i64 0, .int .i64 0, .bool false]) (by simp [results, Try.results14, go_sem]) rfl ⟨rfl, rfl⟩
set_option maxRecDepth 100000 in
theorem links_ok (h : StM w B g nv bm br vs ns p) (hp : p ≤ 1099511627776) (i : Nat) (hi : i < ns.length) : Calls Try.prog 15 #[.pointer (some ⟨g, 0, none⟩), .int .i64 i] w fun e w' => ∃ v, e = .returned v ∧ w'.ownsRow w.heap.size 46 2 v (ns[i]).lk.length (lkCells (ns[i]).lk) ∧ Below w.heap.size w w' := by
  have ht := there_in h i
  have e0 : decide (0 ≤ (i : Int) ∧ (i : Int) < ns.length) = true := decide_eq_true ⟨by omega, by omega⟩
  rw [e0] at ht
  have c0 := h.c0
  obtain ⟨a, cap, rfl, _, _, _, _, _, x2⟩ := h.node i hi
  have hcl := clone_links (h.lks i hi) (oneCell_lk _) (Nat.le_trans (h.lkp _ (List.getElem_mem hi)) hp)
  have d1 : decide (i < ns.length) = true := decide_eq_true hi
  have d1' : decide ((i : Int) < (ns.length : Int)) = true := decide_eq_true (by omega)
  generalize vAt vs i = V at *
  go_enter Try.func15, Try.ntmps15
  go_wp2_with (first | (go_at_call 28; (with_reducible refine ht.mono ?_); rintro en w1 ⟨rfl, rfl⟩) | (go_at_call 31; (with_reducible refine hcl.mono ?_); rintro en w1 ⟨v', rfl, ho, b1⟩))
  go_ret
  exact ⟨_, rfl, ho, b1⟩
set_option maxRecDepth 100000 in
theorem links_no (h : StM w B g nv bm br vs ns p) (k : Int) (hk : ¬ (0 ≤ k ∧ k < ns.length)) : Calls Try.prog 15 #[.pointer (some ⟨g, 0, none⟩), .int .i64 k] w fun e w' => e = .returned (.slice none 0 0) ∧ w' = w := by
  have ht := there_in h k
  rw [decide_eq_false hk] at ht
  go_enter Try.func15, Try.ntmps15
  go_wp2_with (first | (go_at_call 28; (with_reducible refine ht.mono ?_); rintro en w1 ⟨rfl, rfl⟩))
  go_ret
  exact ⟨rfl, rfl⟩
set_option maxRecDepth 100000 in
theorem new_no (a : Int) (ha : a < 0) (w : World) : Calls Try.prog 9 #[.int .i64 a] w fun e w' => e = .returned (.tuple #[.pointer none, .int .i64 2]) ∧ w' = w := by
  have d1 : decide (a < 0) = true := decide_eq_true ha
  go_enter Try.func9, Try.ntmps9
  go_wp2
  go_ret2
  exact ⟨rfl, rfl⟩
/-- stacks that hold no node, as New makes them -/
theorem StM.fresh (w : World) : StM (((w.alloc (.map #[] 0)).alloc (.map #[] 0)).alloc (.cells #[.slice none 0 0, .map (some w.heap.size), .map (some (w.heap.size + 1))] 76)) w.heap.size (w.heap.size + 2) (.slice none 0 0) w.heap.size (w.heap.size + 1) [] [] 0 := by
  have s1 := size_al w (.map #[] 0)
  have s2 := size_al (w.alloc (.map #[] 0)) (.map #[] 0)
  have hm := World.ownsMap_made w Try.prog 84 (plainElem (H := Unit) Try.prog 3)
  have hg := World.ownsGroups_made (H := Unit) (w.alloc (.map #[] 0)) Try.prog 3 3 .i64
  rw [s1] at hg
  refine ⟨?_, by omega, by omega, by omega, by omega, rfl, ⟨rfl, .inl ⟨rfl, rfl⟩⟩, fun i hi => absurd hi (by simp), fun i j hi => absurd hi (by simp), ⟨_, ownsMap_heap hm ?_, ⟨_, rfl⟩, fun a b _ _ => rfl⟩, ⟨_, (hg.kept (World.grownBy_alloc _ _ none) (by simp) (groups_off hg (by intro j cur e; cases e))), ⟨_, rfl⟩, fun l _ => rfl⟩, fun n hn => absurd hn (by simp), by simp, fun n hn => absurd hn (by simp)⟩
  · have := alloc_here ((w.alloc (.map #[] 0)).alloc (.map #[] 0)) (.cells #[.slice none 0 0, .map (some w.heap.size), .map (some (w.heap.size + 1))] 76)
    rw [s2, s1] at this
    exact this
  · rw [Below.heap_alloc _ _ _ (by omega), Below.heap_alloc _ _ _ (by omega)]
set_option maxRecDepth 100000 in
theorem new_ok (a : Int) (h0 : 0 ≤ a) (ha : Wf a) (w : World) : Calls Try.prog 9 #[.int .i64 a] w fun e w' => ∃ g bm br nv vs, e = .returned (.tuple #[.pointer (some ⟨g, 0, none⟩), .int .i64 0]) ∧ StM w' w.heap.size g nv bm br vs [⟨a, 0, []⟩] 0 ∧ Below w.heap.size w w' := by
  have d1 : decide (a < 0) = false := decide_eq_false (by omega)
  have mk73 : ∀ W, (Instr.makeMap 73 none).run Try.prog W = .ok (.map (some W.heap.size)) (W.alloc (.map #[] 0)) := run_makeMap _
  have mk74 : ∀ W, (Instr.makeMap 74 none).run Try.prog W = .ok (.map (some W.heap.size)) (W.alloc (.map #[] 0)) := run_makeMap _
  have hmk := make_x (StM.fresh w) a 0 ha (Wf.of (by omega) (by omega)) rfl (by simp)
  go_enter Try.func9, Try.ntmps9
  go_wp2_with (first | (go_at_call 27; go_loud ((with_reducible refine hmk.mono ?_); rintro en w1 ⟨rfl, nv', vs', hst, b1, _⟩)))
  go_ret2
  exact ⟨_, _, _, _, _, rfl, hst, ((((Below.refl _ _).alloc (Nat.le_refl _) _).alloc (by simp) _).alloc (by simp; omega) _).trans b1⟩
end Go.Proofs.Yteeiidkbihhekaa
