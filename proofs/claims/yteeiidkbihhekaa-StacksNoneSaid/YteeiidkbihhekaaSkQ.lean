/- Stacks that are none: every method. -/
import Derived.Test.YteeiidkbihhekaaSkP
set_option linter.unusedVariables false
set_option linter.unusedSimpArgs false
namespace Go.Proofs.Yteeiidkbihhekaa
open Go Go.RowKit Go.Maps Go.WideMaps
theorem eql73n (w : World) : (binOp .eql 73 (.map none) (.map none)).run Try.prog w = .ok (.bool true) w := by kernel_rfl
theorem neq73n (w : World) : (binOp .neq 73 (.map none) (.map none)).run Try.prog w = .ok (.bool false) w := by kernel_rfl
/-- a pointer to no stacks: nil, or to stacks that New did not make -/
def NoneM (w : World) (v : Value) : Prop := v = .pointer none ∨ ∃ g, v = .pointer (some ⟨g, 0, none⟩) ∧ w.heap[g]? = some (.cells #[.slice none 0 0, .map none, .map none] 76 (0, 0))
theorem NoneM.below {w w' : World} {v : Value} (h : NoneM w v) (b : Below w.heap.size w w') : NoneM w' v := by
  rcases h with h | ⟨g, h, hg⟩
  · exact .inl h
  · exact .inr ⟨g, h, (b.block g (Array.getElem?_eq_some_iff.1 hg).1).trans hg⟩
def Gives (w : World) (v : Value) (e : Ending) (w' : World) : Prop := e = .returned v ∧ Below w.heap.size w w'
theorem Gives.same {w : World} {v : Value} : Gives w v (.returned v) w := ⟨rfl, Below.refl _ _⟩
variable {w : World} {v : Value}
set_option maxRecDepth 100000 in
theorem none_there (h : NoneM w v) (n : Int) : Calls Try.prog 28 #[v, .int .i64 n] w fun e w' => e = .returned (.bool false) ∧ w' = w := by
  rcases h with rfl | ⟨g, rfl, hg⟩
  · go_enter Try.func28, Try.ntmps28
    go_wp2
    go_ret
    exact ⟨rfl, rfl⟩
  · have c0 : w.cell? ⟨g, 0, none⟩ = some (.slice none 0 0) := by simp [World.cell?, hg]
    by_cases h0 : 0 ≤ n
    · have d1 : decide (n < 0) = false := decide_eq_false (by omega)
      have d0 : decide (0 ≤ n) = true := decide_eq_true (by omega)
      go_enter Try.func28, Try.ntmps28
      go_wp2
      go_ret
      exact ⟨rfl, rfl⟩
    · have d0 : decide (0 ≤ n) = false := decide_eq_false (by omega)
      go_enter Try.func28, Try.ntmps28
      go_wp2
      go_ret
      exact ⟨rfl, rfl⟩
set_option maxRecDepth 100000 in
theorem none_len (h : NoneM w v) : Calls Try.prog 13 #[v] w fun e w' => e = .returned (.int .i64 0) ∧ w' = w := by
  rcases h with rfl | ⟨g, rfl, hg⟩
  · go_enter Try.func13, Try.ntmps13
    go_wp2
    go_ret
    exact ⟨rfl, rfl⟩
  · have c0 : w.cell? ⟨g, 0, none⟩ = some (.slice none 0 0) := by simp [World.cell?, hg]
    go_enter Try.func13, Try.ntmps13
    go_wp2
    go_ret
    exact ⟨rfl, rfl⟩
set_option maxRecDepth 100000 in
theorem none_push (h : NoneM w v) (a b c d : Int) : Calls Try.prog 10 #[v, .int .i64 a, .int .i64 b, .int .i64 c, .int .i64 d] w fun e w' => e = .returned (.tuple #[.int .i64 0, .bool false, .int .i64 1]) ∧ w' = w := by
  have eq73 := eql73n
  rcases h with rfl | ⟨g, rfl, hg⟩
  · go_enter Try.func10, Try.ntmps10
    go_wp2
    refine bodyPost_ret (v := .tuple #[.int .i64 0, .bool false, .int .i64 1]) (by simp [results, Try.results10, go_sem]) rfl ⟨rfl, rfl⟩
  · have c1 : w.cell? ⟨g, 1, none⟩ = some (.map none) := by simp [World.cell?, hg]
    go_enter Try.func10, Try.ntmps10
    go_wp2
    refine bodyPost_ret (v := .tuple #[.int .i64 0, .bool false, .int .i64 1]) (by simp [results, Try.results10, go_sem]) rfl ⟨rfl, rfl⟩
set_option maxRecDepth 100000 in
theorem none_node (h : NoneM w v) (n : Int) : Calls Try.prog 14 #[v, .int .i64 n] w fun e w' => e = .returned (.tuple #[.int .i64 0, .int .i64 0, .bool false]) ∧ w' = w := by
  have ht := none_there h n
  go_enter Try.func14, Try.ntmps14
  go_wp2_with (first | (go_at_call 28; (with_reducible refine ht.mono ?_); rintro en w1 ⟨rfl, rfl⟩))
  refine bodyPost_ret (v := .tuple #[.int .i64 0, .int .i64 0, .bool false]) (by simp [results, Try.results14, go_sem]) rfl ⟨rfl, rfl⟩
set_option maxRecDepth 100000 in
theorem none_links (h : NoneM w v) (n : Int) : Calls Try.prog 15 #[v, .int .i64 n] w fun e w' => e = .returned (.slice none 0 0) ∧ w' = w := by
  have ht := none_there h n
  go_enter Try.func15, Try.ntmps15
  go_wp2_with (first | (go_at_call 28; (with_reducible refine ht.mono ?_); rintro en w1 ⟨rfl, rfl⟩))
  go_ret
  exact ⟨rfl, rfl⟩
set_option maxRecDepth 100000 in
theorem none_ways0 (h : NoneM w v) (a b c d : Int) : Calls Try.prog 30 #[v, .int .i64 a, .int .i64 b, .int .i64 c, .int .i64 d] w fun e w' => e = .returned (.tuple #[.slice none 0 0, .int .i64 1]) ∧ w' = w := by
  have eq73 := eql73n
  rcases h with rfl | ⟨g, rfl, hg⟩
  · go_enter Try.func30, Try.ntmps30
    go_wp2
    refine bodyPost_ret (v := .tuple #[.slice none 0 0, .int .i64 1]) (by simp [results, Try.results30, go_sem]) rfl ⟨rfl, rfl⟩
  · have c1 : w.cell? ⟨g, 1, none⟩ = some (.map none) := by simp [World.cell?, hg]
    go_enter Try.func30, Try.ntmps30
    go_wp2
    refine bodyPost_ret (v := .tuple #[.slice none 0 0, .int .i64 1]) (by simp [results, Try.results30, go_sem]) rfl ⟨rfl, rfl⟩
set_option maxRecDepth 100000 in
theorem none_ways (h : NoneM w v) (a b : Int) : Calls Try.prog 11 #[v, .int .i64 a, .int .i64 b] w fun e w' => e = .returned (.tuple #[.slice none 0 0, .int .i64 1]) ∧ w' = w := by
  have ht := none_ways0 h a b (-1) (-1)
  go_enter Try.func11, Try.ntmps11
  go_wp2_with (first | (go_at_call 30; (with_reducible refine ht.mono ?_); rintro en w1 ⟨rfl, rfl⟩))
  refine bodyPost_ret (v := .tuple #[.slice none 0 0, .int .i64 1]) (by simp [results, Try.results11, go_sem]) rfl ⟨rfl, rfl⟩
set_option maxRecDepth 100000 in
theorem none_through (h : NoneM w v) (a b c d : Int) : Calls Try.prog 17 #[v, .int .i64 a, .int .i64 b, .int .i64 c, .int .i64 d] w fun e w' => e = .returned (.tuple #[.slice none 0 0, .int .i64 1]) ∧ w' = w := by
  have eq73 := neq73n
  have ht := none_ways0 h a b c d
  rcases h with rfl | ⟨g, rfl, hg⟩
  · go_enter Try.func17, Try.ntmps17
    go_wp2_with (first | (go_at_call 30; (with_reducible refine ht.mono ?_); rintro en w1 ⟨rfl, rfl⟩))
    refine bodyPost_ret (v := .tuple #[.slice none 0 0, .int .i64 1]) (by simp [results, Try.results17, go_sem]) rfl ⟨rfl, rfl⟩
  · have c1 : w.cell? ⟨g, 1, none⟩ = some (.map none) := by simp [World.cell?, hg]
    go_enter Try.func17, Try.ntmps17
    go_wp2_with (first | (go_at_call 30; (with_reducible refine ht.mono ?_); rintro en w1 ⟨rfl, rfl⟩))
    refine bodyPost_ret (v := .tuple #[.slice none 0 0, .int .i64 1]) (by simp [results, Try.results17, go_sem]) rfl ⟨rfl, rfl⟩
set_option maxRecDepth 100000 in
theorem none_find (h : NoneM w v) (a b : Int) (ha : Wf a) (hb : Wf b) : Calls Try.prog 23 #[v, .int .i64 a, .int .i64 b] w fun e w' => e = .returned (.tuple #[.int .i64 0, .bool false]) ∧ w' = w := by
  rcases h with rfl | ⟨g, rfl, hg⟩
  · go_enter Try.func23, Try.ntmps23
    go_wp2
    go_ret2
    exact ⟨rfl, rfl⟩
  · have c1 : w.cell? ⟨g, 1, none⟩ = some (.map none) := by simp [World.cell?, hg]
    have hlk : ∀ W : World, (Instr.lookup 73 (.map none) (.agg #[.int .i64 a, .int .i64 b]) false).run Try.prog W = .ok (.int .i64 0) W := by
      intro W
      exact Maps.look_nil false law84 Try.underlying73 (zero3 W) (key_kp ha hb)
    go_enter Try.func23, Try.ntmps23
    go_wp2
    go_ret2
    exact ⟨rfl, rfl⟩
set_option maxRecDepth 100000 in
theorem none_at (h : NoneM w v) (a : Int) (ha : Wf a) : Calls Try.prog 24 #[v, .int .i64 a] w fun e w' => e = .returned (.slice none 0 0) ∧ w' = w := by
  have hcl : Calls Try.prog 33 #[.slice none 0 0] w fun e w' => e = .returned (.slice none 0 0) ∧ w' = w := by
    have eq0 := eql33n
    go_enter Try.func33, Try.ntmps33
    go_wp2
    go_ret
    exact ⟨rfl, rfl⟩
  rcases h with rfl | ⟨g, rfl, hg⟩
  · go_enter Try.func24, Try.ntmps24
    go_wp2
    go_ret
    exact ⟨rfl, rfl⟩
  · have c2 : w.cell? ⟨g, 2, none⟩ = some (.map none) := by simp [World.cell?, hg]
    have hlk : ∀ W : World, (Instr.lookup 74 (.map none) (.int .i64 a) false).run Try.prog W = .ok (.slice none 0 0) W := by
      intro W
      exact Maps.look_nil false law3 Try.underlying74 (zero33 W) (kl := .int .i64 a) (by
        have := ha
        unfold Wf at this
        simp [keyOf, mapKey, Try.underlying3, this])
    go_enter Try.func24, Try.ntmps24
    go_wp2_with (first | (go_at_call 33; (with_reducible refine hcl.mono ?_); rintro en w1 ⟨rfl, rfl⟩))
    go_ret
    exact ⟨rfl, rfl⟩
set_option maxRecDepth 100000 in
set_option maxHeartbeats 4000000 in
theorem law_None (w : World) (a b c d x y z u : Int) (hb : Wf b) (hc : Wf c) : Calls Try.prog 7 #[.agg #[.int .i64 a, .int .i64 b, .int .i64 c, .int .i64 d], .agg #[.int .i64 x, .int .i64 y, .int .i64 z, .int .i64 u]] w fun e w' => e = .returned (.bool true) ∧ Below w.heap.size w w' := by
  go_enter Try.func7, Try.ntmps7
  go_wp2
  have BB : Below w.heap.size w ((w.alloc (.cells #[.int .i64 a, .int .i64 b, .int .i64 c, .int .i64 d] 48)).alloc (.cells #[.int .i64 x, .int .i64 y, .int .i64 z, .int .i64 u] 70)) := (below_al _ _).trans ((below_al _ _).mono (by simp))
  have cp : ∀ i, ((w.alloc (.cells #[.int .i64 a, .int .i64 b, .int .i64 c, .int .i64 d] 48)).alloc (.cells #[.int .i64 x, .int .i64 y, .int .i64 z, .int .i64 u] 70)).cell? ⟨w.heap.size, i, none⟩ = #[.int .i64 a, .int .i64 b, .int .i64 c, .int .i64 d][i]? := fun i =>
    ((below_al _ _).cell (p := ⟨w.heap.size, i, none⟩) (by simp)).trans (acell w _ _ i)
  have cq : ∀ i, ((w.alloc (.cells #[.int .i64 a, .int .i64 b, .int .i64 c, .int .i64 d] 48)).alloc (.cells #[.int .i64 x, .int .i64 y, .int .i64 z, .int .i64 u] 70)).cell? ⟨w.heap.size + 1, i, none⟩ = #[.int .i64 x, .int .i64 y, .int .i64 z, .int .i64 u][i]? := fun i => by
    have := acell (w.alloc (.cells #[.int .i64 a, .int .i64 b, .int .i64 c, .int .i64 d] 48)) #[.int .i64 x, .int .i64 y, .int .i64 z, .int .i64 u] 70 i
    rw [size_al] at this
    exact this
  have sz : ((w.alloc (.cells #[.int .i64 a, .int .i64 b, .int .i64 c, .int .i64 d] 48)).alloc (.cells #[.int .i64 x, .int .i64 y, .int .i64 z, .int .i64 u] 70)).heap.size = w.heap.size + 1 + 1 := by rw [size_al, size_al]
  replace cp := Kept.mk cp
  replace cq := Kept.mk cq
  replace BB := Kept.mk BB
  replace sz := Kept.mk sz
  generalize (w.alloc (.cells #[.int .i64 a, .int .i64 b, .int .i64 c, .int .i64 d] 48)).alloc (.cells #[.int .i64 x, .int .i64 y, .int .i64 z, .int .i64 u] 70) = W at *
  go_loopg [5, 6] 2 (fun gk v t wr => ∃ k : Nat, t = .int .i64 k ∧ Kept (k + gk = 2) ∧ Kept (NoneM wr v) ∧ Kept (Below W.heap.size W wr))
  case atStart => exact ⟨0, rfl, ⟨rfl⟩, ⟨.inl rfl⟩, ⟨Below.refl _ _⟩⟩
  case round =>
    obtain ⟨k, rfl, hk, hN, hB⟩ := hrel
    have hk' := hk.out
    have hs := sz.out
    by_cases hlt : k < 2
    · have d1 : decide (k < 2) = true := decide_eq_true hlt
      have d1' : decide ((k : Int) < 2) = true := decide_eq_true (by omega)
      have p0 : wr.cell? ⟨w.heap.size, 0, none⟩ = some (.int .i64 a) := (hB.out.cell (p := ⟨w.heap.size, 0, none⟩) (by show w.heap.size < _; omega)).trans (cp.out 0)
      have p1 : wr.cell? ⟨w.heap.size, 1, none⟩ = some (.int .i64 b) := (hB.out.cell (p := ⟨w.heap.size, 1, none⟩) (by show w.heap.size < _; omega)).trans (cp.out 1)
      have p2 : wr.cell? ⟨w.heap.size, 2, none⟩ = some (.int .i64 c) := (hB.out.cell (p := ⟨w.heap.size, 2, none⟩) (by show w.heap.size < _; omega)).trans (cp.out 2)
      have p3 : wr.cell? ⟨w.heap.size, 3, none⟩ = some (.int .i64 d) := (hB.out.cell (p := ⟨w.heap.size, 3, none⟩) (by show w.heap.size < _; omega)).trans (cp.out 3)
      have q0 : wr.cell? ⟨w.heap.size + 1, 0, none⟩ = some (.int .i64 x) := (hB.out.cell (p := ⟨w.heap.size + 1, 0, none⟩) (by show w.heap.size + 1 < _; omega)).trans (cq.out 0)
      have q1 : wr.cell? ⟨w.heap.size + 1, 1, none⟩ = some (.int .i64 y) := (hB.out.cell (p := ⟨w.heap.size + 1, 1, none⟩) (by show w.heap.size + 1 < _; omega)).trans (cq.out 1)
      have q2 : wr.cell? ⟨w.heap.size + 1, 2, none⟩ = some (.int .i64 z) := (hB.out.cell (p := ⟨w.heap.size + 1, 2, none⟩) (by show w.heap.size + 1 < _; omega)).trans (cq.out 2)
      have q3 : wr.cell? ⟨w.heap.size + 1, 3, none⟩ = some (.int .i64 u) := (hB.out.cell (p := ⟨w.heap.size + 1, 3, none⟩) (by show w.heap.size + 1 < _; omega)).trans (cq.out 3)
      clear hs
      go_wp2_with (first
        | (go_at_call 10; (with_reducible refine (none_push hN.out _ _ _ _).mono ?_); rintro en w1 ⟨rfl, rfl⟩)
        | (go_at_call 23; (with_reducible refine (none_find hN.out _ _ hb hc).mono ?_); rintro en w1 ⟨rfl, rfl⟩)
        | (go_at_call 14; (with_reducible refine (none_node hN.out _).mono ?_); rintro en w1 ⟨rfl, rfl⟩)
        | (go_at_call 11; (with_reducible refine (none_ways hN.out _ _).mono ?_); rintro en w1 ⟨rfl, rfl⟩)
        | (go_at_call 17; (with_reducible refine (none_through hN.out _ _ _ _).mono ?_); rintro en w1 ⟨rfl, rfl⟩)
        | (go_at_call 15; (with_reducible refine (none_links hN.out _).mono ?_); rintro en w1 ⟨rfl, rfl⟩)
        | (go_at_call 24; (with_reducible refine (none_at hN.out _ hc).mono ?_); rintro en w1 ⟨rfl, rfl⟩)
        | (go_at_call 13; (with_reducible refine (none_len hN.out).mono ?_); rintro en w1 ⟨rfl, rfl⟩))
      go_roundg (gk - 1)
      case measure => omega
      case rel => exact ⟨k + 1, by go_num, ⟨by omega⟩, ⟨.inr ⟨_, rfl, alloc_here _ _⟩⟩, ⟨hB.out.alloc hB.out.size _⟩⟩
    · have d1 : decide (k < 2) = false := decide_eq_false hlt
      have d1' : decide ((k : Int) < 2) = false := decide_eq_false (by omega)
      go_wp2_with (first | (go_at_call 8; (with_reducible refine (lives_in _).mono ?_); rintro en w1 ⟨rfl, b1⟩))
      go_ret
      refine ⟨rfl, ?_⟩
      have B1 := BB.out.trans (hB.out.mono (by have := BB.out.size; omega))
      exact B1.trans (b1.mono B1.size)
end Go.Proofs.Yteeiidkbihhekaa
