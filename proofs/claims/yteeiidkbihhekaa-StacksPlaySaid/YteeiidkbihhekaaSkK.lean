/- Stacks: down, at the way's end. -/
import Derived.Test.YteeiidkbihhekaaSkJ
set_option linter.unusedVariables false
set_option linter.unusedSimpArgs false
namespace Go.Proofs.Yteeiidkbihhekaa
open Go Go.RowKit Go.Maps Go.WideMaps
theorem info35 : (Try.prog.info? 35).map (fun i => (i.zero, i.size, i.bytes)) = some (some (.agg #[.int .i64 0, .slice none 0 0]), 2, 32) := by kernel_rfl
theorem ints_one (zs : List Int) : ∀ u ∈ ints zs, u.oneCell' = true := by
  intro u hu
  obtain ⟨z, _, rfl⟩ := List.mem_map.1 hu
  rfl
theorem oneCell_way {w : World} {B m : Nat} {u : Value} {xs : List Value} (hu : w.ownsRow B 3 1 u m xs) (n : Nat) : ∀ x ∈ [Value.int .i64 (n : Int), u], x.oneCell' = true := by
  intro x hx
  simp at hx
  rcases hx with rfl | rfl
  · rfl
  · obtain ⟨A, cp, rfl⟩ := own_len hu
    rfl
variable {w : World} {S q g : Nat} {nd lk : Int} {ov : List Int} {vo vw : Value} {us : List Value} {out : List Wy}
set_option maxRecDepth 100000 in
set_option maxHeartbeats 1000000 in
theorem down0_skip (h : Srch w S q g nd lk ov vo vw us out) (n : Nat) (hnd : ¬ nd < 0) (ho : out.length ≤ 4097) :
    Calls Try.prog 36 #[.pointer (some ⟨q, 0, none⟩), .int .i64 n, .int .i64 0, .bool false] w fun e w' => e = .returned (.bool (decide (out.length ≤ 4096))) ∧ w' = w := by
  have c1 : w.cell? ⟨q, 1, none⟩ = some (.int .i64 nd) := h.cell 1
  have c4 : w.cell? ⟨q, 4, none⟩ = some vw := h.cell 4
  obtain ⟨A, cap, rfl⟩ := own_len h.wm.outr
  have d1 : decide (nd < 0) = false := decide_eq_false hnd
  by_cases hl : out.length ≤ 4096
  · have d2 : decide (out.length ≤ 4096) = true := decide_eq_true hl
    have d2' : decide ((out.length : Int) ≤ 4096) = true := decide_eq_true (by omega)
    rw [d2]
    go_enter Try.func36, Try.ntmps36
    go_wp2
    go_ret
    exact ⟨rfl, rfl⟩
  · have d2 : decide (out.length ≤ 4096) = false := decide_eq_false hl
    have d2' : decide ((out.length : Int) ≤ 4096) = false := decide_eq_false (by omega)
    rw [d2]
    go_enter Try.func36, Try.ntmps36
    go_wp2
    go_ret
    exact ⟨rfl, rfl⟩
set_option maxRecDepth 100000 in
set_option maxHeartbeats 1000000 in
theorem down0_take (h : Srch w S q g nd lk ov vo vw us out) (hS : S ≤ w.heap.size) (n : Nat) (met : Bool) (hnd : nd < 0 ∨ met = true) (ho : out.length ≤ 4096) (hov : ov.length ≤ 1099511627776) :
    Calls Try.prog 36 #[.pointer (some ⟨q, 0, none⟩), .int .i64 n, .int .i64 0, .bool met] w fun e w' => e = .returned (.bool (decide (out.length + 1 ≤ 4096))) ∧ ∃ vw' us', Srch w' S q g nd lk ov vo vw' us' (out ++ [((n : Int), ov.reverse)]) ∧ Fr3 w w' q vo vw vo vw' := by
  have c1 : w.cell? ⟨q, 1, none⟩ = some (.int .i64 nd) := h.cell 1
  have c3 : w.cell? ⟨q, 3, none⟩ = some vo := h.cell 3
  have hcl := clone_ints h.ovr (ints_one ov) hov
  obtain ⟨i35, hi, z0, z1, z2⟩ := info_parts info35
  have d1 : (decide (nd < 0) || met) = true := by
    rcases hnd with h1 | h1
    · simp [h1]
    · simp [h1]
  by_cases hneg : nd < 0
  · have d0 : decide (nd < 0) = true := decide_eq_true hneg
    by_cases hl : out.length + 1 ≤ 4096
    · have d2 : decide (out.length + 1 ≤ 4096) = true := decide_eq_true hl
      have d2' : decide (((out.length : Int) + 1) ≤ 4096) = true := decide_eq_true (by omega)
      rw [d2]
      go_enter Try.func36, Try.ntmps36
      go_wp2_with (first
        | (go_at_call 33; (with_reducible refine hcl.mono ?_); rintro en w1 ⟨u, rfl, hu, b1⟩; obtain ⟨A2, cap2, rfl⟩ := own_len hu; have hrv := reverse_in hu hov)
        | (go_at_call 37; (with_reducible refine hrv.mono ?_); rintro en w2 ⟨rfl, hu2, hg2⟩
           have b2 : Below w.heap.size w w2 := b1.grown hg2 b1.size (fun k hk => (hu.lt k hk).1)
           have h2 := h.below b2
           have c4 : w2.cell? ⟨q, 4, none⟩ = some vw := h2.cell 4
           have ho2 := h2.wm.outr
           replace h2 := Kept.mk h2
           have one := oneCell_way hu n
           have hS2 : S ≤ (w2.alloc (.cells #[.int .i64 n, .slice A2 ov.length cap2] 35)).heap.size := Nat.le_trans hS (Nat.le_trans b2.size (by simp))
           have nw : ∀ j x, [Value.int .i64 (n : Int), .slice A2 ov.length cap2][j]? = some x → (w2.alloc (.cells #[.int .i64 n, .slice A2 ov.length cap2] 35)).cell? ((⟨w2.heap.size, 0, none⟩ : Addr).add j) = some x := World.news_of_block (cs := #[.int .i64 n, .slice A2 ov.length cap2]) (alloc_here w2 _)
           clear hrv hcl)
        | (at_builtin; refine wpList_append_own_at _ rfl _ _ 30 rfl S 35 i35 (.agg #[.int .i64 0, .slice none 0 0]) 2 32 Try.underlying30 hi z0 z1 z2 rfl (by decide) vw _ _ rfl (ho2.alloc _) ⟨w2.heap.size, 0, none⟩ 1 1 [.int .i64 n, .slice A2 ov.length cap2] rfl rfl nw one (by unfold maxLen; omega) (by omega) hS2 ?_
           intro vw' w3 hown3 hg3 _ hat3
           obtain ⟨A, cap, rfl⟩ := own_len hown3
           have al3 := below_al w2 (.cells #[.int .i64 n, .slice A2 ov.length cap2] 35)
           have ha := h2.out.below al3
           have hq3 := (hg3.block q ha.qlt (Ne.symm ha.vw_ne)).trans ha.hd
           have k4 : w3.cell? ⟨q, 4, none⟩ = some vw := by simp [World.cell?, hq3]
           have f4 : w3.frozen? ⟨q, 4, none⟩ = false := Joins.unfrozen_of_block hq3 4
           have fin := h.add (n := n) hS (b2.trans (al3.mono b2.size)) ((by simpa using hu2.alloc _) : (w2.alloc (.cells #[.int .i64 n, .slice A2 ov.length cap2] 35)).ownsRow w.heap.size 3 1 (.slice A2 ov.length cap2) ov.reverse.length (ints ov.reverse)) hg3 hown3 (hat3.imp id (fun e => ⟨_, e, Nat.le_refl _⟩))
           have k5 : (w3.setCell ⟨q, 4, none⟩ (.slice A (out.length + 1) cap)).cell? ⟨q, 4, none⟩ = some (.slice A (out.length + 1) cap) := fin.1.cell 4
           replace fin := Kept.mk fin
           clear h2 ha hq3 hown3 hg3 hat3))
      go_ret
      exact ⟨rfl, _, _, fin.out.1, fin.out.2⟩
    · have d2 : decide (out.length + 1 ≤ 4096) = false := decide_eq_false hl
      have d2' : decide (((out.length : Int) + 1) ≤ 4096) = false := decide_eq_false (by omega)
      rw [d2]
      go_enter Try.func36, Try.ntmps36
      go_wp2_with (first
        | (go_at_call 33; (with_reducible refine hcl.mono ?_); rintro en w1 ⟨u, rfl, hu, b1⟩; obtain ⟨A2, cap2, rfl⟩ := own_len hu; have hrv := reverse_in hu hov)
        | (go_at_call 37; (with_reducible refine hrv.mono ?_); rintro en w2 ⟨rfl, hu2, hg2⟩
           have b2 : Below w.heap.size w w2 := b1.grown hg2 b1.size (fun k hk => (hu.lt k hk).1)
           have h2 := h.below b2
           have c4 : w2.cell? ⟨q, 4, none⟩ = some vw := h2.cell 4
           have ho2 := h2.wm.outr
           replace h2 := Kept.mk h2
           have one := oneCell_way hu n
           have hS2 : S ≤ (w2.alloc (.cells #[.int .i64 n, .slice A2 ov.length cap2] 35)).heap.size := Nat.le_trans hS (Nat.le_trans b2.size (by simp))
           have nw : ∀ j x, [Value.int .i64 (n : Int), .slice A2 ov.length cap2][j]? = some x → (w2.alloc (.cells #[.int .i64 n, .slice A2 ov.length cap2] 35)).cell? ((⟨w2.heap.size, 0, none⟩ : Addr).add j) = some x := World.news_of_block (cs := #[.int .i64 n, .slice A2 ov.length cap2]) (alloc_here w2 _)
           clear hrv hcl)
        | (at_builtin; refine wpList_append_own_at _ rfl _ _ 30 rfl S 35 i35 (.agg #[.int .i64 0, .slice none 0 0]) 2 32 Try.underlying30 hi z0 z1 z2 rfl (by decide) vw _ _ rfl (ho2.alloc _) ⟨w2.heap.size, 0, none⟩ 1 1 [.int .i64 n, .slice A2 ov.length cap2] rfl rfl nw one (by unfold maxLen; omega) (by omega) hS2 ?_
           intro vw' w3 hown3 hg3 _ hat3
           obtain ⟨A, cap, rfl⟩ := own_len hown3
           have al3 := below_al w2 (.cells #[.int .i64 n, .slice A2 ov.length cap2] 35)
           have ha := h2.out.below al3
           have hq3 := (hg3.block q ha.qlt (Ne.symm ha.vw_ne)).trans ha.hd
           have k4 : w3.cell? ⟨q, 4, none⟩ = some vw := by simp [World.cell?, hq3]
           have f4 : w3.frozen? ⟨q, 4, none⟩ = false := Joins.unfrozen_of_block hq3 4
           have fin := h.add (n := n) hS (b2.trans (al3.mono b2.size)) ((by simpa using hu2.alloc _) : (w2.alloc (.cells #[.int .i64 n, .slice A2 ov.length cap2] 35)).ownsRow w.heap.size 3 1 (.slice A2 ov.length cap2) ov.reverse.length (ints ov.reverse)) hg3 hown3 (hat3.imp id (fun e => ⟨_, e, Nat.le_refl _⟩))
           have k5 : (w3.setCell ⟨q, 4, none⟩ (.slice A (out.length + 1) cap)).cell? ⟨q, 4, none⟩ = some (.slice A (out.length + 1) cap) := fin.1.cell 4
           replace fin := Kept.mk fin
           clear h2 ha hq3 hown3 hg3 hat3))
      go_ret
      exact ⟨rfl, _, _, fin.out.1, fin.out.2⟩
  · have d0 : decide (nd < 0) = false := decide_eq_false hneg
    obtain rfl : met = true := hnd.resolve_left hneg
    by_cases hl : out.length + 1 ≤ 4096
    · have d2 : decide (out.length + 1 ≤ 4096) = true := decide_eq_true hl
      have d2' : decide (((out.length : Int) + 1) ≤ 4096) = true := decide_eq_true (by omega)
      rw [d2]
      go_enter Try.func36, Try.ntmps36
      go_wp2_with (first
        | (go_at_call 33; (with_reducible refine hcl.mono ?_); rintro en w1 ⟨u, rfl, hu, b1⟩; obtain ⟨A2, cap2, rfl⟩ := own_len hu; have hrv := reverse_in hu hov)
        | (go_at_call 37; (with_reducible refine hrv.mono ?_); rintro en w2 ⟨rfl, hu2, hg2⟩
           have b2 : Below w.heap.size w w2 := b1.grown hg2 b1.size (fun k hk => (hu.lt k hk).1)
           have h2 := h.below b2
           have c4 : w2.cell? ⟨q, 4, none⟩ = some vw := h2.cell 4
           have ho2 := h2.wm.outr
           replace h2 := Kept.mk h2
           have one := oneCell_way hu n
           have hS2 : S ≤ (w2.alloc (.cells #[.int .i64 n, .slice A2 ov.length cap2] 35)).heap.size := Nat.le_trans hS (Nat.le_trans b2.size (by simp))
           have nw : ∀ j x, [Value.int .i64 (n : Int), .slice A2 ov.length cap2][j]? = some x → (w2.alloc (.cells #[.int .i64 n, .slice A2 ov.length cap2] 35)).cell? ((⟨w2.heap.size, 0, none⟩ : Addr).add j) = some x := World.news_of_block (cs := #[.int .i64 n, .slice A2 ov.length cap2]) (alloc_here w2 _)
           clear hrv hcl)
        | (at_builtin; refine wpList_append_own_at _ rfl _ _ 30 rfl S 35 i35 (.agg #[.int .i64 0, .slice none 0 0]) 2 32 Try.underlying30 hi z0 z1 z2 rfl (by decide) vw _ _ rfl (ho2.alloc _) ⟨w2.heap.size, 0, none⟩ 1 1 [.int .i64 n, .slice A2 ov.length cap2] rfl rfl nw one (by unfold maxLen; omega) (by omega) hS2 ?_
           intro vw' w3 hown3 hg3 _ hat3
           obtain ⟨A, cap, rfl⟩ := own_len hown3
           have al3 := below_al w2 (.cells #[.int .i64 n, .slice A2 ov.length cap2] 35)
           have ha := h2.out.below al3
           have hq3 := (hg3.block q ha.qlt (Ne.symm ha.vw_ne)).trans ha.hd
           have k4 : w3.cell? ⟨q, 4, none⟩ = some vw := by simp [World.cell?, hq3]
           have f4 : w3.frozen? ⟨q, 4, none⟩ = false := Joins.unfrozen_of_block hq3 4
           have fin := h.add (n := n) hS (b2.trans (al3.mono b2.size)) ((by simpa using hu2.alloc _) : (w2.alloc (.cells #[.int .i64 n, .slice A2 ov.length cap2] 35)).ownsRow w.heap.size 3 1 (.slice A2 ov.length cap2) ov.reverse.length (ints ov.reverse)) hg3 hown3 (hat3.imp id (fun e => ⟨_, e, Nat.le_refl _⟩))
           have k5 : (w3.setCell ⟨q, 4, none⟩ (.slice A (out.length + 1) cap)).cell? ⟨q, 4, none⟩ = some (.slice A (out.length + 1) cap) := fin.1.cell 4
           replace fin := Kept.mk fin
           clear h2 ha hq3 hown3 hg3 hat3))
      go_ret
      exact ⟨rfl, _, _, fin.out.1, fin.out.2⟩
    · have d2 : decide (out.length + 1 ≤ 4096) = false := decide_eq_false hl
      have d2' : decide (((out.length : Int) + 1) ≤ 4096) = false := decide_eq_false (by omega)
      rw [d2]
      go_enter Try.func36, Try.ntmps36
      go_wp2_with (first
        | (go_at_call 33; (with_reducible refine hcl.mono ?_); rintro en w1 ⟨u, rfl, hu, b1⟩; obtain ⟨A2, cap2, rfl⟩ := own_len hu; have hrv := reverse_in hu hov)
        | (go_at_call 37; (with_reducible refine hrv.mono ?_); rintro en w2 ⟨rfl, hu2, hg2⟩
           have b2 : Below w.heap.size w w2 := b1.grown hg2 b1.size (fun k hk => (hu.lt k hk).1)
           have h2 := h.below b2
           have c4 : w2.cell? ⟨q, 4, none⟩ = some vw := h2.cell 4
           have ho2 := h2.wm.outr
           replace h2 := Kept.mk h2
           have one := oneCell_way hu n
           have hS2 : S ≤ (w2.alloc (.cells #[.int .i64 n, .slice A2 ov.length cap2] 35)).heap.size := Nat.le_trans hS (Nat.le_trans b2.size (by simp))
           have nw : ∀ j x, [Value.int .i64 (n : Int), .slice A2 ov.length cap2][j]? = some x → (w2.alloc (.cells #[.int .i64 n, .slice A2 ov.length cap2] 35)).cell? ((⟨w2.heap.size, 0, none⟩ : Addr).add j) = some x := World.news_of_block (cs := #[.int .i64 n, .slice A2 ov.length cap2]) (alloc_here w2 _)
           clear hrv hcl)
        | (at_builtin; refine wpList_append_own_at _ rfl _ _ 30 rfl S 35 i35 (.agg #[.int .i64 0, .slice none 0 0]) 2 32 Try.underlying30 hi z0 z1 z2 rfl (by decide) vw _ _ rfl (ho2.alloc _) ⟨w2.heap.size, 0, none⟩ 1 1 [.int .i64 n, .slice A2 ov.length cap2] rfl rfl nw one (by unfold maxLen; omega) (by omega) hS2 ?_
           intro vw' w3 hown3 hg3 _ hat3
           obtain ⟨A, cap, rfl⟩ := own_len hown3
           have al3 := below_al w2 (.cells #[.int .i64 n, .slice A2 ov.length cap2] 35)
           have ha := h2.out.below al3
           have hq3 := (hg3.block q ha.qlt (Ne.symm ha.vw_ne)).trans ha.hd
           have k4 : w3.cell? ⟨q, 4, none⟩ = some vw := by simp [World.cell?, hq3]
           have f4 : w3.frozen? ⟨q, 4, none⟩ = false := Joins.unfrozen_of_block hq3 4
           have fin := h.add (n := n) hS (b2.trans (al3.mono b2.size)) ((by simpa using hu2.alloc _) : (w2.alloc (.cells #[.int .i64 n, .slice A2 ov.length cap2] 35)).ownsRow w.heap.size 3 1 (.slice A2 ov.length cap2) ov.reverse.length (ints ov.reverse)) hg3 hown3 (hat3.imp id (fun e => ⟨_, e, Nat.le_refl _⟩))
           have k5 : (w3.setCell ⟨q, 4, none⟩ (.slice A (out.length + 1) cap)).cell? ⟨q, 4, none⟩ = some (.slice A (out.length + 1) cap) := fin.1.cell 4
           replace fin := Kept.mk fin
           clear h2 ha hq3 hown3 hg3 hat3))
      go_ret
      exact ⟨rfl, _, _, fin.out.1, fin.out.2⟩
end Go.Proofs.Yteeiidkbihhekaa
