/- Stacks: lives. -/
import Derived.Test.YteeiidkbihhekaaSkO
set_option linter.unusedVariables false
set_option linter.unusedSimpArgs false
namespace Go.Proofs.Yteeiidkbihhekaa
open Go Go.RowKit Go.Maps Go.WideMaps
def l0 : List N := [⟨0, 0, []⟩]
def l1 : List N := [⟨0, 0, []⟩, ⟨1, 1, [(0, 7)]⟩]
def l2 : List N := [⟨0, 0, []⟩, ⟨1, 1, [(0, 7)]⟩, ⟨2, 1, [(0, 8)]⟩]
def l3 : List N := [⟨0, 0, []⟩, ⟨1, 1, [(0, 7)]⟩, ⟨2, 1, [(0, 8)]⟩, ⟨3, 2, [(1, 9)]⟩]
def l4 : List N := [⟨0, 0, []⟩, ⟨1, 1, [(0, 7)]⟩, ⟨2, 1, [(0, 8)]⟩, ⟨3, 2, [(1, 9), (2, 9)]⟩]
theorem push1 : pushP l0 0 1 1 7 = (l1, 1, true, 0) := rfl
theorem push2 : pushP l1 0 1 1 7 = (l1, 1, false, 0) := rfl
theorem push3 : pushP l1 0 2 1 8 = (l2, 2, true, 0) := rfl
theorem push4 : pushP l2 1 3 2 9 = (l3, 3, true, 0) := rfl
theorem push5 : pushP l3 2 3 2 9 = (l4, 3, true, 0) := rfl
theorem push6 : pushP l4 3 1 2 0 = (l4, 0, false, 2) := rfl
theorem ways4 : waysP l4 3 2 (-1) (-1) = (0, [(0, [7, 9]), (0, [8, 9])]) := rfl
theorem thru4 : thruP l4 3 2 3 1 = (0, [(0, [8, 9])]) := rfl
theorem linked0 : Linked l0 := by
  intro n hn l hl
  simp [l0] at hn
  subst hn
  simp at hl
theorem linked4 : Linked l4 := by
  have := ((((linked0.pushP 0 1 1 7).pushP 0 2 1 8).pushP 1 3 2 9).pushP 2 3 2 9)
  exact this
theorem wf_i {a : Int} (h : decide (-9223372036854775808 ≤ a ∧ a ≤ 9223372036854775807) = true) : Wf a := by
  have := of_decide_eq_true h
  exact Wf.of this.1 this.2
theorem WaysR.tail {w : World} {a c c' : Nat} {x y : Wy} (h : WaysR w (.slice (some ⟨a, 0, none⟩) 2 c) [x, y]) : WaysR w (.slice (some ⟨a, 2, none⟩) 1 c') [y] := by
  obtain ⟨A, cap, us, hv, hr⟩ := h
  obtain ⟨a', off, hA, h0, h1, h2⟩ := hr 1 (by simp)
  cases hv
  cases hA
  refine ⟨_, c', [vAt us 1], rfl, fun i hi => ⟨a, 2, rfl, ?_⟩⟩
  have : i = 0 := by simp at hi; omega
  subst this
  exact ⟨h0, h1, h2⟩
theorem lit_ways (w : World) : WaysR (((w.alloc (.cells #[.int .i64 7, .int .i64 9] 3)).alloc (.cells #[.int .i64 8, .int .i64 9] 3)).alloc (.cells #[.int .i64 0, .slice (some ⟨w.heap.size, 0, none⟩) 2 2, .int .i64 0, .slice (some ⟨w.heap.size + 1, 0, none⟩) 2 2] 35)) (.slice (some ⟨w.heap.size + 1 + 1, 0, none⟩) 2 2) [(0, [7, 9]), (0, [8, 9])] := by
  have s1 := size_al w (.cells #[.int .i64 7, .int .i64 9] 3)
  have s2 := size_al (w.alloc (.cells #[.int .i64 7, .int .i64 9] 3)) (.cells #[.int .i64 8, .int .i64 9] 3)
  have b2 := below_al (w.alloc (.cells #[.int .i64 7, .int .i64 9] 3)) (.cells #[.int .i64 8, .int .i64 9] 3)
  have b3 := below_al ((w.alloc (.cells #[.int .i64 7, .int .i64 9] 3)).alloc (.cells #[.int .i64 8, .int .i64 9] 3)) (.cells #[.int .i64 0, .slice (some ⟨w.heap.size, 0, none⟩) 2 2, .int .i64 0, .slice (some ⟨w.heap.size + 1, 0, none⟩) 2 2] 35)
  have x : ∀ i, _ := fun i => acell w #[.int .i64 7, .int .i64 9] 3 i
  have y : ∀ i, _ := fun i => acell (w.alloc (.cells #[.int .i64 7, .int .i64 9] 3)) #[.int .i64 8, .int .i64 9] 3 i
  have z : ∀ i, _ := fun i => acell ((w.alloc (.cells #[.int .i64 7, .int .i64 9] 3)).alloc (.cells #[.int .i64 8, .int .i64 9] 3)) #[.int .i64 0, .slice (some ⟨w.heap.size, 0, none⟩) 2 2, .int .i64 0, .slice (some ⟨w.heap.size + 1, 0, none⟩) 2 2] 35 i
  rw [s1] at y s2
  rw [s2] at z
  have i7 : IntsR (w.alloc (.cells #[.int .i64 7, .int .i64 9] 3)) (.slice (some ⟨w.heap.size, 0, none⟩) 2 2) [7, 9] := by
    refine ⟨_, 2, rfl, fun i hi => ⟨_, 0, rfl, ?_⟩⟩
    rw [Nat.zero_add, x i]
    match i, hi with
    | 0, _ => rfl
    | 1, _ => rfl
  have i8 : IntsR ((w.alloc (.cells #[.int .i64 7, .int .i64 9] 3)).alloc (.cells #[.int .i64 8, .int .i64 9] 3)) (.slice (some ⟨w.heap.size + 1, 0, none⟩) 2 2) [8, 9] := by
    refine ⟨_, 2, rfl, fun i hi => ⟨_, 0, rfl, ?_⟩⟩
    rw [Nat.zero_add, y i]
    match i, hi with
    | 0, _ => rfl
    | 1, _ => rfl
  have j7 := (i7.below b2).below b3
  have j8 := i8.below b3
  refine ⟨_, 2, [.slice (some ⟨w.heap.size, 0, none⟩) 2 2, .slice (some ⟨w.heap.size + 1, 0, none⟩) 2 2], rfl, fun i hi => ⟨_, 0, rfl, ?_, ?_, ?_⟩⟩
  · rw [Nat.zero_add, z]
    match i, hi with
    | 0, _ => rfl
    | 1, _ => rfl
  · rw [Nat.zero_add, z]
    match i, hi with
    | 0, _ => rfl
    | 1, _ => rfl
  · match i, hi with
    | 0, _ => exact j7
    | 1, _ => exact j8
set_option maxRecDepth 100000 in
set_option maxHeartbeats 1000000 in
theorem lives_in (w : World) : Calls Try.prog 8 #[] w fun e w' => e = .returned (.bool true) ∧ Below w.heap.size w w' := by
  go_enter Try.func8, Try.ntmps8
  go_wp2_with (first | (go_at_call 9; (with_reducible refine (new_ok 0 (by omega) (wf_i rfl) _).mono ?_); rintro en w1 ⟨g, bm, br, nv, vs, rfl, h1, b1⟩))
  have k0 : StM w1 w.heap.size g nv bm br vs l0 0 := h1
  clear h1
  have q2 := Push_in k0 (by omega) (by decide) 0 1 1 7 (wf_i rfl) (wf_i rfl)
  rw [push1] at q2
  refine q2.mono ?_
  rintro en w2 ⟨rfl, nv2, vs2, k1, b2, t2⟩
  clear q2 t2 k0
  go_wp2_with fail
  have q3 := Push_in k1 (by omega) (by decide) 0 1 1 7 (wf_i rfl) (wf_i rfl)
  rw [push2] at q3
  refine q3.mono ?_
  rintro en w3 ⟨rfl, nv3, vs3, k2, b3, t3⟩
  clear q3 t3 k1
  go_wp2_with fail
  have q4 := Push_in k2 (by omega) (by decide) 0 2 1 8 (wf_i rfl) (wf_i rfl)
  rw [push3] at q4
  refine q4.mono ?_
  rintro en w4 ⟨rfl, nv4, vs4, k3, b4, t4⟩
  clear q4 t4 k2
  go_wp2_with fail
  have q5 := Push_in k3 (by omega) (by decide) 1 3 2 9 (wf_i rfl) (wf_i rfl)
  rw [push4] at q5
  refine q5.mono ?_
  rintro en w5 ⟨rfl, nv5, vs5, k4, b5, t5⟩
  clear q5 t5 k3
  go_wp2_with fail
  have q6 := Push_in k4 (by omega) (by decide) 2 3 2 9 (wf_i rfl) (wf_i rfl)
  rw [push5] at q6
  refine q6.mono ?_
  rintro en w6 ⟨rfl, nv6, vs6, k5, b6, t6⟩
  clear q6 t6 k4
  go_wp2_with fail
  have q7 := Ways_in k5 (by omega) linked4 3 2
  rw [ways4] at q7
  refine q7.mono ?_
  rintro en w7 ⟨v7, us7, rfl, m7, b7⟩
  have k6 := k5.below b7
  clear q7 k5
  go_wp2_with fail
  have q8 := Through_in k6 (by omega) linked4 3 2 3 1
  rw [thru4] at q8
  refine q8.mono ?_
  rintro en w8 ⟨v8, us8, rfl, m8, b8⟩
  have k7 := k6.below b8
  have r7 := m7.reads.below b8
  have r8 := m8.reads
  clear q8 k6
  go_wp2_with fail
  refine (push_arg k7 3 (by decide) 1 2 0 (by decide)).mono ?_
  rintro en w9 ⟨e9, rfl⟩
  unfold answer at e9
  subst e9
  go_wp2_with fail
  refine (len_in k7).mono ?_
  rintro en w10 ⟨rfl, rfl⟩
  go_wp2_with fail
  refine (sameWays_r (r7.below (((below_al _ _).trans ((below_al _ _).mono (by simp))).trans ((below_al _ _).mono (by simp; omega)))) (lit_ways _) ⟨by decide, by decide⟩ ⟨by decide, by decide⟩).mono ?_
  rintro en w11 ⟨rfl, n11, rfl⟩
  have b11 : Below w10.heap.size w10 (((((w10.alloc (.cells #[.int .i64 7, .int .i64 9] 3)).alloc (.cells #[.int .i64 8, .int .i64 9] 3)).alloc (.cells #[.int .i64 0, .slice (some ⟨w10.heap.size, 0, none⟩) 2 2, .int .i64 0, .slice (some ⟨w10.heap.size + 1, 0, none⟩) 2 2] 35)).drewN n11)) :=
    below_drewN (((below_al _ _).trans ((below_al _ _).mono (by simp))).trans ((below_al _ _).mono (by simp; omega))) _
  generalize ((((w10.alloc (.cells #[.int .i64 7, .int .i64 9] 3)).alloc (.cells #[.int .i64 8, .int .i64 9] 3)).alloc (.cells #[.int .i64 0, .slice (some ⟨w10.heap.size, 0, none⟩) 2 2, .int .i64 0, .slice (some ⟨w10.heap.size + 1, 0, none⟩) 2 2] 35)).drewN n11) = w11 at *
  obtain ⟨a7, c7, hv7, _, _, hc7, _⟩ := own_cells m7.outr (by decide)
  simp only [List.length_cons, List.length_nil] at hv7 hc7
  subst hv7
  have e7 : decide (([(0, [7, 9]), (0, [8, 9])] : List Wy) = [(0, [7, 9]), (0, [8, 9])]) = true := decide_eq_true rfl
  rw [e7]
  go_wp2_with fail
  refine (sameWays_r (r8.below b11) (r7.below b11).tail ⟨by decide, by decide⟩ ⟨by decide, by decide⟩).mono ?_
  rintro en w12 ⟨rfl, n12, rfl⟩
  have e8 : decide (([(0, [8, 9])] : List Wy) = [(0, [8, 9])]) = true := decide_eq_true rfl
  rw [e8]
  go_wp2_with fail
  go_ret
  refine ⟨rfl, below_drewN ?_ _⟩
  have B := ((((b1.trans b2).trans b3).trans b4).trans b5).trans b6
  have B7 := B.trans (b7.mono B.size)
  have B8 := B7.trans (b8.mono B7.size)
  exact B8.trans (b11.mono B8.size)
end Go.Proofs.Yteeiidkbihhekaa
