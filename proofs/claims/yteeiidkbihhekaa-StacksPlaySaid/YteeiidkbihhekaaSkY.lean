/- The reference's stacks: At, Push. -/
import Derived.Test.YteeiidkbihhekaaSkX
set_option linter.unusedVariables false
set_option linter.unusedSimpArgs false
namespace Go.Proofs.Yteeiidkbihhekaa
open Go Go.RowKit
variable {w : World} {S r p : Nat} {nv : Value} {vs : List Value} {ns : List N}
set_option maxRecDepth 100000 in
set_option maxHeartbeats 1000000 in
theorem rat_in (h : RM w S r nv vs ns p) (hf : ns.length ≤ 2097152) (l : Int) : Calls Try.prog 25 #[.pointer (some ⟨r, 0, none⟩), .int .i64 l] w (IntsM w w.heap.size (rowsFrom 0 ns l)) := by
  have c0 := h.c0
  obtain ⟨A, cap, rfl⟩ := own_len h.nod
  have hrl : r < w.heap.size := (Array.getElem?_eq_some_iff.1 h.hd).1
  replace h := Kept.mk h
  go_enter Try.func25, Try.ntmps25
  go_wp2
  clear c0
  go_loopg [5, 6] ns.length (fun gk v t wr => ∃ k : Nat, t = .int .i64 k ∧ Kept (k + gk = ns.length) ∧ Kept (wr.ownsRow w.heap.size 3 1 v (rowsFrom 0 (ns.take k) l).length (ints (rowsFrom 0 (ns.take k) l))) ∧ Kept (Below w.heap.size w wr))
  case atStart => exact ⟨0, rfl, ⟨by omega⟩, ⟨own_nil _ _ _ _⟩, ⟨Below.refl _ _⟩⟩
  case round =>
    obtain ⟨k, rfl, hk, hv, hB⟩ := hrel
    have hk' := hk.out
    have c0 := (hB.out.cell (p := ⟨r, 0, none⟩) hrl).trans h.out.c0
    by_cases hlt : k < ns.length
    · have f1 : decide (k < ns.length) = true := decide_eq_true hlt
      have f1' : decide ((k : Int) < (ns.length : Int)) = true := decide_eq_true (by omega)
      obtain ⟨ad, cp, hva, _, hal, hcp, _, x1, _⟩ := h.out.node k hlt
      cases hva
      have x1 := (hB.out.cell (p := ⟨ad, k * 3 + 1, none⟩) hal).trans x1
      have tl : (ns.take k).length = k := by simp; omega
      have sn := rowsFrom_snoc ns[k] l (ns.take k) 0
      rw [← List.take_succ_eq_append_getElem hlt, tl, Int.zero_add] at sn
      have hrl2 := rowsFrom_len (ns.take k) 0 l
      rw [tl] at hrl2
      replace sn := Kept.mk sn
      clear tl
      obtain ⟨lv, hlv⟩ : ∃ x, (ns[k]).lv = x := ⟨_, rfl⟩
      rw [hlv] at x1 sn
      clear hlv
      obtain ⟨i3, hi3, z0, z1, z2⟩ := info_parts info3
      have hS := hB.out.size
      by_cases e : lv = l
      · subst e
        have ov := hv.out.alloc (.cells #[.int .i64 k] 3)
        have nw : ∀ q u, [Value.int .i64 (k : Int)][q]? = some u → (wr.alloc (.cells #[.int .i64 k] 3)).cell? ((⟨wr.heap.size, 0, none⟩ : Addr).add q) = some u := World.news_of_block (cs := #[.int .i64 k]) (alloc_here wr _)
        have one : ∀ u ∈ [Value.int .i64 (k : Int)], u.oneCell' = true := by
          intro u hu
          simp at hu
          subst hu
          rfl
        have hS2 : w.heap.size ≤ (wr.alloc (.cells #[.int .i64 k] 3)).heap.size := Nat.le_trans hS (by simp)
        have Ba := Kept.mk (hB.out.trans ((below_al wr (.cells #[.int .i64 k] 3)).mono hS))
        generalize rowsFrom 0 (ns.take k) lv = R at *
        go_wp2_with (first
          | (at_builtin; refine wpList_append_own_at _ rfl _ _ 33 rfl w.heap.size 3 i3 (.int .i64 0) 1 8 Try.underlying33 hi3 z0 z1 z2 rfl (by decide) _ _ _ rfl ov ⟨wr.heap.size, 0, none⟩ 1 1 [.int .i64 k] rfl rfl nw one (by unfold maxLen; omega) (by omega) hS2 ?_
             intro v9 w9 h9 hg9 _ _
             have B9 := Kept.mk (Ba.out.grown hg9 hS2 (fun q hq => (ov.lt q hq).1))
             replace h9 := Kept.mk h9
             clear ov nw one hg9))
        go_roundg (gk - 1)
        case measure => omega
        case rel =>
          refine ⟨k + 1, by go_num, ⟨by omega⟩, ⟨?_⟩, B9⟩
          rw [sn.out, if_pos trivial, ints, List.map_append, List.length_append]
          exact h9.out
      · have g1 : decide (lv = l) = false := decide_eq_false e
        have g2 : (lv == l) = false := beq_eq_false_iff_ne.2 e
        have sn2 : Kept (rowsFrom 0 (ns.take (k + 1)) l = rowsFrom 0 (ns.take k) l) := by
          have := sn.out
          rw [if_neg e, List.append_nil] at this
          exact ⟨this⟩
        clear e
        go_wp2
        go_roundg (gk - 1)
        case measure => omega
        case rel =>
          refine ⟨k + 1, by go_num, ⟨by omega⟩, ⟨?_⟩, hB⟩
          rw [sn2.out]
          exact hv.out
    · have f1 : decide (k < ns.length) = false := decide_eq_false hlt
      have f1' : decide ((k : Int) < (ns.length : Int)) = false := decide_eq_false (by omega)
      rw [List.take_of_length_le (by omega)] at hv
      go_wp2
      go_ret
      exact ⟨_, rfl, hv.out, hB.out⟩
end Go.Proofs.Yteeiidkbihhekaa
