/- The law RopeMakes, walked: it returns true, for every text. -/
import Derived.Test.YthjbkiomnipjiaaRopeU
import Derived.Lib.SmallJoins
set_option linter.unusedVariables false
set_option linter.unusedSimpArgs false
namespace Go.Proofs.Ythjbkiomnipjiaa
open Go Go.RowKit Pl
set_option maxRecDepth 100000 in
set_option maxHeartbeats 4000000 in
theorem makes_long (x : ByteArray) (w : World) (hx : 65536 < x.size) : Calls Try.prog 3 #[.string x] w (AllTrue w) := by
  have d1 : decide (65536 < x.size) = true := decide_eq_true hx
  have d2 : decide ((65536 : Int) < (x.size : Int)) = true := decide_eq_true (by omega)
  go_enter Try.func3, Try.ntmps3
  go_wp2_with (first
    | (go_at_call 12; (with_reducible refine (new_long x _ hx).mono ?_); rintro en w1 ⟨rfl, rfl⟩)
    | (go_at_call 13; (with_reducible refine (alive_yes _).mono ?_); rintro en w4 ⟨rfl, b4⟩))
  go_ret
  exact ⟨rfl, b4⟩
set_option maxRecDepth 100000 in
set_option maxHeartbeats 8000000 in
theorem makes_ok (x : ByteArray) (w : World) (hx : x.size ≤ 65536) : Calls Try.prog 3 #[.string x] w (AllTrue w) := by
  have d1 : decide (65536 < x.size) = false := decide_eq_false (by omega)
  have d2 : decide ((65536 : Int) < (x.size : Int)) = false := decide_eq_false (by omega)
  go_enter Try.func3, Try.ntmps3
  go_wp2_with (first
    | (go_at_call 12; (with_reducible refine (new_g x _ hx).mono ?_); rintro en w1 ⟨g, t, rfl, hr, q, _, b1⟩; clear d1 d2)
    | (go_at_call 14; (with_reducible refine (right_yes _ hr q hx).mono ?_); rintro en w2 ⟨rfl, b2⟩; have hr2 := hr.below b2; have B2 := b1.trans (b2.mono b1.size))
    | (go_at_call 15; (with_reducible refine (leaves_g hr2 q hx).mono ?_); rintro en w3 ⟨v, rfl, ho, b3⟩; obtain ⟨ao, n', cap, rfl⟩ := own_slice ho))
  have hm := q.many hx
  have hd : (optLv t).length ≤ 1048576 := hm
  have hlen : n' = (optLv t).length := by
    rcases ho.2 with ⟨hv, h0⟩ | ⟨_, _, _, hv, _⟩
    · cases hv; exact h0.symm
    · cases hv; rfl
  subst hlen
  go_loopg [6] (optLv t).length (fun gk i wr => ∃ k : Nat, i = .int .i64 k ∧ Kept (k + gk = (optLv t).length) ∧ Kept (Below w2.heap.size w2 wr) ∧ Kept (Texts w2.heap.size w3 (.slice ao (optLv t).length cap) (optLv t) ∧ ∀ a, ao = some a → ∃ cur, wr.heap[a.block]? = some (.cells cur 9 (0, 0)) ∧ (optLv t).length ≤ cur.size))
  case atStart =>
    refine ⟨0, rfl, ⟨by omega⟩, ⟨b3⟩, ⟨ho, ?_⟩⟩
    intro a ha
    rcases ho.2 with ⟨hv, h0⟩ | ⟨g', cap', cur, hv, _, hg, hc, _, hz, _⟩
    · simp only [Value.slice.injEq] at hv
      rw [hv.1] at ha
      cases ha
    · simp only [Value.slice.injEq] at hv
      rw [hv.1] at ha
      cases ha
      exact ⟨cur, hg, by omega⟩
  case round =>
    obtain ⟨k, rfl, hk, hB, hcu⟩ := hrel
    have hk' := hk.out
    by_cases hlt : k < (optLv t).length
    · have d1 : decide (k < (optLv t).length) = true := decide_eq_true hlt
      have d1' : decide ((k : Int) < ((optLv t).length : Int)) = true := decide_eq_true (by omega)
      obtain ⟨a, cap', hv, hBa, halt, _, _⟩ := own_read ho (by omega)
      cases hv
      obtain ⟨cur, hcb, hcz⟩ := hcu.out.2 _ rfl
      have hkc : k < cur.size := by omega
      have c0 : wr.cell? ⟨a, k, none⟩ = some cur[k] := by rw [Joins.cell_of_block hcb, Array.getElem?_eq_getElem hkc]
      have f0 : wr.frozen? ⟨a, k, none⟩ = false := Joins.unfrozen_of_block hcb k
      have kz : k < 2097152 := by omega
      go_wp2
      go_roundg (gk - 1)
      case measure => omega
      case rel =>
        refine ⟨k + 1, rfl, ⟨by omega⟩, ⟨hB.out.setCell (p := ⟨a, k, none⟩) hBa _⟩, ⟨hcu.out.1, ?_⟩⟩
        intro a' ha'
        cases ha'
        exact ⟨_, Joins.block_setCell hcb _, by rw [Array.size_setIfInBounds]; exact hcz⟩
    · have d1 : decide (k < (optLv t).length) = false := decide_eq_false hlt
      have d1' : decide ((k : Int) < ((optLv t).length : Int)) = false := decide_eq_false (by omega)
      have hr4 := hr2.below hB.out
      have hri := right_yes _ hr4 q hx
      have B4 := B2.trans (hB.out.mono B2.size)
      clear hcu hk hk' hm hd ho
      go_wp2_with (first
        | (go_at_call 14; (with_reducible refine hri.mono ?_); rintro en w5 ⟨rfl, b5⟩)
        | (go_at_call 13; (with_reducible refine (alive_yes _).mono ?_); rintro en w6 ⟨rfl, b6⟩))
      go_ret
      have B5 := B4.trans (b5.mono B4.size)
      exact ⟨rfl, B5.trans (b6.mono B5.size)⟩
/-- RopeMakes returns true, whatever the text. -/
theorem law_makes (x : ByteArray) (w : World) : Calls Try.prog 3 #[.string x] w (AllTrue w) := by
  by_cases hx : 65536 < x.size
  · exact makes_long x w hx
  · exact makes_ok x w (by omega)
end Go.Proofs.Ythjbkiomnipjiaa
