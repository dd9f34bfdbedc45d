/- Behind a byte that ends no line the place is one column further, behind one that does it is the next line's first one. No condition. -/
import Derived.Test.YtcnelmhaggpbjaaPLinesStepsx
import Derived.Test.YtcnelmhaggpbjaaLn
namespace Go.Proofs.Ytcnelmhaggpbjaa.Pure
open Go Go.RowKit Go.Proofs.Ytcnelmhaggpbjaa Go.Proofs.Ytcnelmhaggpbjaa.PLinesSteps Go.Proofs.YtcnelmhaggpbjaaW.PrintWords Go.Proofs.YtcnelmhaggpbjaaW.PrintLast
namespace LinesStepsOwn
theorem add64 (a c : Nat) (h : a + c ≤ 4611686018427387904) : wrap64 ((a : Int) + (c : Int)) = ((a + c : Nat) : Int) := by
  unfold wrap64
  omega
theorem sub64 (a b c : Nat) (h : a + b + 2 ≤ 4611686018427387904) (e : c = a + b) : (c : Int) + 1 = wrap64 (wrap64 ((a : Int) + 1 + ((b : Int) + 1)) - 1) := by
  unfold wrap64
  omega
theorem w64 {n : Int} (h0 : -4611686018427387904 ≤ n) (h1 : n ≤ 4611686018427387904) : wrap64 n = n := by
  unfold wrap64
  omega
theorem Count_eq (k : Nat) (x : ByteArray) (hx : x.size ≤ 281474976710656) : lines_Count.f k x = some (((Lib.countByte x.data.toList 10 : Nat) : Int) + 1) := if_pos hx
theorem Of_eq (k : Nat) (x : ByteArray) (n : Int) (hx : x.size ≤ 281474976710656) : lines_Of.f k x n = some (ofP x n) := if_pos hx
theorem At_eq (k : Nat) (x : ByteArray) (l c : Int) (hx : x.size ≤ 281474976710656) : lines_At.f k x l c = some (atP x l c) := if_pos hx
theorem alive_eq (k : Nat) : rootstocklaw02_alive.f k = some true := by
  unfold rootstocklaw02_alive.f
  rw [Of_eq k _ _ (by decide), At_eq k _ _ _ (by decide), Count_eq k _ (by decide)]
  decide +kernel
theorem bt_nl (x : ByteArray) (k : Nat) (h : k < x.size) : (bt x (k : Int) = 10) ↔ x[k] = 10 := by
  have e : bt x (k : Int) = (x[k].toNat : Int) := by
    have := bt_at x (k : Int) h
    exact this.symm
  rw [e]
  constructor
  · intro c
    apply UInt8.toNat.inj
    show x[k].toNat = 10
    omega
  · intro c
    rw [c]
    rfl


end LinesStepsOwn
open LinesStepsOwn
theorem LinesSteps : rootstocklaw02_LinesSteps.Pure := by
  intro x n hx _
  have yes : rootstocklaw02_LinesSteps.j0 1 x n true = some true := by
    simp only [rootstocklaw02_LinesSteps.j0]
    rw [if_pos trivial, alive_eq]
    rfl
  refine ⟨1, ?_⟩
  unfold rootstocklaw02_LinesSteps.f
  by_cases h0 : n < 0
  · rw [if_pos h0, yes]
  rw [if_neg h0]
  by_cases h1 : n ≥ (x.size : Int)
  · rw [decide_eq_true h1, yes]
  rw [decide_eq_false h1]
  obtain ⟨m, rfl⟩ : ∃ m : Nat, n = m := ⟨n.toNat, by omega⟩
  have w : wrap64 ((m : Int) + 1) = ((m + 1 : Nat) : Int) := by unfold wrap64; omega
  have hlt : m < x.size := by omega
  have hle := plc_le x m
  simp only [rootstocklaw02_LinesSteps.j0]
  rw [if_neg (by decide), w, Of_eq _ x _ (by omega), Of_eq _ x _ (by omega), of_in x m (by omega), of_in x (m + 1) (by omega)]
  simp only [Option.bind_some]
  rw [if_pos (by omega), if_pos (by omega)]
  have q1 : (plc x m).1 + 1 ≤ 4611686018427387904 := by omega
  have q2 : (plc x m).2 + 1 ≤ 4611686018427387904 := by omega
  have w1 := add64 (plc x m).1 1 q1
  have w2 := add64 (plc x m).2 1 q2
  by_cases hb : x[m] = 10
  · rw [if_pos ((bt_nl x m hlt).2 hb), if_pos trivial, if_pos trivial, plc_nl x m hlt hb]
    refine (if_pos ?_).trans ?_
    · rw [Bool.and_eq_true, beq_iff_eq, beq_iff_eq]
      exact ⟨w1.symm, rfl⟩
    · rw [alive_eq]
      rfl
  · rw [if_neg (fun c => hb ((bt_nl x m hlt).1 c)), if_pos trivial, if_pos trivial, plc_col x m hlt hb]
    refine (if_pos ?_).trans ?_
    · rw [Bool.and_eq_true, beq_iff_eq, beq_iff_eq]
      exact ⟨rfl, w2.symm⟩
    · rw [alive_eq]
      rfl

end Go.Proofs.Ytcnelmhaggpbjaa.Pure
