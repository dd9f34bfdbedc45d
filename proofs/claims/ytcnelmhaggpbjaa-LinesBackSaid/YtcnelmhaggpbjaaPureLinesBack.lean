/- An offset's place leads back to the offset, and a place's offset to the place. No condition. -/
import Derived.Test.YtcnelmhaggpbjaaPLinesBackx
import Derived.Test.YtcnelmhaggpbjaaLn
namespace Go.Proofs.Ytcnelmhaggpbjaa.Pure
open Go Go.RowKit Go.Proofs.Ytcnelmhaggpbjaa Go.Proofs.Ytcnelmhaggpbjaa.PLinesBack Go.Proofs.YtcnelmhaggpbjaaW.PrintWords Go.Proofs.YtcnelmhaggpbjaaW.PrintLast
namespace LinesBackOwn
theorem Count_eq (k : Nat) (x : ByteArray) (hx : x.size ≤ 281474976710656) : lines_Count.f k x = some ((Lib.countByte x.data.toList 10 : Nat) + 1) := if_pos hx
theorem Of_eq (k : Nat) (x : ByteArray) (n : Int) (hx : x.size ≤ 281474976710656) : lines_Of.f k x n = some (ofP x n) := if_pos hx
theorem At_eq (k : Nat) (x : ByteArray) (l c : Int) (hx : x.size ≤ 281474976710656) : lines_At.f k x l c = some (atP x l c) := if_pos hx
theorem alive_eq (k : Nat) : rootstocklaw02_alive.f k = some true := by
  unfold rootstocklaw02_alive.f
  rw [Of_eq k _ _ (by decide), At_eq k _ _ _ (by decide), Count_eq k _ (by decide)]
  decide +kernel
theorem bt_nl (x : ByteArray) (k : Nat) (h : k < x.size) : (bt x (k : Int) = 10) ↔ x[k] = 10 := by
  have e : bt x (k : Int) = (x[k].toNat : Int) := by
    have := bt_at x (k : Int) h
    exact this.symm
  rw [e]
  constructor
  · intro c
    apply UInt8.toNat.inj
    show x[k].toNat = 10
    omega
  · intro c
    rw [c]
    rfl

theorem back (x : ByteArray) (l c : Int) (hx : x.size ≤ 140737488351232) : rootstocklaw02_LinesBack.j0 1 x l c = some true := by
  simp only [rootstocklaw02_LinesBack.j0]
  rw [At_eq _ x l c (by omega)]
  simp only [Option.bind_some]
  rcases at_cases x l c with h | ⟨n, hn, rfl, rfl, h⟩
  · rw [h]
    simp only
    rw [if_neg (by decide), alive_eq]
    rfl
  · rw [h]
    simp only
    rw [if_pos trivial, Of_eq _ x _ (by omega), of_in x n hn]
    simp only [Option.bind_some]
    rw [if_pos trivial, if_pos (by simp), alive_eq]
    rfl

end LinesBackOwn
open LinesBackOwn
theorem LinesBack (x : ByteArray) (n : Int) (l c : Int) (hx : x.size ≤ 140737488351232) (_ : (Lit.int .i64 n).wf = true) (_ : (Lit.int .i64 l).wf = true) (_ : (Lit.int .i64 c).wf = true) : ∃ k, rootstocklaw02_LinesBack.f k x n l c = some true := by
  refine ⟨1, ?_⟩
  unfold rootstocklaw02_LinesBack.f
  rw [Of_eq _ x n (by omega)]
  simp only [Option.bind_some]
  by_cases h : n < 0 ∨ (x.size : Int) < n
  · rw [of_out x n h]
    simp only
    rw [if_neg (by decide), back x l c hx]
  · obtain ⟨m, rfl⟩ : ∃ m : Nat, n = m := ⟨n.toNat, by omega⟩
    rw [of_in x m (by omega)]
    simp only
    rw [if_pos trivial, At_eq _ x _ _ (by omega), at_of x m (by omega)]
    simp only [Option.bind_some]
    rw [if_pos trivial, if_pos trivial, back x l c hx]

end Go.Proofs.Ytcnelmhaggpbjaa.Pure
