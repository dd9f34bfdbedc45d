/- The greater one of two offsets has the later place; the last offset's line is the last one. No condition. -/
import Derived.Test.YtcnelmhaggpbjaaPLinesRisex
import Derived.Test.YtcnelmhaggpbjaaLn
namespace Go.Proofs.Ytcnelmhaggpbjaa.Pure
open Go Go.RowKit Go.Proofs.Ytcnelmhaggpbjaa Go.Proofs.Ytcnelmhaggpbjaa.PLinesRise Go.Proofs.YtcnelmhaggpbjaaW.PrintWords Go.Proofs.YtcnelmhaggpbjaaW.PrintLast
namespace LinesRiseOwn
theorem Count_eq (k : Nat) (x : ByteArray) (hx : x.size ≤ 281474976710656) : lines_Count.f k x = some (((Lib.countByte x.data.toList 10 : Nat) : Int) + 1) := if_pos hx
theorem Of_eq (k : Nat) (x : ByteArray) (n : Int) (hx : x.size ≤ 281474976710656) : lines_Of.f k x n = some (ofP x n) := if_pos hx
theorem At_eq (k : Nat) (x : ByteArray) (l c : Int) (hx : x.size ≤ 281474976710656) : lines_At.f k x l c = some (atP x l c) := if_pos hx
theorem alive_eq (k : Nat) : rootstocklaw02_alive.f k = some true := by
  unfold rootstocklaw02_alive.f
  rw [Of_eq k _ _ (by decide), At_eq k _ _ _ (by decide), Count_eq k _ (by decide)]
  decide +kernel
theorem bt_nl (x : ByteArray) (k : Nat) (h : k < x.size) : (bt x (k : Int) = 10) ↔ x[k] = 10 := by
  have e : bt x (k : Int) = (x[k].toNat : Int) := by
    have := bt_at x (k : Int) h
    exact this.symm
  rw [e]
  constructor
  · intro c
    apply UInt8.toNat.inj
    show x[k].toNat = 10
    omega
  · intro c
    rw [c]
    rfl

theorem yes (k : Nat) (p q r s : Int) : rootstocklaw02_LinesRise.j1 (k + 1) true p q r s = some true := by
  simp only [rootstocklaw02_LinesRise.j1]
  rw [if_pos trivial, alive_eq]
  rfl

end LinesRiseOwn
open LinesRiseOwn
theorem LinesRise : rootstocklaw02_LinesRise.Pure := by
  intro x a b hx _ _
  refine ⟨3, ?_⟩
  unfold rootstocklaw02_LinesRise.f
  rw [Of_eq _ x a (by omega), Of_eq _ x b (by omega), Of_eq _ x _ (by omega), of_in x x.size (Nat.le_refl _), Count_eq _ x (by omega)]
  simp only [Option.bind_some]
  have hc := count_le x
  have w : wrap64 (((Lib.countByte x.data.toList 10 : Nat) : Int) + 1 - 1) = (Lib.countByte x.data.toList 10 : Nat) := by unfold wrap64; omega
  rw [if_pos trivial, w, plc_all]
  have hb : ((((Lib.countByte x.data.toList 10 : Nat) : Int)) != ((Lib.countByte x.data.toList 10 : Nat) : Int)) = false := by simp
  rw [hb]
  simp only [rootstocklaw02_LinesRise.j0]
  rw [if_neg (by decide)]
  by_cases ha : a < 0 ∨ (x.size : Int) < a
  · rw [of_out x a ha]
    simp only
    rw [if_neg (by decide), yes]
  obtain ⟨m, rfl⟩ : ∃ m : Nat, a = m := ⟨a.toNat, by omega⟩
  rw [of_in x m (by omega)]
  simp only
  rw [if_pos trivial]
  by_cases hb : b < 0 ∨ (x.size : Int) < b
  · rw [of_out x b hb]
    simp only
    rw [if_neg (by decide), yes]
  obtain ⟨n, rfl⟩ : ∃ m : Nat, b = m := ⟨b.toNat, by omega⟩
  rw [of_in x n (by omega)]
  simp only
  rw [if_pos trivial]
  by_cases hmn : n ≤ m
  · rw [decide_eq_true (by omega), yes]
  rw [decide_eq_false (by omega)]
  simp only [rootstocklaw02_LinesRise.j1]
  rw [if_neg (by decide)]
  rcases plc_lex x m n (by omega) (by omega) with h | ⟨h, g⟩
  · rw [if_pos (by omega), alive_eq]
    rfl
  · rw [if_neg (by omega), if_pos (by omega), if_pos (by omega), alive_eq]
    rfl

end Go.Proofs.Ytcnelmhaggpbjaa.Pure
