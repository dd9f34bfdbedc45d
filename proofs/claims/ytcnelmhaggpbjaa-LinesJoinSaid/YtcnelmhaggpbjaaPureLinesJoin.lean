/- Of two texts, one behind the other, lines and places are told by those of both. No condition. -/
import Derived.Test.YtcnelmhaggpbjaaPLinesJoinx
import Derived.Test.YtcnelmhaggpbjaaLn
namespace Go.Proofs.Ytcnelmhaggpbjaa.Pure
open Go Go.RowKit Go.Proofs.Ytcnelmhaggpbjaa Go.Proofs.Ytcnelmhaggpbjaa.PLinesJoin Go.Proofs.YtcnelmhaggpbjaaW.PrintWords Go.Proofs.YtcnelmhaggpbjaaW.PrintLast
namespace LinesJoinOwn
theorem add64 (a c : Nat) (h : a + c ≤ 4611686018427387904) : wrap64 ((a : Int) + (c : Int)) = ((a + c : Nat) : Int) := by
  unfold wrap64
  omega
theorem sub64 (a b c : Nat) (h : a + b + 2 ≤ 4611686018427387904) (e : c = a + b) : (c : Int) + 1 = wrap64 (wrap64 ((a : Int) + 1 + ((b : Int) + 1)) - 1) := by
  unfold wrap64
  omega
theorem w64 {n : Int} (h0 : -4611686018427387904 ≤ n) (h1 : n ≤ 4611686018427387904) : wrap64 n = n := by
  unfold wrap64
  omega
theorem Count_eq (k : Nat) (x : ByteArray) (hx : x.size ≤ 281474976710656) : lines_Count.f k x = some (((Lib.countByte x.data.toList 10 : Nat) : Int) + 1) := if_pos hx
theorem Of_eq (k : Nat) (x : ByteArray) (n : Int) (hx : x.size ≤ 281474976710656) : lines_Of.f k x n = some (ofP x n) := if_pos hx
theorem At_eq (k : Nat) (x : ByteArray) (l c : Int) (hx : x.size ≤ 281474976710656) : lines_At.f k x l c = some (atP x l c) := if_pos hx
theorem alive_eq (k : Nat) : rootstocklaw02_alive.f k = some true := by
  unfold rootstocklaw02_alive.f
  rw [Of_eq k _ _ (by decide), At_eq k _ _ _ (by decide), Count_eq k _ (by decide)]
  decide +kernel
theorem bt_nl (x : ByteArray) (k : Nat) (h : k < x.size) : (bt x (k : Int) = 10) ↔ x[k] = 10 := by
  have e : bt x (k : Int) = (x[k].toNat : Int) := by
    have := bt_at x (k : Int) h
    exact this.symm
  rw [e]
  constructor
  · intro c
    apply UInt8.toNat.inj
    show x[k].toNat = 10
    omega
  · intro c
    rw [c]
    rfl


end LinesJoinOwn
open LinesJoinOwn
theorem LinesJoin : rootstocklaw02_LinesJoin.Pure := by
  intro x y n _ _ _
  have yes : rootstocklaw02_LinesJoin.j0 1 x y n true = some true := by
    simp only [rootstocklaw02_LinesJoin.j0]
    rw [if_pos trivial]
  refine ⟨1, ?_⟩
  unfold rootstocklaw02_LinesJoin.f
  by_cases h1 : (x.size : Int) > 1048576
  · rw [if_pos h1, yes]
  rw [if_neg h1]
  by_cases h2 : (y.size : Int) > 1048576
  · rw [decide_eq_true h2, yes]
  rw [decide_eq_false h2]
  have hs : (x ++ y).size = x.size + y.size := ByteArray.size_append
  simp only [rootstocklaw02_LinesJoin.j0]
  rw [if_neg (by decide), if_pos (by omega), Count_eq _ (x ++ y) (by omega), Count_eq _ x (by omega), Count_eq _ y (by omega), Option.bind_some, Option.bind_some, Option.bind_some]
  have b1 : x.size ≤ 1048576 := by omega
  have b2 : y.size ≤ 1048576 := by omega
  have q0 : x.size ≤ 281474976710656 := by omega
  have q1 : y.size ≤ 281474976710656 := by omega
  have c1 := sub64 (Lib.countByte x.data.toList 10) (Lib.countByte y.data.toList 10) (Lib.countByte (x ++ y).data.toList 10) (by have := count_le x; have := count_le y; omega) (count_append x y)
  rw [if_pos c1, Of_eq _ x _ q0, Of_eq _ y _ q1, of_in x x.size (Nat.le_refl _), Option.bind_some, Option.bind_some, if_pos rfl]
  clear c1
  have g : ∀ v : Bool, v = true → (if v = true then (rootstocklaw02_alive.f 0).bind fun t161 => some t161 else some false) = some true := by
    intro v hv
    rw [if_pos hv, alive_eq]
    rfl
  by_cases hb : n < 0 ∨ (y.size : Int) < n
  · rw [of_out y n hb, if_neg (by show ¬ ((4 : Int) = 0); decide), alive_eq]
    rfl
  obtain ⟨m, rfl⟩ : ∃ m : Nat, n = m := ⟨n.toNat, by omega⟩
  have hm : m ≤ y.size := by omega
  have hO : lines_Of.f 0 (x ++ y) ((x.size + m : Nat) : Int) = some (ofP (x ++ y) ((x.size + m : Nat) : Int)) := Of_eq _ _ _ (by omega)
  rw [of_in y m hm, if_pos rfl, add64 x.size m (by omega), hO, of_in (x ++ y) (x.size + m) (by omega), plc_append_right x y m]
  have p1 := plc_le x x.size
  have p2 := plc_le y m
  clear hO hs h1 h2 yes hb
  unfold jn
  generalize plc x x.size = P at p1
  generalize plc y m = Q at p2
  obtain ⟨a, b⟩ := P
  obtain ⟨c, d⟩ := Q
  have p1 : a + b ≤ x.size := p1
  have p2 : c + d ≤ m := p2
  by_cases hz : c = 0
  · subst hz
    have q1 : a + 0 ≤ 4611686018427387904 := by omega
    have q2 : b + d ≤ 4611686018427387904 := by omega
    have w1 := add64 a 0 q1
    have w2 := add64 b d q2
    rw [if_pos rfl]
    refine (if_pos rfl).trans ?_
    rw [Option.bind_some]
    refine (if_pos rfl).trans (g _ ?_)
    rw [Bool.and_eq_true, beq_iff_eq, beq_iff_eq]
    exact ⟨w1.symm, w2.symm⟩
  · have hc : ¬ ((c : Int) = 0) := by omega
    have q1 : a + c ≤ 4611686018427387904 := by omega
    have w1 := add64 a c q1
    rw [if_neg hz]
    refine (if_neg hc).trans ?_
    rw [Option.bind_some]
    refine (if_pos rfl).trans (g _ ?_)
    rw [Bool.and_eq_true, beq_iff_eq, beq_iff_eq]
    exact ⟨w1.symm, rfl⟩

end Go.Proofs.Ytcnelmhaggpbjaa.Pure
