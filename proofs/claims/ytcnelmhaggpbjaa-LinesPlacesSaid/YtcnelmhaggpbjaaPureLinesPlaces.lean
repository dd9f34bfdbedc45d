/- The place of any offset of any text is the reference's. No condition. -/
import Derived.Test.YtcnelmhaggpbjaaPLinesPlacesx
import Derived.Test.YtcnelmhaggpbjaaLn
namespace Go.Proofs.Ytcnelmhaggpbjaa.Pure
open Go Go.RowKit Go.Proofs.Ytcnelmhaggpbjaa Go.Proofs.Ytcnelmhaggpbjaa.PLinesPlaces Go.Proofs.YtcnelmhaggpbjaaW.PrintWords Go.Proofs.YtcnelmhaggpbjaaW.PrintLast
namespace LinesPlacesOwn
theorem Count_eq (k : Nat) (x : ByteArray) (hx : x.size ≤ 281474976710656) : lines_Count.f k x = some ((Lib.countByte x.data.toList 10 : Nat) + 1) := if_pos hx
theorem Of_eq (k : Nat) (x : ByteArray) (n : Int) (hx : x.size ≤ 281474976710656) : lines_Of.f k x n = some (ofP x n) := if_pos hx
theorem At_eq (k : Nat) (x : ByteArray) (l c : Int) (hx : x.size ≤ 281474976710656) : lines_At.f k x l c = some (atP x l c) := if_pos hx
theorem alive_eq (k : Nat) : rootstocklaw02_alive.f k = some true := by
  unfold rootstocklaw02_alive.f
  rw [Of_eq k _ _ (by decide), At_eq k _ _ _ (by decide), Count_eq k _ (by decide)]
  decide +kernel
theorem bt_nl (x : ByteArray) (k : Nat) (h : k < x.size) : (bt x (k : Int) = 10) ↔ x[k] = 10 := by
  have e : bt x (k : Int) = (x[k].toNat : Int) := by
    have := bt_at x (k : Int) h
    exact this.symm
  rw [e]
  constructor
  · intro c
    apply UInt8.toNat.inj
    show x[k].toNat = 10
    omega
  · intro c
    rw [c]
    rfl

theorem of_l0 (x : ByteArray) (n : Nat) (hn : n ≤ x.size) (hx : x.size ≤ 140737488351232) : ∀ (d k i : Nat), i ≤ n → n - i = d → d < k →
    rootstockref02_Of.l0 k x (n : Int) (i : Int) (plc x i).1 (plc x i).2 = some (((plc x n).1 : Int), ((plc x n).2 : Int), 0) := by
  intro d
  induction d with
  | zero =>
    intro k i g0 gd gk
    obtain ⟨k, rfl⟩ : ∃ m, k = m + 1 := ⟨k - 1, by omega⟩
    obtain rfl : i = n := by omega
    simp only [rootstockref02_Of.l0]
    rw [if_neg (by omega)]
  | succ d ih =>
    intro k i g0 gd gk
    obtain ⟨k, rfl⟩ : ∃ m, k = m + 1 := ⟨k - 1, by omega⟩
    have hlt : i < x.size := by omega
    have next := ih k (i + 1) (by omega) (by omega) (by omega)
    have hle := plc_le x i
    have w1 : wrap64 ((i : Int) + 1) = ((i + 1 : Nat) : Int) := by unfold wrap64; omega
    have w2 : wrap64 (((plc x i).1 : Int) + 1) = (((plc x i).1 + 1 : Nat) : Int) := by unfold wrap64; omega
    have w3 : wrap64 (((plc x i).2 : Int) + 1) = (((plc x i).2 + 1 : Nat) : Int) := by unfold wrap64; omega
    simp only [rootstockref02_Of.l0]
    rw [if_pos (by omega), if_pos (by omega), if_pos (by omega), w1, w2, w3]
    by_cases hb : x[i] = 10
    · rw [if_pos ((bt_nl x i hlt).2 hb)]
      rw [plc_nl x i hlt hb] at next
      exact next
    · rw [if_neg (fun c => hb ((bt_nl x i hlt).1 c))]
      rw [plc_col x i hlt hb] at next
      exact next
theorem refOf_eq (k : Nat) (x : ByteArray) (n : Int) (hx : x.size ≤ 140737488351232) (hk : x.size + 3 ≤ k) : rootstockref02_Of.f k x n = some (ofP x n) := by
  obtain ⟨k, rfl⟩ : ∃ m, k = m + 1 := ⟨k - 1, by omega⟩
  unfold rootstockref02_Of.f
  by_cases h0 : n < 0
  · rw [if_pos h0, of_out x n (Or.inl h0)]
    rfl
  rw [if_neg h0]
  by_cases h1 : n > (x.size : Int)
  · rw [decide_eq_true h1, of_out x n (Or.inr h1)]
    rfl
  rw [decide_eq_false h1]
  simp only [rootstockref02_Of.j0]
  rw [if_neg (by decide)]
  obtain ⟨m, rfl⟩ : ∃ m : Nat, n = m := ⟨n.toNat, by omega⟩
  have := of_l0 x m (by omega) hx m k 0 (by omega) (by omega) (by omega)
  rw [plc_zero] at this
  rw [of_in x m (by omega)]
  exact this


end LinesPlacesOwn
open LinesPlacesOwn
theorem LinesPlaces : rootstocklaw02_LinesPlaces.Pure := by
  intro x n hx _
  refine ⟨x.size + 3, ?_⟩
  unfold rootstocklaw02_LinesPlaces.f
  rw [Of_eq _ x n (by omega), refOf_eq _ x n hx (Nat.le_refl _)]
  simp only [Option.bind_some]
  rw [if_pos (by simp), if_pos trivial, alive_eq]
  rfl

end Go.Proofs.Ytcnelmhaggpbjaa.Pure
