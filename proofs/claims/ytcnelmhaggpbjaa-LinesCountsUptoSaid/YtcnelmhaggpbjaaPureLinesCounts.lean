/- A text has one line more than it has line ends, by the program and by the reference. Condition: the text has at most 1048576 bytes (the second form of the statement). -/
import Derived.Test.YtcnelmhaggpbjaaPLinesCountsx
import Derived.Test.YtcnelmhaggpbjaaLn
namespace Go.Proofs.Ytcnelmhaggpbjaa.Pure
open Go Go.RowKit Go.Proofs.Ytcnelmhaggpbjaa Go.Proofs.Ytcnelmhaggpbjaa.PLinesCounts Go.Proofs.YtcnelmhaggpbjaaW.PrintWords Go.Proofs.YtcnelmhaggpbjaaW.PrintLast
namespace LinesCountsOwn
theorem Count_eq (k : Nat) (x : ByteArray) (hx : x.size ≤ 281474976710656) : lines_Count.f k x = some (((Lib.countByte x.data.toList 10 : Nat) : Int) + 1) := if_pos hx
theorem Of_eq (k : Nat) (x : ByteArray) (n : Int) (hx : x.size ≤ 281474976710656) : lines_Of.f k x n = some (ofP x n) := if_pos hx
theorem At_eq (k : Nat) (x : ByteArray) (l c : Int) (hx : x.size ≤ 281474976710656) : lines_At.f k x l c = some (atP x l c) := if_pos hx
theorem alive_eq (k : Nat) : rootstocklaw02_alive.f k = some true := by
  unfold rootstocklaw02_alive.f
  rw [Of_eq k _ _ (by decide), At_eq k _ _ _ (by decide), Count_eq k _ (by decide)]
  decide +kernel
theorem bt_nl (x : ByteArray) (k : Nat) (h : k < x.size) : (bt x (k : Int) = 10) ↔ x[k] = 10 := by
  have e : bt x (k : Int) = (x[k].toNat : Int) := by
    have := bt_at x (k : Int) h
    exact this.symm
  rw [e]
  constructor
  · intro c
    apply UInt8.toNat.inj
    show x[k].toNat = 10
    omega
  · intro c
    rw [c]
    rfl

/-- where each line begins, among the first n bytes -/
def beg (x : ByteArray) : Nat → List Int
  | 0 => [0]
  | n + 1 => if x.data.toList[n]? = some 10 then beg x n ++ [((n + 1 : Nat) : Int)] else beg x n
theorem get_data (x : ByteArray) (k : Nat) (h : k < x.size) : x.data.toList[k]? = some x[k] := by
  rw [Array.getElem?_toList]
  exact Array.getElem?_eq_getElem h
theorem beg_len (x : ByteArray) : ∀ n, n ≤ x.size → (beg x n).length = (plc x n).1 + 1 := by
  intro n
  induction n with
  | zero => intro _; rfl
  | succ n ih =>
    intro h
    have hlt : n < x.size := by omega
    unfold beg
    rw [get_data x n hlt]
    by_cases hb : x[n] = 10
    · rw [if_pos (by rw [hb]), plc_nl x n hlt hb, List.length_append, ih (by omega)]
      rfl
    · rw [if_neg (by simpa using hb), plc_col x n hlt hb, ih (by omega)]
/-- each beginning that is told is the first place of its line -/
theorem beg_at (x : ByteArray) : ∀ n, n ≤ x.size → ∀ l, l ≤ (plc x n).1 → ∃ j : Nat, j ≤ n ∧ plc x j = (l, 0) ∧ rd (beg x n) (l : Int) = (j : Int) := by
  intro n
  induction n with
  | zero =>
    intro _ l hl
    rw [plc_zero] at hl
    obtain rfl : l = 0 := by simpa using hl
    exact ⟨0, Nat.le_refl _, rfl, rfl⟩
  | succ n ih =>
    intro h l hl
    have hlt : n < x.size := by omega
    have hlen := beg_len x n (by omega)
    unfold beg
    rw [get_data x n hlt]
    by_cases hb : x[n] = 10
    · rw [if_pos (by rw [hb])]
      rw [plc_nl x n hlt hb] at hl
      by_cases hl2 : l ≤ (plc x n).1
      · obtain ⟨j, h1, h2, h3⟩ := ih (by omega) l hl2
        refine ⟨j, by omega, h2, ?_⟩
        rw [← h3]
        unfold rd
        rw [List.getD_eq_getElem?_getD, List.getElem?_append_left (by rw [hlen]; omega), ← List.getD_eq_getElem?_getD]
      · have he : l = (plc x n).1 + 1 := by simp only at hl; omega
        refine ⟨n + 1, Nat.le_refl _, ?_, ?_⟩
        · rw [plc_nl x n hlt hb, he]
        · unfold rd
          have e : (l : Int).toNat = (beg x n).length := by rw [hlen]; omega
          rw [e, List.getD_eq_getElem?_getD, List.getElem?_append_right (Nat.le_refl _), Nat.sub_self]
          rfl
    · rw [if_neg (by simpa using hb)]
      rw [plc_col x n hlt hb] at hl
      obtain ⟨j, h1, h2, h3⟩ := ih (by omega) l hl
      exact ⟨j, by omega, h2, h3⟩
theorem begins_l0 (x : ByteArray) (hx : x.size ≤ 1048576) : ∀ (d k i : Nat), i ≤ x.size → x.size - i = d → d < k →
    rootstockref02_Begins.l0 k x (beg x i) (i : Int) = some (beg x x.size) := by
  intro d
  induction d with
  | zero =>
    intro k i g0 gd gk
    obtain ⟨k, rfl⟩ : ∃ m, k = m + 1 := ⟨k - 1, by omega⟩
    obtain rfl : i = x.size := by omega
    simp only [rootstockref02_Begins.l0]
    rw [if_neg (by omega)]
  | succ d ih =>
    intro k i g0 gd gk
    obtain ⟨k, rfl⟩ : ∃ m, k = m + 1 := ⟨k - 1, by omega⟩
    have hlt : i < x.size := by omega
    have next := ih k (i + 1) (by omega) (by omega) (by omega)
    have hle := plc_le x i
    have hlen := beg_len x i (by omega)
    have w1 : wrap64 ((i : Int) + 1) = ((i + 1 : Nat) : Int) := by unfold wrap64; omega
    simp only [rootstockref02_Begins.l0]
    rw [if_pos (by omega), if_pos (by omega), w1]
    have hs : beg x (i + 1) = if x.data.toList[i]? = some 10 then beg x i ++ [((i + 1 : Nat) : Int)] else beg x i := rfl
    rw [hs, get_data x i hlt] at next
    by_cases hb : x[i] = 10
    · rw [if_pos ((bt_nl x i hlt).2 hb), if_pos (by omega)]
      rw [if_pos (by rw [hb])] at next
      exact next
    · rw [if_neg (fun c => hb ((bt_nl x i hlt).1 c))]
      rw [if_neg (by simpa using hb)] at next
      exact next
theorem begins_eq (x : ByteArray) (hx : x.size ≤ 1048576) (k : Nat) (hk : x.size < k) : rootstockref02_Begins.f k x = some (beg x x.size) :=
  begins_l0 x hx x.size k 0 (by omega) (by omega) hk


end LinesCountsOwn
open LinesCountsOwn
theorem LinesCounts (x : ByteArray) (hx : x.size ≤ 1048576) : ∃ k, rootstocklaw02_LinesCounts.f k x = some true := by
  refine ⟨x.size + 1, ?_⟩
  unfold rootstocklaw02_LinesCounts.f rootstockref02_Count.f
  rw [Count_eq _ x (by omega), begins_eq x hx _ (Nat.lt_succ_self _)]
  simp only [Option.bind_some]
  rw [if_pos (by rw [beg_len x x.size (Nat.le_refl _), plc_all]; omega), alive_eq]
  rfl

end Go.Proofs.Ytcnelmhaggpbjaa.Pure
