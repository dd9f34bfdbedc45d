/- A line's places are as many as it has bytes, one more of the last line, side by side; beyond them there is none. No condition. -/
import Derived.Test.YtcnelmhaggpbjaaPLinesLongx
import Derived.Test.YtcnelmhaggpbjaaLn
namespace Go.Proofs.Ytcnelmhaggpbjaa.Pure
open Go Go.RowKit Go.Proofs.Ytcnelmhaggpbjaa Go.Proofs.Ytcnelmhaggpbjaa.PLinesLong Go.Proofs.YtcnelmhaggpbjaaW.PrintWords Go.Proofs.YtcnelmhaggpbjaaW.PrintLast
namespace LinesLongOwn
theorem Count_eq (k : Nat) (x : ByteArray) (hx : x.size ≤ 281474976710656) : lines_Count.f k x = some (((Lib.countByte x.data.toList 10 : Nat) : Int) + 1) := if_pos hx
theorem Of_eq (k : Nat) (x : ByteArray) (n : Int) (hx : x.size ≤ 281474976710656) : lines_Of.f k x n = some (ofP x n) := if_pos hx
theorem At_eq (k : Nat) (x : ByteArray) (l c : Int) (hx : x.size ≤ 281474976710656) : lines_At.f k x l c = some (atP x l c) := if_pos hx
theorem alive_eq (k : Nat) : rootstocklaw02_alive.f k = some true := by
  unfold rootstocklaw02_alive.f
  rw [Of_eq k _ _ (by decide), At_eq k _ _ _ (by decide), Count_eq k _ (by decide)]
  decide +kernel
theorem bt_nl (x : ByteArray) (k : Nat) (h : k < x.size) : (bt x (k : Int) = 10) ↔ x[k] = 10 := by
  have e : bt x (k : Int) = (x[k].toNat : Int) := by
    have := bt_at x (k : Int) h
    exact this.symm
  rw [e]
  constructor
  · intro c
    apply UInt8.toNat.inj
    show x[k].toNat = 10
    omega
  · intro c
    rw [c]
    rfl

theorem fin (x : ByteArray) (l j c : Nat) (hx : x.size ≤ 140737488351232) (hj : j + c ≤ x.size) (hp : plc x (j + c) = (l, c)) (he : j + c = x.size ∨ ∃ h : j + c < x.size, x[j + c] = 10) (k : Nat) :
    rootstocklaw02_LinesLong.j3 (k + 1) x (l : Int) (j : Int) (c : Int) false = some true := by
  have h1 : atP x (l : Int) (c : Int) = (((j + c : Nat) : Int), 0) := by
    have := at_of x (j + c) hj
    rwa [hp] at this
  have h2 : atP x (l : Int) ((c : Int) + 1) = (0, 4) := by
    refine at_no_place x _ _ ?_
    rintro n hn ⟨e1, e2⟩
    rcases Nat.lt_trichotomy n (j + c) with g | g | g
    · have := plc_lex x n (j + c) g hj
      rw [hp] at this
      omega
    · rw [g, hp] at e2
      omega
    · rcases he with he | ⟨he, hb⟩
      · omega
      · have hn2 := plc_nl x (j + c) he hb
        rw [hp] at hn2
        by_cases g2 : n = j + c + 1
        · rw [g2, hn2] at e1
          simp only at e1
          omega
        · have := plc_lex x (j + c + 1) n (by omega) hn
          rw [hn2] at this
          simp only at this
          omega
  have w1 : wrap64 ((c : Int) + 1) = (c : Int) + 1 := by unfold wrap64; omega
  have w2 : wrap64 ((j : Int) + (c : Int)) = ((j + c : Nat) : Int) := by unfold wrap64; omega
  simp only [rootstocklaw02_LinesLong.j3]
  rw [if_neg (by decide), w1, w2, At_eq _ x _ _ (by omega), At_eq _ x _ _ (by omega), h1, h2]
  simp only [Option.bind_some]
  split
  · rw [alive_eq]
    rfl
  · rw [if_pos trivial, if_pos trivial, if_pos trivial, alive_eq]
    rfl
theorem go (x : ByteArray) (l j : Nat) (hx : x.size ≤ 140737488351232) (hj : j ≤ x.size) : ∀ (d k c : Nat), j + c ≤ x.size → plc x (j + c) = (l, c) → c ≤ 200 → 200 - c = d → 2 * d + 5 ≤ k →
    rootstocklaw02_LinesLong.l0 k x (l : Int) (j : Int) (c : Int) = some true := by
  intro d
  induction d with
  | zero =>
    intro k c hc hpc g0 gd gk
    obtain ⟨k, rfl⟩ : ∃ m, k = m + 2 := ⟨k - 2, by omega⟩
    have h200 : c = 200 := by omega
    have w2 : wrap64 ((j : Int) + (c : Int)) = ((j + c : Nat) : Int) := by unfold wrap64; omega
    have last : rootstocklaw02_LinesLong.j3 (k + 1) x (l : Int) (j : Int) (c : Int) false = some true := by
      simp only [rootstocklaw02_LinesLong.j3]
      rw [if_neg (by decide), if_pos (by omega), alive_eq]
      rfl
    simp only [rootstocklaw02_LinesLong.l0]
    rw [w2]
    by_cases h : ((j + c : Nat) : Int) < (x.size : Int)
    · rw [if_pos h, if_pos (by omega)]
      split
      · exact last
      · rw [decide_eq_false (by omega)]
        exact last
    · rw [if_neg h]
      exact last
  | succ d ih =>
    intro k c hc hpc g0 gd gk
    obtain ⟨k, rfl⟩ : ∃ m, k = m + 2 := ⟨k - 2, by omega⟩
    have w2 : wrap64 ((j : Int) + (c : Int)) = ((j + c : Nat) : Int) := by unfold wrap64; omega
    simp only [rootstocklaw02_LinesLong.l0]
    rw [w2]
    by_cases h : ((j + c : Nat) : Int) < (x.size : Int)
    · have hlt : j + c < x.size := by omega
      rw [if_pos h, if_pos (by omega)]
      by_cases hb : x[j + c] = 10
      · rw [if_pos ((bt_nl x (j + c) hlt).2 hb)]
        exact fin x l j c hx hc hpc (Or.inr ⟨hlt, hb⟩) k
      · rw [if_neg (fun e => hb ((bt_nl x (j + c) hlt).1 e)), decide_eq_true (by omega)]
        have hn := plc_col x (j + c) hlt hb
        rw [hpc] at hn
        have next := ih k (c + 1) (by omega) hn (by omega) (by omega) (by omega)
        have h1 : atP x (l : Int) (c : Int) = (((j + c : Nat) : Int), 0) := by
          have := at_of x (j + c) hc
          rwa [hpc] at this
        have w1 : wrap64 ((c : Int) + 1) = ((c + 1 : Nat) : Int) := by unfold wrap64; omega
        simp only [rootstocklaw02_LinesLong.j3]
        rw [if_pos trivial, At_eq _ x _ _ (by omega), h1, Option.bind_some, if_pos rfl, w2, if_pos rfl, w1, next]
    · rw [if_neg h]
      exact fin x l j c hx hc hpc (Or.inl (by omega)) k

end LinesLongOwn
open LinesLongOwn
theorem LinesLong : rootstocklaw02_LinesLong.Pure := by
  intro x l hx _
  obtain ⟨K, hK⟩ : ∃ K : Nat, 405 ≤ K := ⟨_, Nat.le_refl _⟩
  refine ⟨K + 3, ?_⟩
  unfold rootstocklaw02_LinesLong.f
  rw [At_eq _ x _ _ (by omega), Count_eq _ x (by omega)]
  simp only [Option.bind_some]
  have out : (l < 0 ∨ ((Lib.countByte x.data.toList 10 : Nat) : Int) + 1 ≤ l) → ∀ k, rootstocklaw02_LinesLong.j0 (k + 1) x l (atP x l 0).1 (atP x l 0).2 true = some true := by
    intro h k
    have e : atP x l 0 = (0, 4) := by
      unfold atP
      rw [if_pos (by omega)]
    rw [e]
    simp only [rootstocklaw02_LinesLong.j0]
    rw [if_pos trivial, if_pos trivial, if_pos trivial, alive_eq]
    rfl
  by_cases h0 : l < 0
  · rw [if_pos h0, out (Or.inl h0)]
  rw [if_neg h0]
  by_cases h1 : l ≥ ((Lib.countByte x.data.toList 10 : Nat) : Int) + 1
  · rw [decide_eq_true h1, out (Or.inr h1)]
  rw [decide_eq_false h1]
  obtain ⟨m, rfl⟩ : ∃ m : Nat, l = m := ⟨l.toNat, by omega⟩
  obtain ⟨j, hj, hp⟩ := line_starts x m x.size (Nat.le_refl _) (by rw [plc_all]; omega)
  have h2 : atP x (m : Int) 0 = ((j : Int), 0) := by
    have := at_of x j hj
    rw [hp] at this
    exact this
  rw [h2]
  simp only [rootstocklaw02_LinesLong.j0]
  rw [if_neg (by decide), if_pos trivial, if_neg (by omega), decide_eq_false (by omega)]
  simp only [rootstocklaw02_LinesLong.j1]
  rw [if_neg (by decide)]
  exact go x m j hx hj 200 (K + 1) 0 hj hp (by omega) (by omega) (by omega)

end Go.Proofs.Ytcnelmhaggpbjaa.Pure
