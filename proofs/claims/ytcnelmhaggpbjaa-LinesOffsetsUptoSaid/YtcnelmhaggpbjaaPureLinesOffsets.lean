/- The offset of any place of a text is the reference's. Condition: text and place hold at most 1048576 bytes and values (the second form of the statement). -/
import Derived.Test.YtcnelmhaggpbjaaPLinesOffsetsx
import Derived.Test.YtcnelmhaggpbjaaLn
namespace Go.Proofs.Ytcnelmhaggpbjaa.Pure
open Go Go.RowKit Go.Proofs.Ytcnelmhaggpbjaa Go.Proofs.Ytcnelmhaggpbjaa.PLinesOffsets Go.Proofs.YtcnelmhaggpbjaaW.PrintWords Go.Proofs.YtcnelmhaggpbjaaW.PrintLast
namespace LinesOffsetsOwn
theorem Count_eq (k : Nat) (x : ByteArray) (hx : x.size ≤ 281474976710656) : lines_Count.f k x = some (((Lib.countByte x.data.toList 10 : Nat) : Int) + 1) := if_pos hx
theorem Of_eq (k : Nat) (x : ByteArray) (n : Int) (hx : x.size ≤ 281474976710656) : lines_Of.f k x n = some (ofP x n) := if_pos hx
theorem At_eq (k : Nat) (x : ByteArray) (l c : Int) (hx : x.size ≤ 281474976710656) : lines_At.f k x l c = some (atP x l c) := if_pos hx
theorem alive_eq (k : Nat) : rootstocklaw02_alive.f k = some true := by
  unfold rootstocklaw02_alive.f
  rw [Of_eq k _ _ (by decide), At_eq k _ _ _ (by decide), Count_eq k _ (by decide)]
  decide +kernel
theorem bt_nl (x : ByteArray) (k : Nat) (h : k < x.size) : (bt x (k : Int) = 10) ↔ x[k] = 10 := by
  have e : bt x (k : Int) = (x[k].toNat : Int) := by
    have := bt_at x (k : Int) h
    exact this.symm
  rw [e]
  constructor
  · intro c
    apply UInt8.toNat.inj
    show x[k].toNat = 10
    omega
  · intro c
    rw [c]
    rfl

/-- where each line begins, among the first n bytes -/
def beg (x : ByteArray) : Nat → List Int
  | 0 => [0]
  | n + 1 => if x.data.toList[n]? = some 10 then beg x n ++ [((n + 1 : Nat) : Int)] else beg x n
theorem get_data (x : ByteArray) (k : Nat) (h : k < x.size) : x.data.toList[k]? = some x[k] := by
  rw [Array.getElem?_toList]
  exact Array.getElem?_eq_getElem h
theorem beg_len (x : ByteArray) : ∀ n, n ≤ x.size → (beg x n).length = (plc x n).1 + 1 := by
  intro n
  induction n with
  | zero => intro _; rfl
  | succ n ih =>
    intro h
    have hlt : n < x.size := by omega
    unfold beg
    rw [get_data x n hlt]
    by_cases hb : x[n] = 10
    · rw [if_pos (by rw [hb]), plc_nl x n hlt hb, List.length_append, ih (by omega)]
      rfl
    · rw [if_neg (by simpa using hb), plc_col x n hlt hb, ih (by omega)]
/-- each beginning that is told is the first place of its line -/
theorem beg_at (x : ByteArray) : ∀ n, n ≤ x.size → ∀ l, l ≤ (plc x n).1 → ∃ j : Nat, j ≤ n ∧ plc x j = (l, 0) ∧ rd (beg x n) (l : Int) = (j : Int) := by
  intro n
  induction n with
  | zero =>
    intro _ l hl
    rw [plc_zero] at hl
    obtain rfl : l = 0 := by simpa using hl
    exact ⟨0, Nat.le_refl _, rfl, rfl⟩
  | succ n ih =>
    intro h l hl
    have hlt : n < x.size := by omega
    have hlen := beg_len x n (by omega)
    unfold beg
    rw [get_data x n hlt]
    by_cases hb : x[n] = 10
    · rw [if_pos (by rw [hb])]
      rw [plc_nl x n hlt hb] at hl
      by_cases hl2 : l ≤ (plc x n).1
      · obtain ⟨j, h1, h2, h3⟩ := ih (by omega) l hl2
        refine ⟨j, by omega, h2, ?_⟩
        rw [← h3]
        unfold rd
        rw [List.getD_eq_getElem?_getD, List.getElem?_append_left (by rw [hlen]; omega), ← List.getD_eq_getElem?_getD]
      · have he : l = (plc x n).1 + 1 := by simp only at hl; omega
        refine ⟨n + 1, Nat.le_refl _, ?_, ?_⟩
        · rw [plc_nl x n hlt hb, he]
        · unfold rd
          have e : (l : Int).toNat = (beg x n).length := by rw [hlen]; omega
          rw [e, List.getD_eq_getElem?_getD, List.getElem?_append_right (Nat.le_refl _), Nat.sub_self]
          rfl
    · rw [if_neg (by simpa using hb)]
      rw [plc_col x n hlt hb] at hl
      obtain ⟨j, h1, h2, h3⟩ := ih (by omega) l hl
      exact ⟨j, by omega, h2, h3⟩
theorem begins_l0 (x : ByteArray) (hx : x.size ≤ 1048576) : ∀ (d k i : Nat), i ≤ x.size → x.size - i = d → d < k →
    rootstockref02_Begins.l0 k x (beg x i) (i : Int) = some (beg x x.size) := by
  intro d
  induction d with
  | zero =>
    intro k i g0 gd gk
    obtain ⟨k, rfl⟩ : ∃ m, k = m + 1 := ⟨k - 1, by omega⟩
    obtain rfl : i = x.size := by omega
    simp only [rootstockref02_Begins.l0]
    rw [if_neg (by omega)]
  | succ d ih =>
    intro k i g0 gd gk
    obtain ⟨k, rfl⟩ : ∃ m, k = m + 1 := ⟨k - 1, by omega⟩
    have hlt : i < x.size := by omega
    have next := ih k (i + 1) (by omega) (by omega) (by omega)
    have hle := plc_le x i
    have hlen := beg_len x i (by omega)
    have w1 : wrap64 ((i : Int) + 1) = ((i + 1 : Nat) : Int) := by unfold wrap64; omega
    simp only [rootstockref02_Begins.l0]
    rw [if_pos (by omega), if_pos (by omega), w1]
    have hs : beg x (i + 1) = if x.data.toList[i]? = some 10 then beg x i ++ [((i + 1 : Nat) : Int)] else beg x i := rfl
    rw [hs, get_data x i hlt] at next
    by_cases hb : x[i] = 10
    · rw [if_pos ((bt_nl x i hlt).2 hb), if_pos (by omega)]
      rw [if_pos (by rw [hb])] at next
      exact next
    · rw [if_neg (fun c => hb ((bt_nl x i hlt).1 c))]
      rw [if_neg (by simpa using hb)] at next
      exact next
theorem begins_eq (x : ByteArray) (hx : x.size ≤ 1048576) (k : Nat) (hk : x.size < k) : rootstockref02_Begins.f k x = some (beg x x.size) :=
  begins_l0 x hx x.size k 0 (by omega) (by omega) hk


end LinesOffsetsOwn
open LinesOffsetsOwn
theorem LinesOffsets (x : ByteArray) (l c : Int) (hx : x.size ≤ 1048576) (hl : (Lit.int .i64 l).wf = true) (hc : (Lit.int .i64 c).wf = true) : ∃ k, rootstocklaw02_LinesOffsets.f k x l c = some true := by
  have hl : -9223372036854775808 ≤ l ∧ l ≤ 9223372036854775807 := by simpa [Lit.wf, IntKind.min, IntKind.max, IntKind.signed, IntKind.bits] using hl
  have hc : -9223372036854775808 ≤ c ∧ c ≤ 9223372036854775807 := by simpa [Lit.wf, IntKind.min, IntKind.max, IntKind.signed, IntKind.bits] using hc
  refine ⟨x.size + 1, ?_⟩
  suffices h : rootstockref02_At.f (x.size + 1) x l c = some (atP x l c) by
    unfold rootstocklaw02_LinesOffsets.f
    rw [At_eq _ x _ _ (by omega), h]
    simp only [Option.bind_some]
    rw [if_pos trivial, if_pos trivial, alive_eq]
    rfl
  unfold rootstockref02_At.f
  rw [begins_eq x hx _ (Nat.lt_succ_self _)]
  simp only [Option.bind_some]
  have hlen := beg_len x x.size (Nat.le_refl _)
  have hall := plc_all x
  have hple := plc_le x x.size
  have bad : (l < 0 ∨ ((Lib.countByte x.data.toList 10 : Nat) : Int) + 1 ≤ l ∨ c < 0) → ∀ k, rootstockref02_At.j0 (k + 1) x (beg x x.size) true l c = some (atP x l c) := by
    intro h k
    have e : atP x l c = (0, 4) := by
      unfold atP
      rw [if_pos (by omega)]
    rw [e]
    rfl
  by_cases h0 : l < 0
  · rw [if_pos h0, bad (Or.inl h0)]
  rw [if_neg h0]
  by_cases h1 : l ≥ ((beg x x.size).length : Int)
  · rw [if_pos h1, bad (Or.inr (Or.inl (by omega)))]
  rw [if_neg h1]
  by_cases h2 : c < 0
  · rw [decide_eq_true h2, bad (Or.inr (Or.inr h2))]
  rw [decide_eq_false h2]
  obtain ⟨m, rfl⟩ : ∃ m : Nat, l = m := ⟨l.toNat, by omega⟩
  obtain ⟨p, rfl⟩ : ∃ m : Nat, c = m := ⟨c.toNat, by omega⟩
  obtain ⟨j, hj, hp, hr⟩ := beg_at x x.size (Nat.le_refl _) m (by omega)
  have w0 : wrap64 ((m : Int) + 1) = ((m + 1 : Nat) : Int) := by unfold wrap64; omega
  simp only [rootstockref02_At.j0]
  rw [if_neg (by decide), w0, hr]
  -- where the line's columns lie
  have inline : ∀ (q : Nat), j + q ≤ x.size → (∀ i, j ≤ i → i < j + q → (plc x i).1 = m → ∀ h : i < x.size, x[i] ≠ 10) → plc x (j + q) = (m, q) := by
    intro q
    induction q with
    | zero => intro _ _; exact hp
    | succ q ih =>
      intro h1 h2
      have e := ih (by omega) (fun i a b g h => h2 i a (by omega) g h)
      have := plc_col x (j + q) (by omega) (h2 (j + q) (by omega) (by omega) (by rw [e]) (by omega))
      rw [e] at this
      exact this
  by_cases h3 : ((m + 1 : Nat) : Int) < ((beg x x.size).length : Int)
  · obtain ⟨j2, hj2, hp2, hr2⟩ := beg_at x x.size (Nat.le_refl _) (m + 1) (by omega)
    have hlt : j < j2 := by
      rcases Nat.lt_trichotomy j j2 with g | g | g
      · exact g
      · rw [g, hp2] at hp
        simp at hp
      · have := plc_lex x j2 j g hj
        rw [hp, hp2] at this
        simp only at this
        omega
    have w1 : wrap64 (wrap64 ((j2 : Int) - 1) - (j : Int)) = (j2 : Int) - 1 - j := by unfold wrap64; omega
    -- no line ends between the two beginnings, but for the last byte
    have noend : ∀ q : Nat, j + q < j2 → plc x (j + q) = (m, q) := by
      intro q hq
      refine inline q (by omega) ?_
      intro i a b g h e
      have hn := plc_nl x i h e
      rw [g] at hn
      rcases Nat.lt_trichotomy (i + 1) j2 with z | z | z
      · have := plc_lex x (i + 1) j2 z hj2
        rw [hn, hp2] at this
        simp only at this
        omega
      · omega
      · omega
    rw [if_pos h3, if_pos (by omega), if_pos (by omega), if_pos (by omega), hr2, w1]
    by_cases h4 : (p : Int) > (j2 : Int) - 1 - j
    · rw [if_pos h4]
      congr 1
      symm
      refine at_no_place x _ _ ?_
      rintro n hn ⟨e1, e2⟩
      have e1 : (plc x n).1 = m := by omega
      have e2 : (plc x n).2 = p := by omega
      rcases Nat.lt_or_ge n j with g | g
      · have := plc_lex x n j g hj
        rw [hp] at this
        simp only at this
        omega
      · rcases Nat.lt_or_ge n j2 with g2 | g2
        · have := noend (n - j) (by omega)
          rw [show j + (n - j) = n by omega] at this
          rw [this] at e2
          simp only at e2
          omega
        · by_cases g3 : n = j2
          · rw [g3, hp2] at e1
            simp only at e1
            omega
          · have := plc_lex x j2 n (by omega) hn
            rw [hp2] at this
            simp only at this
            omega
    · rw [if_neg h4]
      have := noend p (by omega)
      have h5 := at_of x (j + p) (by omega)
      rw [this] at h5
      rw [show wrap64 ((j : Int) + (p : Int)) = ((j + p : Nat) : Int) by unfold wrap64; omega, h5]
  · have hm : m = (plc x x.size).1 := by omega
    have noend : ∀ q : Nat, j + q ≤ x.size → plc x (j + q) = (m, q) := by
      intro q hq
      refine inline q hq ?_
      intro i a b g h e
      have hn := plc_nl x i h e
      rw [g] at hn
      have := plc_line x (i + 1) (by omega)
      rw [hn] at this
      simp only at this
      omega
    have w1 : wrap64 ((x.size : Int) - (j : Int)) = (x.size : Int) - j := by unfold wrap64; omega
    rw [if_neg h3, if_pos (by omega), if_pos (by omega), w1]
    by_cases h4 : (p : Int) > (x.size : Int) - j
    · rw [if_pos h4]
      congr 1
      symm
      refine at_no_place x _ _ ?_
      rintro n hn ⟨e1, e2⟩
      have e1 : (plc x n).1 = m := by omega
      have e2 : (plc x n).2 = p := by omega
      rcases Nat.lt_or_ge n j with g | g
      · have := plc_lex x n j g hj
        rw [hp] at this
        simp only at this
        omega
      · have := noend (n - j) (by omega)
        rw [show j + (n - j) = n by omega] at this
        rw [this] at e2
        simp only at e2
        omega
    · rw [if_neg h4]
      have := noend p (by omega)
      have h5 := at_of x (j + p) (by omega)
      rw [this] at h5
      rw [show wrap64 ((j : Int) + (p : Int)) = ((j + p : Nat) : Int) by unfold wrap64; omega, h5]

end Go.Proofs.Ytcnelmhaggpbjaa.Pure
