/- What the helpers that the rope's laws call come to: edits and lines, the program's and the references'. -/
import Derived.Test.YthjbkiomnipjiaaPAuxx
import Derived.Test.YthjbkiomnipjiaaPl
import Derived.Test.YthjbkiomnipjiaaLn
namespace Go.Proofs.Ythjbkiomnipjiaa.Aux
open Go Go.RowKit Go.Proofs.Ythjbkiomnipjiaa Go.Proofs.Ythjbkiomnipjiaa.Pl Go.Proofs.Ythjbkiomnipjiaa.PAux Go.Proofs.YthjbkiomnipjiaaW.PrintWords Go.Proofs.YthjbkiomnipjiaaW.PrintLast
theorem edits_Check_eq (k : Nat) (n s e : Int) (t : ByteArray) : edits_Check.f (k + 2) n s e t = some (chk n s e t.size) := by
  simp only [edits_Check.f, edits_Check.j0, edits_Check.j1, chk, wrap64]
  repeat' split
  all_goals (simp_all <;> omega)
theorem edits_Apply_eq (k : Nat) (x : ByteArray) (s e : Int) (t : ByteArray) : edits_Apply.f (k + 2) x s e t = some (ans x s e t) := by
  unfold edits_Apply.f ans
  rw [edits_Check_eq]
  simp only [Option.bind_some]
  by_cases h : chk x.size s e t.size = 0
  · obtain ⟨h1, h2, h3, h4, h5, h6⟩ := chk_zero.1 h
    rw [if_pos h, if_pos h, if_pos h3, if_pos (by omega), if_pos (by simp only [ByteArray.size_extract]; omega), if_pos (by omega), if_pos (by omega), if_pos (by simp only [ByteArray.size_append, ByteArray.size_extract]; omega)]
    rfl
  · rw [if_neg h, if_neg h]
theorem edits_Undo_eq (k : Nat) (x : ByteArray) (s e : Int) (t : ByteArray) : edits_Undo.f (k + 2) x s e t = some (und x s e t) := by
  unfold edits_Undo.f und
  rw [edits_Check_eq]
  simp only [Option.bind_some]
  by_cases h : chk x.size s e t.size = 0
  · obtain ⟨h1, h2, h3, h4, h5, h6⟩ := chk_zero.1 h
    rw [if_pos h, if_pos h, if_pos h3, if_pos h4, if_pos h5]
    have z : wrap64 (s + (t.size : Int)) = s + t.size := by unfold wrap64; omega
    rw [z]
  · rw [if_neg h, if_neg h]
theorem ref_Long_eq (t : ByteArray) : rootstockref01_Long.f t = some (decide ((t.size : Int) > 65536)) := rfl
theorem ref_Check_eq (k : Nat) (n s e : Int) (t : ByteArray) : rootstockref01_Check.f (k + 2) n s e t = some (chk n s e t.size) := by
  simp only [rootstockref01_Check.f, rootstockref01_Check.j0, rootstockref01_Check.j1, ref_Long_eq, Option.bind_some, chk, wrap64]
  repeat' split
  all_goals (simp_all <;> omega)
theorem ref_Apply_eq (k : Nat) (x : ByteArray) (s e : Int) (t : ByteArray) : rootstockref01_Apply.f (k + 2) x s e t = some (ans x s e t) := by
  unfold rootstockref01_Apply.f ans
  rw [ref_Long_eq]
  simp only [Option.bind_some]
  by_cases hl : (x.size : Int) > 65536
  · have hc : chk x.size s e t.size = 2 := by unfold chk; rw [if_pos (Or.inr hl)]
    rw [if_pos (decide_eq_true hl), hc]
    rfl
  · rw [if_neg (by simpa using hl), ref_Check_eq]
    simp only [Option.bind_some]
    by_cases h : chk x.size s e t.size = 0
    · obtain ⟨h1, h2, h3, h4, h5, h6⟩ := chk_zero.1 h
      rw [if_pos h, if_pos h, if_pos h3, if_pos (by omega), if_pos (by simp only [ByteArray.size_extract]; omega), if_pos (by omega), if_pos (by omega), if_pos (by simp only [ByteArray.size_append, ByteArray.size_extract]; omega)]
      rfl
    · rw [if_neg h, if_neg h]
theorem add64 (a c : Nat) (h : a + c ≤ 4611686018427387904) : wrap64 ((a : Int) + (c : Int)) = ((a + c : Nat) : Int) := by
  unfold wrap64
  omega
theorem sub64 (a b c : Nat) (h : a + b + 2 ≤ 4611686018427387904) (e : c = a + b) : (c : Int) + 1 = wrap64 (wrap64 ((a : Int) + 1 + ((b : Int) + 1)) - 1) := by
  unfold wrap64
  omega
theorem w64 {n : Int} (h0 : -4611686018427387904 ≤ n) (h1 : n ≤ 4611686018427387904) : wrap64 n = n := by
  unfold wrap64
  omega
theorem Count_eq (k : Nat) (x : ByteArray) (hx : x.size ≤ 281474976710656) : lines_Count.f k x = some (((Lib.countByte x.data.toList 10 : Nat) : Int) + 1) := if_pos hx
theorem Of_eq (k : Nat) (x : ByteArray) (n : Int) (hx : x.size ≤ 281474976710656) : lines_Of.f k x n = some (ofP x n) := if_pos hx
theorem At_eq (k : Nat) (x : ByteArray) (l c : Int) (hx : x.size ≤ 281474976710656) : lines_At.f k x l c = some (atP x l c) := if_pos hx

theorem bt_nl (x : ByteArray) (k : Nat) (h : k < x.size) : (bt x (k : Int) = 10) ↔ x[k] = 10 := by
  have e : bt x (k : Int) = (x[k].toNat : Int) := by
    have := bt_at x (k : Int) h
    exact this.symm
  rw [e]
  constructor
  · intro c
    apply UInt8.toNat.inj
    show x[k].toNat = 10
    omega
  · intro c
    rw [c]
    rfl
theorem of_l0 (x : ByteArray) (n : Nat) (hn : n ≤ x.size) (hx : x.size ≤ 140737488351232) : ∀ (d k i : Nat), i ≤ n → n - i = d → d < k →
    rootstockref02_Of.l0 k x (n : Int) (i : Int) (plc x i).1 (plc x i).2 = some (((plc x n).1 : Int), ((plc x n).2 : Int), 0) := by
  intro d
  induction d with
  | zero =>
    intro k i g0 gd gk
    obtain ⟨k, rfl⟩ : ∃ m, k = m + 1 := ⟨k - 1, by omega⟩
    obtain rfl : i = n := by omega
    simp only [rootstockref02_Of.l0]
    rw [if_neg (by omega)]
  | succ d ih =>
    intro k i g0 gd gk
    obtain ⟨k, rfl⟩ : ∃ m, k = m + 1 := ⟨k - 1, by omega⟩
    have hlt : i < x.size := by omega
    have next := ih k (i + 1) (by omega) (by omega) (by omega)
    have hle := plc_le x i
    have w1 : wrap64 ((i : Int) + 1) = ((i + 1 : Nat) : Int) := by unfold wrap64; omega
    have w2 : wrap64 (((plc x i).1 : Int) + 1) = (((plc x i).1 + 1 : Nat) : Int) := by unfold wrap64; omega
    have w3 : wrap64 (((plc x i).2 : Int) + 1) = (((plc x i).2 + 1 : Nat) : Int) := by unfold wrap64; omega
    simp only [rootstockref02_Of.l0]
    rw [if_pos (by omega), if_pos (by omega), if_pos (by omega), w1, w2, w3]
    by_cases hb : x[i] = 10
    · rw [if_pos ((bt_nl x i hlt).2 hb)]
      rw [plc_nl x i hlt hb] at next
      exact next
    · rw [if_neg (fun c => hb ((bt_nl x i hlt).1 c))]
      rw [plc_col x i hlt hb] at next
      exact next
theorem refOf_eq (k : Nat) (x : ByteArray) (n : Int) (hx : x.size ≤ 140737488351232) (hk : x.size + 3 ≤ k) : rootstockref02_Of.f k x n = some (ofP x n) := by
  obtain ⟨k, rfl⟩ : ∃ m, k = m + 1 := ⟨k - 1, by omega⟩
  unfold rootstockref02_Of.f
  by_cases h0 : n < 0
  · rw [if_pos h0, of_out x n (Or.inl h0)]
    rfl
  rw [if_neg h0]
  by_cases h1 : n > (x.size : Int)
  · rw [decide_eq_true h1, of_out x n (Or.inr h1)]
    rfl
  rw [decide_eq_false h1]
  simp only [rootstockref02_Of.j0]
  rw [if_neg (by decide)]
  obtain ⟨m, rfl⟩ : ∃ m : Nat, n = m := ⟨n.toNat, by omega⟩
  have := of_l0 x m (by omega) hx m k 0 (by omega) (by omega) (by omega)
  rw [plc_zero] at this
  rw [of_in x m (by omega)]
  exact this
/-- where each line begins, among the first n bytes -/
def beg (x : ByteArray) : Nat → List Int
  | 0 => [0]
  | n + 1 => if x.data.toList[n]? = some 10 then beg x n ++ [((n + 1 : Nat) : Int)] else beg x n
theorem get_data (x : ByteArray) (k : Nat) (h : k < x.size) : x.data.toList[k]? = some x[k] := by
  rw [Array.getElem?_toList]
  exact Array.getElem?_eq_getElem h
theorem beg_len (x : ByteArray) : ∀ n, n ≤ x.size → (beg x n).length = (plc x n).1 + 1 := by
  intro n
  induction n with
  | zero => intro _; rfl
  | succ n ih =>
    intro h
    have hlt : n < x.size := by omega
    unfold beg
    rw [get_data x n hlt]
    by_cases hb : x[n] = 10
    · rw [if_pos (by rw [hb]), plc_nl x n hlt hb, List.length_append, ih (by omega)]
      rfl
    · rw [if_neg (by simpa using hb), plc_col x n hlt hb, ih (by omega)]
/-- each beginning that is told is the first place of its line -/
theorem beg_at (x : ByteArray) : ∀ n, n ≤ x.size → ∀ l, l ≤ (plc x n).1 → ∃ j : Nat, j ≤ n ∧ plc x j = (l, 0) ∧ rd (beg x n) (l : Int) = (j : Int) := by
  intro n
  induction n with
  | zero =>
    intro _ l hl
    rw [plc_zero] at hl
    obtain rfl : l = 0 := by simpa using hl
    exact ⟨0, Nat.le_refl _, rfl, rfl⟩
  | succ n ih =>
    intro h l hl
    have hlt : n < x.size := by omega
    have hlen := beg_len x n (by omega)
    unfold beg
    rw [get_data x n hlt]
    by_cases hb : x[n] = 10
    · rw [if_pos (by rw [hb])]
      rw [plc_nl x n hlt hb] at hl
      by_cases hl2 : l ≤ (plc x n).1
      · obtain ⟨j, h1, h2, h3⟩ := ih (by omega) l hl2
        refine ⟨j, by omega, h2, ?_⟩
        rw [← h3]
        unfold rd
        rw [List.getD_eq_getElem?_getD, List.getElem?_append_left (by rw [hlen]; omega), ← List.getD_eq_getElem?_getD]
      · have he : l = (plc x n).1 + 1 := by simp only at hl; omega
        refine ⟨n + 1, Nat.le_refl _, ?_, ?_⟩
        · rw [plc_nl x n hlt hb, he]
        · unfold rd
          have e : (l : Int).toNat = (beg x n).length := by rw [hlen]; omega
          rw [e, List.getD_eq_getElem?_getD, List.getElem?_append_right (Nat.le_refl _), Nat.sub_self]
          rfl
    · rw [if_neg (by simpa using hb)]
      rw [plc_col x n hlt hb] at hl
      obtain ⟨j, h1, h2, h3⟩ := ih (by omega) l hl
      exact ⟨j, by omega, h2, h3⟩
theorem begins_l0 (x : ByteArray) (hx : x.size ≤ 1048576) : ∀ (d k i : Nat), i ≤ x.size → x.size - i = d → d < k →
    rootstockref02_Begins.l0 k x (beg x i) (i : Int) = some (beg x x.size) := by
  intro d
  induction d with
  | zero =>
    intro k i g0 gd gk
    obtain ⟨k, rfl⟩ : ∃ m, k = m + 1 := ⟨k - 1, by omega⟩
    obtain rfl : i = x.size := by omega
    simp only [rootstockref02_Begins.l0]
    rw [if_neg (by omega)]
  | succ d ih =>
    intro k i g0 gd gk
    obtain ⟨k, rfl⟩ : ∃ m, k = m + 1 := ⟨k - 1, by omega⟩
    have hlt : i < x.size := by omega
    have next := ih k (i + 1) (by omega) (by omega) (by omega)
    have hle := plc_le x i
    have hlen := beg_len x i (by omega)
    have w1 : wrap64 ((i : Int) + 1) = ((i + 1 : Nat) : Int) := by unfold wrap64; omega
    simp only [rootstockref02_Begins.l0]
    rw [if_pos (by omega), if_pos (by omega), w1]
    have hs : beg x (i + 1) = if x.data.toList[i]? = some 10 then beg x i ++ [((i + 1 : Nat) : Int)] else beg x i := rfl
    rw [hs, get_data x i hlt] at next
    by_cases hb : x[i] = 10
    · rw [if_pos ((bt_nl x i hlt).2 hb), if_pos (by omega)]
      rw [if_pos (by rw [hb])] at next
      exact next
    · rw [if_neg (fun c => hb ((bt_nl x i hlt).1 c))]
      rw [if_neg (by simpa using hb)] at next
      exact next
theorem begins_eq (x : ByteArray) (hx : x.size ≤ 1048576) (k : Nat) (hk : x.size < k) : rootstockref02_Begins.f k x = some (beg x x.size) :=
  begins_l0 x hx x.size k 0 (by omega) (by omega) hk
end Go.Proofs.Ythjbkiomnipjiaa.Aux
