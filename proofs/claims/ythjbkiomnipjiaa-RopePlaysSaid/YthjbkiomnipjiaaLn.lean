/- Places in a text, plainly: line and column behind a prefix, and which offset has a place. No program. -/
import Derived.RowKit
import Derived.Lib.Bytealg
namespace Go.Proofs.Ythjbkiomnipjiaa
open Go

/-- line and column behind some bytes -/
def lc (l : List UInt8) : Nat × Nat := l.foldl (fun p b => if b = 10 then (p.1 + 1, 0) else (p.1, p.2 + 1)) (0, 0)
theorem lc_snoc (l : List UInt8) (b : UInt8) : lc (l ++ [b]) = if b = 10 then ((lc l).1 + 1, 0) else ((lc l).1, (lc l).2 + 1) := by simp [lc]
theorem lc_le (l : List UInt8) : (lc l).1 + (lc l).2 ≤ l.length := by
  have : ∀ (l : List UInt8) (p : Nat × Nat), (l.foldl (fun p b => if b = 10 then (p.1 + 1, 0) else (p.1, p.2 + 1)) p).1 + (l.foldl (fun p b => if b = 10 then (p.1 + 1, 0) else (p.1, p.2 + 1)) p).2 ≤ p.1 + p.2 + l.length := by
    intro l
    induction l with
    | nil => intro p; simp
    | cons b l ih =>
      intro p
      simp only [List.foldl_cons, List.length_cons]
      refine Nat.le_trans (ih _) ?_
      split <;> simp only <;> omega
  have := this l (0, 0)
  simpa [lc] using this
theorem take_snoc (s : ByteArray) (k : Nat) (h : k < s.size) : s.data.toList.take (k + 1) = s.data.toList.take k ++ [s[k]] := by
  rw [List.take_succ_eq_append_getElem (by simpa using h)]; rfl
def plc (x : ByteArray) (k : Nat) : Nat × Nat := lc (x.data.toList.take k)
theorem plc_le (x : ByteArray) (k : Nat) : (plc x k).1 + (plc x k).2 ≤ k := Nat.le_trans (lc_le _) (List.length_take_le _ _)
theorem plc_nl (x : ByteArray) (k : Nat) (h : k < x.size) (hb : x[k] = 10) : plc x (k + 1) = ((plc x k).1 + 1, 0) := by
  unfold plc; rw [take_snoc x k h, lc_snoc, if_pos hb]
theorem plc_col (x : ByteArray) (k : Nat) (h : k < x.size) (hb : x[k] ≠ 10) : plc x (k + 1) = ((plc x k).1, (plc x k).2 + 1) := by
  unfold plc; rw [take_snoc x k h, lc_snoc, if_neg hb]
theorem plc_zero (x : ByteArray) : plc x 0 = (0, 0) := rfl
theorem count_le (x : ByteArray) : Lib.countByte x.data.toList 10 ≤ x.size := by
  have : x.data.toList.count 10 ≤ x.data.toList.length := List.count_le_length
  exact Nat.le_trans this (Nat.le_of_eq Array.length_toList)

def ofP (x : ByteArray) (n : Int) : Int × Int × Int := if n < 0 ∨ (x.size : Int) < n then (0, 0, 4) else ((plc x n.toNat).1, (plc x n.toNat).2, 0)

def findP (x : ByteArray) (l c : Nat) : Option Nat := (List.range (x.size + 1)).find? fun j => plc x j == (l, c)

def atP (x : ByteArray) (l c : Int) : Int × Int := if l < 0 ∨ (Lib.countByte x.data.toList 10 : Int) + 1 ≤ l ∨ c < 0 ∨ (x.size : Int) < c then (0, 4) else
  match findP x l.toNat c.toNat with
  | some j => ((j : Int), 0)
  | none => (0, 4)

theorem plc_lt (x : ByteArray) (k : Nat) (h : k < x.size) : (plc x k).1 < (plc x (k + 1)).1 ∧ (plc x (k + 1)).2 = 0 ∨ (plc x k).1 = (plc x (k + 1)).1 ∧ (plc x k).2 < (plc x (k + 1)).2 := by
  by_cases hb : x[k] = 10
  · rw [plc_nl x k h hb]; exact Or.inl ⟨Nat.lt_succ_self _, rfl⟩
  · rw [plc_col x k h hb]; exact Or.inr ⟨rfl, Nat.lt_succ_self _⟩
theorem plc_mono (x : ByteArray) (i : Nat) : ∀ d, i + d + 1 ≤ x.size → (plc x i).1 < (plc x (i + d + 1)).1 ∨ (plc x i).1 = (plc x (i + d + 1)).1 ∧ (plc x i).2 < (plc x (i + d + 1)).2 := by
  intro d
  induction d with
  | zero =>
    intro h
    rcases plc_lt x i (by omega) with h1 | h1
    · exact Or.inl h1.1
    · exact Or.inr h1
  | succ d ih =>
    intro h
    have h1 := ih (by omega)
    have h2 := plc_lt x (i + d + 1) (by omega)
    rw [show i + (d + 1) + 1 = i + d + 1 + 1 by omega]
    omega
theorem plc_lex (x : ByteArray) (i j : Nat) (h : i < j) (hj : j ≤ x.size) : (plc x i).1 < (plc x j).1 ∨ (plc x i).1 = (plc x j).1 ∧ (plc x i).2 < (plc x j).2 := by
  have := plc_mono x i (j - i - 1) (by omega)
  rwa [show i + (j - i - 1) + 1 = j by omega] at this
theorem plc_inj (x : ByteArray) (i j : Nat) (hi : i ≤ x.size) (hj : j ≤ x.size) (h : plc x i = plc x j) : i = j := by
  rcases Nat.lt_trichotomy i j with c | c | c
  · have := plc_lex x i j c hj
    rw [h] at this
    omega
  · exact c
  · have := plc_lex x j i c hi
    rw [h] at this
    omega
theorem lc_count (l : List UInt8) : (lc l).1 = l.count 10 := by
  have : ∀ (l : List UInt8) (p : Nat × Nat), (l.foldl (fun p b => if b = 10 then (p.1 + 1, 0) else (p.1, p.2 + 1)) p).1 = p.1 + l.count 10 := by
    intro l
    induction l with
    | nil => intro p; simp
    | cons b l ih =>
      intro p
      simp only [List.foldl_cons]
      rw [ih, List.count_cons]
      by_cases hb : b = 10
      · rw [if_pos hb, if_pos (by simp [hb])]
        simp only
        omega
      · rw [if_neg hb, if_neg (by simp [hb])]
        simp only
        omega
  have := this l (0, 0)
  simpa [lc] using this
theorem plc_all (x : ByteArray) : (plc x x.size).1 = Lib.countByte x.data.toList 10 := by
  unfold plc
  rw [lc_count, List.take_of_length_le (show x.data.toList.length ≤ x.size from Nat.le_of_eq Array.length_toList)]
  rfl
theorem plc_line (x : ByteArray) (n : Nat) (hn : n ≤ x.size) : (plc x n).1 ≤ Lib.countByte x.data.toList 10 := by
  rw [← plc_all]
  by_cases h : n = x.size
  · rw [h]; exact Nat.le_refl _
  · have := plc_lex x n x.size (by omega) (Nat.le_refl _)
    omega
theorem find_plc (x : ByteArray) (n : Nat) (hn : n ≤ x.size) : findP x (plc x n).1 (plc x n).2 = some n := by
  unfold findP
  refine List.find?_range_eq_some.2 ⟨by simp, by simp; omega, ?_⟩
  intro j hj
  have : plc x j ≠ plc x n := fun c => by have := plc_inj x j n (by omega) hn c; omega
  simpa using this
theorem find_some {x : ByteArray} {l c n : Nat} (h : findP x l c = some n) : n ≤ x.size ∧ plc x n = (l, c) := by
  obtain ⟨h1, h2, _⟩ := List.find?_range_eq_some.1 h
  exact ⟨by have : n < x.size + 1 := by simpa using h2
            omega, by simpa using h1⟩
theorem find_none {x : ByteArray} {l c : Nat} (h : ∀ n, n ≤ x.size → plc x n ≠ (l, c)) : findP x l c = none := by
  refine List.find?_eq_none.2 ?_
  intro j hj
  have : j < x.size + 1 := by simpa using hj
  simpa using h j (by omega)
/-- Each line up to the last one has a first place. -/
theorem line_starts (x : ByteArray) (l : Nat) : ∀ n, n ≤ x.size → l ≤ (plc x n).1 → ∃ j, j ≤ n ∧ plc x j = (l, 0) := by
  intro n
  induction n with
  | zero =>
    intro _ h
    rw [plc_zero] at h
    exact ⟨0, Nat.le_refl _, by rw [plc_zero]; have : l = 0 := by simpa using h
                                rw [this]⟩
  | succ n ih =>
    intro hn h
    by_cases hl : l ≤ (plc x n).1
    · obtain ⟨j, hj, e⟩ := ih (by omega) hl
      exact ⟨j, by omega, e⟩
    · rcases plc_lt x n (by omega) with h1 | h1
      · refine ⟨n + 1, Nat.le_refl _, ?_⟩
        have h2 : (plc x (n + 1)).1 ≤ (plc x n).1 + 1 := by
          by_cases hb : x[n] = 10
          · rw [plc_nl x n (by omega) hb]; exact Nat.le_refl _
          · rw [plc_col x n (by omega) hb]; exact Nat.le_succ _
        exact Prod.ext (by omega) h1.2
      · omega
theorem of_in (x : ByteArray) (n : Nat) (h : n ≤ x.size) : ofP x n = (((plc x n).1 : Int), ((plc x n).2 : Int), 0) := by
  unfold ofP
  rw [if_neg (by omega)]
  rfl
theorem of_out (x : ByteArray) (n : Int) (h : n < 0 ∨ (x.size : Int) < n) : ofP x n = (0, 0, 4) := if_pos h
theorem at_of (x : ByteArray) (n : Nat) (h : n ≤ x.size) : atP x (plc x n).1 (plc x n).2 = ((n : Int), 0) := by
  have h1 := plc_line x n h
  have h2 := plc_le x n
  unfold atP
  rw [if_neg (by omega)]
  have e1 : (((plc x n).1 : Nat) : Int).toNat = (plc x n).1 := by omega
  have e2 : (((plc x n).2 : Nat) : Int).toNat = (plc x n).2 := by omega
  rw [e1, e2, find_plc x n h]
theorem at_no_place (x : ByteArray) (l c : Int) (h : ∀ n : Nat, n ≤ x.size → ¬ (((plc x n).1 : Int) = l ∧ ((plc x n).2 : Int) = c)) : atP x l c = (0, 4) := by
  unfold atP
  split
  · rfl
  · rename_i hb
    rw [find_none]
    intro n hn e
    refine h n hn ?_
    rw [e]
    omega
theorem at_cases (x : ByteArray) (l c : Int) : atP x l c = (0, 4) ∨ ∃ n : Nat, n ≤ x.size ∧ ((plc x n).1 : Int) = l ∧ ((plc x n).2 : Int) = c ∧ atP x l c = ((n : Int), 0) := by
  by_cases h : ∃ n : Nat, n ≤ x.size ∧ ((plc x n).1 : Int) = l ∧ ((plc x n).2 : Int) = c
  · obtain ⟨n, hn, rfl, rfl⟩ := h
    exact Or.inr ⟨n, hn, rfl, rfl, at_of x n hn⟩
  · refine Or.inl (at_no_place x l c fun n hn e => h ⟨n, hn, e.1, e.2⟩)
def lf (p : Nat × Nat) (b : UInt8) : Nat × Nat := if b = 10 then (p.1 + 1, 0) else (p.1, p.2 + 1)
def jn (p q : Nat × Nat) : Nat × Nat := if q.1 = 0 then (p.1, p.2 + q.2) else (p.1 + q.1, q.2)
theorem jn_lf (p q : Nat × Nat) (c : UInt8) : jn (lf p c) q = jn p (jn (lf (0, 0) c) q) := by
  obtain ⟨q1, q2⟩ := q
  obtain ⟨p1, p2⟩ := p
  unfold lf
  by_cases hc : c = 10
  · simp only [if_pos hc]
    by_cases hq : q1 = 0
    · subst hq; simp [jn]
    · simp only [jn, if_neg hq]
      rw [if_neg (by omega)]
      exact Prod.ext (by simp only; omega) rfl
  · simp only [if_neg hc]
    by_cases hq : q1 = 0
    · subst hq
      simp only [jn, if_true]
      exact Prod.ext rfl (by simp only; omega)
    · simp only [jn, if_neg hq]
      rw [if_neg (by omega)]
      exact Prod.ext (by simp only; omega) rfl
theorem lf_from : ∀ (b : List UInt8) (p : Nat × Nat), b.foldl lf p = jn p (b.foldl lf (0, 0)) := by
  intro b
  induction b with
  | nil => intro p; simp [jn]
  | cons c b ih =>
    intro p
    show b.foldl lf (lf p c) = jn p (b.foldl lf (lf (0, 0) c))
    rw [ih (lf p c), ih (lf (0, 0) c), jn_lf]
/-- One text behind another one. -/
theorem lc_append (a b : List UInt8) : lc (a ++ b) = jn (lc a) (lc b) := by
  have : lc (a ++ b) = b.foldl lf (lc a) := List.foldl_append
  rw [this, lf_from]
  rfl
theorem plc_append_right (a b : ByteArray) (n : Nat) : plc (a ++ b) (a.size + n) = jn (plc a a.size) (plc b n) := by
  have e : (a ++ b).data.toList.take (a.size + n) = a.data.toList.take a.size ++ b.data.toList.take n := by
    have hl : a.data.toList.length = a.size := Array.length_toList
    rw [ByteArray.data_append, Array.toList_append, ← hl, List.take_length_add_append, List.take_length]
  show lc ((a ++ b).data.toList.take (a.size + n)) = _
  rw [e, lc_append]
  rfl
theorem count_append (a b : ByteArray) : Lib.countByte (a ++ b).data.toList 10 = Lib.countByte a.data.toList 10 + Lib.countByte b.data.toList 10 := by
  rw [ByteArray.data_append, Array.toList_append]
  exact List.count_append
end Go.Proofs.Ythjbkiomnipjiaa
